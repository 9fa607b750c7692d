/- wal: no log, no disk; Bounds of a log. Nothing is claimed here. -/
import Derived.Test.YtjafamiaahabgaaDoorAn
namespace Go.Proofs.YtjafamiaahabgaaDoor
open Go.RowKit Go.Lib
set_option linter.unusedVariables false
set_option linter.unusedSimpArgs false
set_option maxRecDepth 100000

theorem nilAppend_fn (v : Value) (w : World) : Fn Tryd.prog 7 #[.pointer none, v] w fun r w' => r = .tuple #[.int .i64 0, .int .i64 1] ∧ w' = w := by
  have hL := Sep.start Tryd.prog w
  have hB := Nat.le_refl w.heap.size
  refine Fn.mk Tryd.func7 rfl (by kernel_rfl) Tryd.ntmps7 rfl (by rw [Tryd.results7]) ?_
  refine RunR ?_
  exact ⟨rfl, rfl⟩
theorem nilGet_fn (i : Int) (w : World) : Fn Tryd.prog 10 #[.pointer none, .int .i64 i] w fun r w' => r = .tuple #[.slice none 0 0, .int .i64 7] ∧ w' = w := by
  refine Fn.mk Tryd.func10 rfl (by kernel_rfl) Tryd.ntmps10 rfl (by rw [Tryd.results10]) ?_
  refine RunR ?_
  exact ⟨rfl, rfl⟩
theorem nilBounds_fn (w : World) : Fn Tryd.prog 9 #[.pointer none] w fun r w' => r = .tuple #[.int .i64 0, .int .i64 0] ∧ w' = w := by
  refine Fn.mk Tryd.func9 rfl (by kernel_rfl) Tryd.ntmps9 rfl (by rw [Tryd.results9]) ?_
  refine RunR ?_
  exact ⟨rfl, rfl⟩
theorem nilSync_fn (w : World) : Fn Tryd.prog 6 #[.pointer none] w fun r w' => r = .int .i64 1 ∧ w' = w := by
  refine Fn.mk Tryd.func6 rfl (by kernel_rfl) Tryd.ntmps6 rfl (by rw [Tryd.results6]) ?_
  refine RunR ?_
  exact ⟨rfl, rfl⟩
theorem nilOpen_fn (pre : ByteArray) (w : World) : Fn Tryd.prog 5 #[.pointer none, .string pre] w fun r w' => r = .tuple #[.pointer none, .int .i64 1] ∧ w' = w := by
  refine Fn.mk Tryd.func5 rfl (by kernel_rfl) Tryd.ntmps5 rfl (by rw [Tryd.results5]) ?_
  refine RunR ?_
  exact ⟨rfl, rfl⟩
theorem logBounds_fn {B d l room : Nat} {pre : ByteArray} {S : List Fl} {G : List Wg} {af : Nat} {F : List Res} {w0 w : World} (hG : LgS B w0 w d l pre room S G af F) :
    Fn Tryd.prog 9 #[.pointer (some ⟨l, 0, none⟩)] w fun r w' => r = .tuple #[.int .i64 (lowW G af : Int), .int .i64 (af : Int)] ∧ LgS B w0 w' d l pre room S G af F := by
  obtain ⟨n, sg, rfl, hok, hD⟩ := hG.of
  obtain ⟨dL, hL, hB, close⟩ := hD.open
  have hsl : Sl w (n.val (ptrs sg)) (ptrs sg) := Wn.sl hok hL (fun R hR => by simp [logR]; exact .inr (.inl hR))
  refine (bounds_fn (fi := lowW (sg.map Sg.wg) af) w (hL.hold (.blk l (logC d pre n sg af) 47) (.head _)) hsl (fun h => by
    cases sg with
    | nil => rfl
    | cons s r => cases h) (fun p ps' h => by
    cases sg with
    | nil => cases h
    | cons s r =>
      injection h with h1 h2
      exact ⟨s.b, _, _, _, h1.symm, hL.hold s.hd (by simp [logR, Sg.res])⟩)).mono fun r w ⟨hr, hw⟩ => ?_
  exact ⟨hr, ⟨n, sg, rfl, hok, close (F' := logR l d pre n sg af ++ F) (hL.call hB (Turns.of_below hw)) (Nat.le_trans hB hw.size)⟩⟩
end Go.Proofs.YtjafamiaahabgaaDoor
