/- wal: no log, no disk; Bounds of a log. Nothing is claimed here. -/
import Derived.Test.YtjafamiaahabgaaGreatDoorAn
namespace Go.Proofs.YtjafamiaahabgaaGreatDoor
open Go.RowKit Go.Lib
set_option linter.unusedVariables false
set_option linter.unusedSimpArgs false
set_option maxRecDepth 100000

theorem nilAppend_fn (v : Value) (w : World) : Fn Tryz.prog 9 #[.pointer none, v] w fun r w' => r = .tuple #[.int .i64 0, .int .i64 1] ∧ w' = w := by
  have hL := Sep.start Tryz.prog w
  have hB := Nat.le_refl w.heap.size
  refine Fn.mk Tryz.func9 rfl (by kernel_rfl) Tryz.ntmps9 rfl (by rw [Tryz.results9]) ?_
  refine RunR ?_
  exact ⟨rfl, rfl⟩
theorem nilGet_fn (i : Int) (w : World) : Fn Tryz.prog 13 #[.pointer none, .int .i64 i] w fun r w' => r = .tuple #[.slice none 0 0, .int .i64 7] ∧ w' = w := by
  refine Fn.mk Tryz.func13 rfl (by kernel_rfl) Tryz.ntmps13 rfl (by rw [Tryz.results13]) ?_
  refine RunR ?_
  exact ⟨rfl, rfl⟩
theorem nilBounds_fn (w : World) : Fn Tryz.prog 12 #[.pointer none] w fun r w' => r = .tuple #[.int .i64 0, .int .i64 0] ∧ w' = w := by
  refine Fn.mk Tryz.func12 rfl (by kernel_rfl) Tryz.ntmps12 rfl (by rw [Tryz.results12]) ?_
  refine RunR ?_
  exact ⟨rfl, rfl⟩
theorem nilSync_fn (w : World) : Fn Tryz.prog 11 #[.pointer none] w fun r w' => r = .int .i64 1 ∧ w' = w := by
  refine Fn.mk Tryz.func11 rfl (by kernel_rfl) Tryz.ntmps11 rfl (by rw [Tryz.results11]) ?_
  refine RunR ?_
  exact ⟨rfl, rfl⟩
theorem nilMay_fn (i : Int) (w : World) : Fn Tryz.prog 35 #[.pointer none, .int .i64 i] w fun r w' => r = .bool false ∧ w' = w := by
  refine Fn.mk Tryz.func35 rfl (by kernel_rfl) Tryz.ntmps35 rfl (by rw [Tryz.results35]) ?_
  refine RunR ?_
  refine (nilBounds_fn w).mono fun r w1 ⟨hr, hw⟩ => ?_
  subst hr; rw [hw]
  conv => whnf
  refine RunR ?_
  exact ⟨rfl, rfl⟩
theorem nilCut_fn (i : Int) (w : World) : Fn Tryz.prog 16 #[.pointer none, .int .i64 i] w fun r w' => r = .int .i64 1 ∧ w' = w := by
  refine Fn.mk Tryz.func16 rfl (by kernel_rfl) Tryz.ntmps16 rfl (by rw [Tryz.results16]) ?_
  refine RunR ?_
  refine (nilMay_fn i w).mono fun r w1 ⟨hr, hw⟩ => ?_
  subst hr; rw [hw]
  conv => whnf
  refine RunR ?_
  exact ⟨rfl, rfl⟩
theorem nilDrop_fn (i : Int) (w : World) : Fn Tryz.prog 10 #[.pointer none, .int .i64 i] w fun r w' => r = .int .i64 1 ∧ w' = w := by
  refine Fn.mk Tryz.func10 rfl (by kernel_rfl) Tryz.ntmps10 rfl (by rw [Tryz.results10]) ?_
  refine RunR ?_
  refine (nilMay_fn i w).mono fun r w1 ⟨hr, hw⟩ => ?_
  subst hr; rw [hw]
  conv => whnf
  refine RunR ?_
  exact ⟨rfl, rfl⟩
theorem nilOpen_fn (pre : ByteArray) (w : World) : Fn Tryz.prog 8 #[.pointer none, .string pre] w fun r w' => r = .tuple #[.pointer none, .int .i64 1] ∧ w' = w := by
  refine Fn.mk Tryz.func8 rfl (by kernel_rfl) Tryz.ntmps8 rfl (by rw [Tryz.results8]) ?_
  refine RunR ?_
  exact ⟨rfl, rfl⟩
theorem logBounds_fn {B d l room : Nat} {pre : ByteArray} {S : List Fl} {G : List Wg} {af : Nat} {F : List Res} {w0 w : World} (hG : LgS B w0 w d l pre room S G af F) :
    Fn Tryz.prog 12 #[.pointer (some ⟨l, 0, none⟩)] w fun r w' => r = .tuple #[.int .i64 (lowW G af : Int), .int .i64 (af : Int)] ∧ LgS B w0 w' d l pre room S G af F := by
  obtain ⟨n, sg, rfl, hok, hD⟩ := hG.of
  obtain ⟨dL, hL, hB, close⟩ := hD.open
  have hsl : Sl w (n.val (ptrs sg)) (ptrs sg) := Wn.sl hok hL (fun R hR => by simp [logR]; exact .inr (.inl hR))
  refine (bounds_fn (fi := lowW (sg.map Sg.wg) af) w (hL.hold (.blk l (logC d pre n sg af) 65) (.head _)) hsl (fun h => by
    cases sg with
    | nil => rfl
    | cons s r => cases h) (fun p ps' h => by
    cases sg with
    | nil => cases h
    | cons s r =>
      injection h with h1 h2
      exact ⟨s.b, _, _, _, h1.symm, hL.hold s.hd (by simp [logR, Sg.res])⟩)).mono fun r w ⟨hr, hw⟩ => ?_
  exact ⟨hr, ⟨n, sg, rfl, hok, close (F' := logR l d pre n sg af ++ F) (hL.call hB (Turns.of_below hw)) (Nat.le_trans hB hw.size)⟩⟩
end Go.Proofs.YtjafamiaahabgaaGreatDoor
