/- DiskOfNothing. Nothing is claimed here. -/
import Derived.Test.YtpfmnpkjhnbkhaaDl
namespace Go.Proofs.Ytpfmnpkjhnbkhaa
open Go.RowKit
open Go.Maps (Keyed)
set_option linter.unusedVariables false
set_option linter.unusedSimpArgs false
set_option maxRecDepth 100000

theorem of_nil (nm : ByteArray) (w0 : World) : Fn Try.prog 32 #[.pointer none, .string nm] w0 fun r w' => r = .tuple #[.agg #[.slice none 0 0, .int .i64 0], .bool false] ∧ Below w0.heap.size w0 w' := by
  have hL := Sep.start Try.prog w0
  have hB := Nat.le_refl w0.heap.size
  refine Fn.mk Try.func32 rfl (by kernel_rfl) Try.ntmps32 rfl (by rw [Try.results32]) ?_
  repeat (first | (refine RunH ?_; intro w hL hB; try clear w) | (refine Both.mk ?_ ?_ <;> conv => whnf) | (refine Nw.sep hL hB (fun b1 w hL hB hb1 => ?_); conv => whnf) | fail)
  exact ⟨rfl, hL.below⟩
theorem read_nil (nm : ByteArray) (w0 : World) : Fn Try.prog 14 #[.pointer none, .string nm] w0 fun r w' => r = .tuple #[.slice none 0 0, .int .i64 7] ∧ Below w0.heap.size w0 w' := by
  have hL := Sep.start Try.prog w0
  have hB := Nat.le_refl w0.heap.size
  refine Fn.mk Try.func14 rfl (by kernel_rfl) Try.ntmps14 rfl (by rw [Try.results14]) ?_
  repeat (first | (refine RunH ?_; intro w hL hB; try clear w) | (refine Both.mk ?_ ?_ <;> conv => whnf) | (refine (of_nil nm _).mono fun r w hr => ?_; obtain ⟨hr, hw⟩ := hr; subst hr; replace hL := hL.call hB (Turns.of_below hw); replace hB := Nat.le_trans hB hw.size; conv => whnf) | (refine Nw.sep hL hB (fun b1 w hL hB hb1 => ?_); conv => whnf) | fail)
  exact ⟨rfl, hL.below⟩
theorem size_nil (nm : ByteArray) (w0 : World) : Fn Try.prog 18 #[.pointer none, .string nm] w0 fun r w' => r = .tuple #[.int .i64 0, .bool false] ∧ Below w0.heap.size w0 w' := by
  have hL := Sep.start Try.prog w0
  have hB := Nat.le_refl w0.heap.size
  refine Fn.mk Try.func18 rfl (by kernel_rfl) Try.ntmps18 rfl (by rw [Try.results18]) ?_
  repeat (first | (refine RunH ?_; intro w hL hB; try clear w) | (refine Both.mk ?_ ?_ <;> conv => whnf) | (refine (of_nil nm _).mono fun r w hr => ?_; obtain ⟨hr, hw⟩ := hr; subst hr; replace hL := hL.call hB (Turns.of_below hw); replace hB := Nat.le_trans hB hw.size; conv => whnf) | (refine Nw.sep hL hB (fun b1 w hL hB hb1 => ?_); conv => whnf) | fail)
  exact ⟨rfl, hL.below⟩
theorem sync_nil (nm : ByteArray) (w0 : World) : Fn Try.prog 12 #[.pointer none, .string nm] w0 fun r w' => r = .int .i64 7 ∧ Below w0.heap.size w0 w' := by
  have hL := Sep.start Try.prog w0
  have hB := Nat.le_refl w0.heap.size
  refine Fn.mk Try.func12 rfl (by kernel_rfl) Try.ntmps12 rfl (by rw [Try.results12]) ?_
  repeat (first | (refine RunH ?_; intro w hL hB; try clear w) | (refine Both.mk ?_ ?_ <;> conv => whnf) | (refine (of_nil nm _).mono fun r w hr => ?_; obtain ⟨hr, hw⟩ := hr; subst hr; replace hL := hL.call hB (Turns.of_below hw); replace hB := Nat.le_trans hB hw.size; conv => whnf) | (refine Nw.sep hL hB (fun b1 w hL hB hb1 => ?_); conv => whnf) | fail)
  exact ⟨rfl, hL.below⟩
theorem remove_nil (nm : ByteArray) (w0 : World) : Fn Try.prog 23 #[.pointer none, .string nm] w0 fun r w' => r = .int .i64 7 ∧ Below w0.heap.size w0 w' := by
  have hL := Sep.start Try.prog w0
  have hB := Nat.le_refl w0.heap.size
  refine Fn.mk Try.func23 rfl (by kernel_rfl) Try.ntmps23 rfl (by rw [Try.results23]) ?_
  repeat (first | (refine RunH ?_; intro w hL hB; try clear w) | (refine Both.mk ?_ ?_ <;> conv => whnf) | (refine (of_nil nm _).mono fun r w hr => ?_; obtain ⟨hr, hw⟩ := hr; subst hr; replace hL := hL.call hB (Turns.of_below hw); replace hB := Nat.le_trans hB hw.size; conv => whnf) | (refine Nw.sep hL hB (fun b1 w hL hB hb1 => ?_); conv => whnf) | fail)
  exact ⟨rfl, hL.below⟩
theorem rot_nil (nm : ByteArray) (n x : Int) (w0 : World) : Fn Try.prog 22 #[.pointer none, .string nm, .int .i64 n, .int .u8 x] w0 fun r w' => r = .int .i64 7 ∧ Below w0.heap.size w0 w' := by
  have hL := Sep.start Try.prog w0
  have hB := Nat.le_refl w0.heap.size
  refine Fn.mk Try.func22 rfl (by kernel_rfl) Try.ntmps22 rfl (by rw [Try.results22]) ?_
  repeat (first | (refine RunH ?_; intro w hL hB; try clear w) | (refine Both.mk ?_ ?_ <;> conv => whnf) | (refine (of_nil nm _).mono fun r w hr => ?_; obtain ⟨hr, hw⟩ := hr; subst hr; replace hL := hL.call hB (Turns.of_below hw); replace hB := Nat.le_trans hB hw.size; conv => whnf) | (refine Nw.sep hL hB (fun b1 w hL hB hb1 => ?_); conv => whnf) | fail)
  exact ⟨rfl, hL.below⟩
theorem append_nil (nm : ByteArray) (p : Value) (w0 : World) : Fn Try.prog 11 #[.pointer none, .string nm, p] w0 fun r w' => r = .int .i64 1 ∧ Below w0.heap.size w0 w' := by
  have hL := Sep.start Try.prog w0
  have hB := Nat.le_refl w0.heap.size
  refine Fn.mk Try.func11 rfl (by kernel_rfl) Try.ntmps11 rfl (by rw [Try.results11]) ?_
  repeat (first | (refine RunH ?_; intro w hL hB; try clear w) | (refine Both.mk ?_ ?_ <;> conv => whnf) | fail)
  exact ⟨rfl, hL.below⟩
theorem rename_nil (a z : ByteArray) (w0 : World) : Fn Try.prog 20 #[.pointer none, .string a, .string z] w0 fun r w' => r = .int .i64 1 ∧ Below w0.heap.size w0 w' := by
  have hL := Sep.start Try.prog w0
  have hB := Nat.le_refl w0.heap.size
  refine Fn.mk Try.func20 rfl (by kernel_rfl) Try.ntmps20 rfl (by rw [Try.results20]) ?_
  repeat (first | (refine RunH ?_; intro w hL hB; try clear w) | (refine Both.mk ?_ ?_ <;> conv => whnf) | fail)
  exact ⟨rfl, hL.below⟩
theorem cut_nil (nm : ByteArray) (n : Int) (w0 : World) : Fn Try.prog 30 #[.pointer none, .string nm, .int .i64 n] w0 fun r w' => r = .int .i64 1 ∧ Below w0.heap.size w0 w' := by
  have hL := Sep.start Try.prog w0
  have hB := Nat.le_refl w0.heap.size
  refine Fn.mk Try.func30 rfl (by kernel_rfl) Try.ntmps30 rfl (by rw [Try.results30]) ?_
  repeat (first | (refine RunH ?_; intro w hL hB; try clear w) | (refine Both.mk ?_ ?_ <;> conv => whnf) | fail)
  exact ⟨rfl, hL.below⟩
theorem list_nil (w0 : World) : Fn Try.prog 17 #[.pointer none] w0 fun r w' => r = .slice none 0 0 ∧ Below w0.heap.size w0 w' := by
  have hL := Sep.start Try.prog w0
  have hB := Nat.le_refl w0.heap.size
  refine Fn.mk Try.func17 rfl (by kernel_rfl) Try.ntmps17 rfl (by rw [Try.results17]) ?_
  repeat (first | (refine RunH ?_; intro w hL hB; try clear w) | (refine Both.mk ?_ ?_ <;> conv => whnf) | fail)
  exact ⟨rfl, hL.below⟩
theorem used_nil (w0 : World) : Fn Try.prog 19 #[.pointer none] w0 fun r w' => r = .int .i64 0 ∧ Below w0.heap.size w0 w' := by
  have hL := Sep.start Try.prog w0
  have hB := Nat.le_refl w0.heap.size
  refine Fn.mk Try.func19 rfl (by kernel_rfl) Try.ntmps19 rfl (by rw [Try.results19]) ?_
  repeat (first | (refine RunH ?_; intro w hL hB; try clear w) | (refine Both.mk ?_ ?_ <;> conv => whnf) | fail)
  exact ⟨rfl, hL.below⟩
theorem crash_nil (n : Int) (w0 : World) : Fn Try.prog 13 #[.pointer none, .int .i64 n] w0 fun r w' => True ∧ Below w0.heap.size w0 w' := by
  have hL := Sep.start Try.prog w0
  have hB := Nat.le_refl w0.heap.size
  refine Fn.mk Try.func13 rfl (by kernel_rfl) Try.ntmps13 rfl (by rw [Try.results13]) ?_
  repeat (first | (refine RunH ?_; intro w hL hB; try clear w) | (refine Both.mk ?_ ?_ <;> conv => whnf) | fail)
  exact ⟨trivial, hL.below⟩
theorem copy_nil (w0 : World) : Fn Try.prog 21 #[.pointer none] w0 fun r w' => r = .pointer none ∧ Below w0.heap.size w0 w' := by
  have hL := Sep.start Try.prog w0
  have hB := Nat.le_refl w0.heap.size
  refine Fn.mk Try.func21 rfl (by kernel_rfl) Try.ntmps21 rfl (by rw [Try.results21]) ?_
  repeat (first | (refine RunH ?_; intro w hL hB; try clear w) | (refine Both.mk ?_ ?_ <;> conv => whnf) | fail)
  exact ⟨rfl, hL.below⟩
set_option maxHeartbeats 4000000 in
theorem ofNothing_fn (nm : ByteArray) (v : Value) (l : List UInt8) (n : Int) (w0 : World) (hnm : nm.size ≤ maxLen) (hs : Sl w0 v (bv l)) (hn : (Lit.int .i64 n).wf = true) (hx1 : l.length ≤ 140737488355328) :
    Fn Try.prog 9 #[.string nm, v, .int .i64 n] w0 fun r w' => r = .bool true ∧ Below w0.heap.size w0 w' := by
  have hL := Sep.start Try.prog w0
  have hB := Nat.le_refl w0.heap.size
  obtain ⟨a1, c1, rfl⟩ := hs.shape
  simp only [bv_length, maxLen] at *
  refine Fn.mk Try.func9 rfl (by kernel_rfl) Try.ntmps9 rfl (by rw [Try.results9]) ?_
  repeat (first | (refine RunH ?_; intro w hL hB; try clear w) | (refine Both.mk ?_ ?_ <;> conv => whnf) | fail)
  refine Ar.mk ?_
  generalize IntKind.i64.wrap (_ + _) = T
  conv => whnf
  by_cases hbig : 8000 < T
  · repeat (first | (refine RunH ?_; intro w hL hB; try clear w) | (refine Both.mk ?_ ?_ <;> conv => whnf) | fail)
    exact ⟨rfl, hL.below⟩
  repeat (first | (refine RunH ?_; intro w hL hB; try clear w) | (refine Both.mk ?_ ?_ <;> conv => whnf) | (refine (read_nil nm _).mono fun r w hr => ?_; obtain ⟨hr, hw⟩ := hr; subst hr; replace hL := hL.call hB (Turns.of_below hw); replace hB := Nat.le_trans hB hw.size; conv => whnf) | (refine (size_nil nm _).mono fun r w hr => ?_; obtain ⟨hr, hw⟩ := hr; subst hr; replace hL := hL.call hB (Turns.of_below hw); replace hB := Nat.le_trans hB hw.size; conv => whnf) | (refine (crash_nil n _).mono fun r w ⟨hr, hw⟩ => ?_; replace hL := hL.call hB (Turns.of_below hw); replace hB := Nat.le_trans hB hw.size; conv => whnf) | (refine (append_nil nm _ _).mono fun r w hr => ?_; obtain ⟨hr, hw⟩ := hr; subst hr; replace hL := hL.call hB (Turns.of_below hw); replace hB := Nat.le_trans hB hw.size; conv => whnf) | (refine (sync_nil nm _).mono fun r w hr => ?_; obtain ⟨hr, hw⟩ := hr; subst hr; replace hL := hL.call hB (Turns.of_below hw); replace hB := Nat.le_trans hB hw.size; conv => whnf) | (refine (rename_nil nm nm _).mono fun r w hr => ?_; obtain ⟨hr, hw⟩ := hr; subst hr; replace hL := hL.call hB (Turns.of_below hw); replace hB := Nat.le_trans hB hw.size; conv => whnf) | (refine (remove_nil nm _).mono fun r w hr => ?_; obtain ⟨hr, hw⟩ := hr; subst hr; replace hL := hL.call hB (Turns.of_below hw); replace hB := Nat.le_trans hB hw.size; conv => whnf) | (refine (cut_nil nm n _).mono fun r w hr => ?_; obtain ⟨hr, hw⟩ := hr; subst hr; replace hL := hL.call hB (Turns.of_below hw); replace hB := Nat.le_trans hB hw.size; conv => whnf) | (refine (list_nil _).mono fun r w hr => ?_; obtain ⟨hr, hw⟩ := hr; subst hr; replace hL := hL.call hB (Turns.of_below hw); replace hB := Nat.le_trans hB hw.size; conv => whnf) | (refine (used_nil _).mono fun r w hr => ?_; obtain ⟨hr, hw⟩ := hr; subst hr; replace hL := hL.call hB (Turns.of_below hw); replace hB := Nat.le_trans hB hw.size; conv => whnf) | (refine (rot_nil nm n 1 _).mono fun r w hr => ?_; obtain ⟨hr, hw⟩ := hr; subst hr; replace hL := hL.call hB (Turns.of_below hw); replace hB := Nat.le_trans hB hw.size; conv => whnf) | (refine (copy_nil _).mono fun r w hr => ?_; obtain ⟨hr, hw⟩ := hr; subst hr; replace hL := hL.call hB (Turns.of_below hw); replace hB := Nat.le_trans hB hw.size; conv => whnf) | (refine (known_fn _).mono fun r w hr => ?_; obtain ⟨hr, hw⟩ := hr; subst hr; replace hL := hL.call hB (Turns.of_below hw); replace hB := Nat.le_trans hB hw.size; conv => whnf) | fail)
  exact ⟨rfl, hL.below⟩
end Go.Proofs.Ytpfmnpkjhnbkhaa
