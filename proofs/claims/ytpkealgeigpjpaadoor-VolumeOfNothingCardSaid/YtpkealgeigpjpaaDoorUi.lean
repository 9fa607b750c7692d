/- VolumeOfNothing. Nothing is claimed here. -/
import Derived.Test.YtpkealgeigpjpaaDoorUh
namespace Go.Proofs.YtpkealgeigpjpaaDoor
open Go.RowKit
open Go.Maps (Keyed)
set_option linter.unusedVariables false
set_option linter.unusedSimpArgs false
set_option maxRecDepth 100000

section
variable (w : World)
theorem vgetNil_fn (k c : Int) : Fn Tryd.prog 15 #[.pointer none, .int .u64 k, .int .u32 c] w fun r w' => r = .tuple #[.slice none 0 0, .int .i64 7] ∧ w' = w := by
  have hL := Sep.start Tryd.prog w
  have hB := Nat.le_refl w.heap.size
  refine Fn.mk Tryd.func15 rfl (by kernel_rfl) Tryd.ntmps15 rfl (by rw [Tryd.results15]) ?_
  repeat (first | (refine RunH ?_; intro w hL hB; try clear w) | (refine Both.mk ?_ ?_ <;> conv => whnf) | fail)
  exact ⟨rfl, rfl⟩
theorem vcreateNil_fn (id : Int) : Fn Tryd.prog 8 #[.pointer none, .int .i64 id] w fun r w' => r = .tuple #[.pointer none, .int .i64 1] ∧ w' = w := by
  have hL := Sep.start Tryd.prog w
  have hB := Nat.le_refl w.heap.size
  refine Fn.mk Tryd.func8 rfl (by kernel_rfl) Tryd.ntmps8 rfl (by rw [Tryd.results8]) ?_
  repeat (first | (refine RunH ?_; intro w hL hB; try clear w) | (refine Both.mk ?_ ?_ <;> conv => whnf) | fail)
  exact ⟨rfl, rfl⟩
theorem vopenNil_fn (id : Int) : Fn Tryd.prog 13 #[.pointer none, .int .i64 id] w fun r w' => r = .tuple #[.pointer none, .int .i64 1] ∧ w' = w := by
  have hL := Sep.start Tryd.prog w
  have hB := Nat.le_refl w.heap.size
  refine Fn.mk Tryd.func13 rfl (by kernel_rfl) Tryd.ntmps13 rfl (by rw [Tryd.results13]) ?_
  repeat (first | (refine RunH ?_; intro w hL hB; try clear w) | (refine Both.mk ?_ ?_ <;> conv => whnf) | fail)
  exact ⟨rfl, rfl⟩
theorem vputNil_fn (k c : Int) (d : Bool) (a : Option Addr) (n cp : Nat) : Fn Tryd.prog 9 #[.pointer none, .agg #[.int .u64 k, .int .u32 c, .bool d, .slice a n cp]] w fun r w' => r = .int .i64 1 ∧ Below w.heap.size w w' := by
  have hL := Sep.start Tryd.prog w
  have hB := Nat.le_refl w.heap.size
  refine Fn.mk Tryd.func9 rfl (by kernel_rfl) Tryd.ntmps9 rfl (by rw [Tryd.results9]) ?_
  repeat (first | (refine RunH ?_; intro w hL hB; try clear w) | (refine Both.mk ?_ ?_ <;> conv => whnf) | fail)
  (refine Nw.sep hL hB (fun t3 w hL hB ht3 => ?_); conv => whnf)
  repeat (first | (refine RunH ?_; intro w hL hB; try clear w) | (refine Both.mk ?_ ?_ <;> conv => whnf) | fail)
  exact ⟨rfl, hL.below⟩
theorem vplacesNil_fn : Fn Tryd.prog 18 #[.pointer none] w fun r w' => r = .slice none 0 0 ∧ w' = w := by
  have hL := Sep.start Tryd.prog w
  have hB := Nat.le_refl w.heap.size
  refine Fn.mk Tryd.func18 rfl (by kernel_rfl) Tryd.ntmps18 rfl (by rw [Tryd.results18]) ?_
  repeat (first | (refine RunH ?_; intro w hL hB; try clear w) | (refine Both.mk ?_ ?_ <;> conv => whnf) | fail)
  exact ⟨rfl, rfl⟩
theorem vneedlesNil_fn : Fn Tryd.prog 21 #[.pointer none] w fun r w' => r = .slice none 0 0 ∧ w' = w := by
  have hL := Sep.start Tryd.prog w
  have hB := Nat.le_refl w.heap.size
  refine Fn.mk Tryd.func21 rfl (by kernel_rfl) Tryd.ntmps21 rfl (by rw [Tryd.results21]) ?_
  repeat (first | (refine RunH ?_; intro w hL hB; try clear w) | (refine Both.mk ?_ ?_ <;> conv => whnf) | fail)
  exact ⟨rfl, rfl⟩
theorem vsizeNil_fn : Fn Tryd.prog 10 #[.pointer none] w fun r w' => r = .int .i64 0 ∧ w' = w := by
  have hL := Sep.start Tryd.prog w
  have hB := Nat.le_refl w.heap.size
  refine Fn.mk Tryd.func10 rfl (by kernel_rfl) Tryd.ntmps10 rfl (by rw [Tryd.results10]) ?_
  repeat (first | (refine RunH ?_; intro w hL hB; try clear w) | (refine Both.mk ?_ ?_ <;> conv => whnf) | fail)
  exact ⟨rfl, rfl⟩
theorem vdirtNil_fn : Fn Tryd.prog 19 #[.pointer none] w fun r w' => r = .int .i64 0 ∧ w' = w := by
  have hL := Sep.start Tryd.prog w
  have hB := Nat.le_refl w.heap.size
  refine Fn.mk Tryd.func19 rfl (by kernel_rfl) Tryd.ntmps19 rfl (by rw [Tryd.results19]) ?_
  repeat (first | (refine RunH ?_; intro w hL hB; try clear w) | (refine Both.mk ?_ ?_ <;> conv => whnf) | fail)
  exact ⟨rfl, rfl⟩
end
set_option maxHeartbeats 4000000 in
theorem ofNothing_fn (k c : Int) (d : Bool) (nv : Value) (l : List UInt8) (id : Int) (w0 : World) (hs : Sl w0 nv (bv l)) :
    Fn Tryd.prog 6 #[.agg #[.int .u64 k, .int .u32 c, .bool d, nv], .int .i64 id] w0 fun r w' => r = .bool true ∧ Below w0.heap.size w0 w' := by
  have hL := Sep.start Tryd.prog w0
  have hB := Nat.le_refl w0.heap.size
  have hle := hs.le
  obtain ⟨a, cp, rfl⟩ := hs.shape
  simp only [bv_length] at *
  refine Fn.mk Tryd.func6 rfl (by kernel_rfl) Tryd.ntmps6 rfl (by rw [Tryd.results6]) ?_
  repeat (first | (refine RunH ?_; intro w hL hB; try clear w) | (refine Both.mk ?_ ?_ <;> conv => whnf) | fail)
  (refine Nw.sep hL hB (fun t2 w hL hB ht2 => ?_); conv => whnf)
  by_cases hbig : 20000 < l.length
  · repeat (first | (refine RunH ?_; intro w hL hB; try clear w) | (refine Both.mk ?_ ?_ <;> conv => whnf) | fail)
    exact ⟨rfl, hL.below⟩
  repeat (first | (refine RunH ?_; intro w hL hB; try clear w) | (refine Both.mk ?_ ?_ <;> conv => whnf) | (refine (vgetNil_fn _ _ _).mono fun r w1 hr => ?_; obtain ⟨hr, hw⟩ := hr; subst hr; subst hw; conv => whnf) | (refine (vcreateNil_fn _ _).mono fun r w1 hr => ?_; obtain ⟨hr, hw⟩ := hr; subst hr; subst hw; conv => whnf) | (refine (vopenNil_fn _ _).mono fun r w1 hr => ?_; obtain ⟨hr, hw⟩ := hr; subst hr; subst hw; conv => whnf) | (refine (vputNil_fn _ _ _ _ _ _ _).mono fun r w hr => ?_; obtain ⟨hr, hw⟩ := hr; subst hr; replace hL := hL.call hB (Turns.of_below hw); replace hB := Nat.le_trans hB hw.size; conv => whnf) | (refine (vplacesNil_fn _).mono fun r w1 hr => ?_; obtain ⟨hr, hw⟩ := hr; subst hr; subst hw; conv => whnf) | (refine (vneedlesNil_fn _).mono fun r w1 hr => ?_; obtain ⟨hr, hw⟩ := hr; subst hr; subst hw; conv => whnf) | (refine (vsizeNil_fn _).mono fun r w1 hr => ?_; obtain ⟨hr, hw⟩ := hr; subst hr; subst hw; conv => whnf) | (refine (vdirtNil_fn _).mono fun r w1 hr => ?_; obtain ⟨hr, hw⟩ := hr; subst hr; subst hw; conv => whnf) | (refine (knownV_fn _).mono fun r w hr => ?_; obtain ⟨hr, hw⟩ := hr; subst hr; replace hL := hL.call hB (Turns.of_below hw); replace hB := Nat.le_trans hB hw.size; conv => whnf) | fail)
  exact ⟨rfl, hL.below⟩
end Go.Proofs.YtpkealgeigpjpaaDoor
