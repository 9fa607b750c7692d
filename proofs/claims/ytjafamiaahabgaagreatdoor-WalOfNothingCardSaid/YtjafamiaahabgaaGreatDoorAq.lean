/- wal: the law WalOfNothing. Nothing is claimed here. -/
import Derived.Test.YtjafamiaahabgaaGreatDoorAp
namespace Go.Proofs.YtjafamiaahabgaaGreatDoor
open Go.RowKit Go.Lib
set_option linter.unusedVariables false
set_option linter.unusedSimpArgs false
set_option maxRecDepth 100000

set_option maxHeartbeats 8000000 in
theorem walOfNothing_fn (v : Value) (b : List UInt8) (i : Int) (w0 : World) (htab : TabIs Tryz.prog w0 "internal/strconv.uint64pow10" .u64 pow10Tab) (hs : Sl w0 v (bv b)) :
    Fn Tryz.prog 5 #[v, .int .i64 i] w0 fun r w' => r = .bool true ∧ Below w0.heap.size w0 w' := by
  obtain ⟨a, c, rfl⟩ := hs.shape
  have hL := Sep.start Tryz.prog w0
  have hB := Nat.le_refl w0.heap.size
  rw [bv_length] at *
  refine Fn.mk Tryz.func5 rfl (by kernel_rfl) Tryz.ntmps5 rfl (by rw [Tryz.results5]) ?_
  by_cases hb : 20000 < b.length
  · repeat (first | (refine RunH ?_; intro w hL hB; try clear w) | (refine Both.mk ?_ ?_ <;> conv => whnf) | fail)
    exact ⟨rfl, hL.below⟩
  repeat (first | (refine RunH ?_; intro w hL hB; try clear w) | (refine Both.mk ?_ ?_ <;> conv => whnf) | (refine (nilAppend_fn _ _).mono fun r w1 hr => ?_; obtain ⟨hr, hw⟩ := hr; subst hr; subst hw; conv => whnf) | (refine (nilGet_fn _ _).mono fun r w1 hr => ?_; obtain ⟨hr, hw⟩ := hr; subst hr; subst hw; conv => whnf) | (refine (nilBounds_fn _).mono fun r w1 hr => ?_; obtain ⟨hr, hw⟩ := hr; subst hr; subst hw; conv => whnf) | (refine (nilOpen_fn _ _).mono fun r w1 hr => ?_; obtain ⟨hr, hw⟩ := hr; subst hr; subst hw; conv => whnf) | (refine (nilSync_fn _).mono fun r w1 hr => ?_; obtain ⟨hr, hw⟩ := hr; subst hr; subst hw; conv => whnf) | (refine (nilCut_fn _ _).mono fun r w1 hr => ?_; obtain ⟨hr, hw⟩ := hr; subst hr; subst hw; conv => whnf) | (refine (nilDrop_fn _ _).mono fun r w1 hr => ?_; obtain ⟨hr, hw⟩ := hr; subst hr; subst hw; conv => whnf) | fail)
  refine (known_fn _ htab).mono fun r w ⟨hr, hw⟩ => ?_
  subst hr
  replace hL := hL.call hB (Turns.of_below hw)
  replace hB := Nat.le_trans hB hw.size
  conv => whnf
  repeat (first | (refine RunH ?_; intro w hL hB; try clear w) | (refine Both.mk ?_ ?_ <;> conv => whnf) | fail)
  exact ⟨rfl, hL.below⟩
end Go.Proofs.YtjafamiaahabgaaGreatDoor
