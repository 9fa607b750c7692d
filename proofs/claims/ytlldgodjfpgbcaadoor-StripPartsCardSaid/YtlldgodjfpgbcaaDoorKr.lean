/- garnerref14.Cut; what is refused. Nothing is claimed here. -/
import Derived.Test.YtlldgodjfpgbcaaDoorKa
namespace Go.Proofs.YtlldgodjfpgbcaaDoor
open Go.RowKit
set_option linter.unusedVariables false
set_option linter.unusedSimpArgs false
set_option maxRecDepth 100000

theorem cut_bad (vb : Value) (b : List UInt8) (k m : Int) (h : k < 1 ∨ m < 0 ∨ 14 < k ∨ 14 - k < m) (hk : -1000 < k ∧ k < 1000) (hm : -1000 < m ∧ m < 1000) (w : World) (hs : Sl w vb (bv b)) :
    Fn Tryd.prog 11 #[vb, .int .i64 k, .int .i64 m] w fun r w' => r = .tuple #[.slice none 0 0, .int .i64 1] ∧ w' = w := by
  refine Fn.mk Tryd.func11 rfl (by kernel_rfl) Tryd.ntmps11 rfl (by rw [Tryd.results11]) ?_
  refine RunR ?_
  refine (code_bad k m h hk hm w).mono fun r w1 ⟨hr, hw⟩ => ?_
  subst hr; subst hw
  conv => whnf
  refine RunR ?_
  exact ⟨rfl, rfl⟩
theorem cut_none (vb : Value) (k m : Nat) (h1 : 1 ≤ k) (h2 : k + m ≤ 14) (w : World) (hs : Sl w vb (bv [])) :
    Fn Tryd.prog 11 #[vb, .int .i64 k, .int .i64 m] w fun r w' => r = .tuple #[.slice none 0 0, .int .i64 1] ∧ Below w.heap.size w w' := by
  obtain ⟨a, cp, rfl⟩ := hs.shape
  refine Fn.mk Tryd.func11 rfl (by kernel_rfl) Tryd.ntmps11 rfl (by rw [Tryd.results11]) ?_
  refine RunR ?_
  refine (code_fn k m h1 h2 w).mono fun r w1 ⟨u, hr, hm, hW1⟩ => ?_
  subst hr
  conv => whnf
  refine RunR ?_
  exact ⟨rfl, hW1⟩
end Go.Proofs.YtlldgodjfpgbcaaDoor
