/- bytes.Equal. Nothing is claimed here. -/
import Derived.Test.YtpkealgeigpjpaaDoorSd
namespace Go.Proofs.YtpkealgeigpjpaaDoor
open Go.RowKit
set_option linter.unusedVariables false
set_option linter.unusedSimpArgs false
theorem mkBinj {l m : List UInt8} : (mkB l = mkB m) ↔ l = m := ⟨fun h => by
  have := congrArg (fun b : ByteArray => b.data.toList) h
  simpa [mkB] using this, fun h => by rw [h]⟩
theorem eqB_fn (v1 v2 : Value) (l1 l2 : List UInt8) (w : World) (h1 : Sl w v1 (bv l1)) (h2 : Sl w v2 (bv l2)) : Fn Tryd.prog 57 #[v1, v2] w fun r w' => r = .bool (decide (l1 = l2)) ∧ w' = w := by
  refine Fn.mk Tryd.func57 rfl (by kernel_rfl) Tryd.ntmps57 rfl (by rw [Tryd.results57]) ?_
  refine RunR ?_
  refine Rv.toStr ttOk rfl rfl rfl h1 ?_
  conv => whnf
  refine RunR ?_
  refine Rv.toStr ttOk rfl rfl rfl h2 ?_
  conv => whnf
  refine RunR ?_
  refine ⟨?_, rfl⟩
  rw [Value.bool.injEq, decide_eq_decide]
  exact mkBinj
end Go.Proofs.YtpkealgeigpjpaaDoor
