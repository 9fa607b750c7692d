/- Numbers that come in. Nothing is claimed here. -/
import Derived.Test.YtlldgodjfpgbcaaDoorGt
import Derived.Test.YtlldgodjfpgbcaaDoorGo
namespace Go.Proofs.YtlldgodjfpgbcaaDoor
set_option linter.unusedVariables false
set_option linter.unusedSimpArgs false
theorem flat_num : ∀ l : List Int, l.flatMap (fun n => [Value.int .i64 n]) = numC l
  | [] => rfl
  | x :: l => by rw [List.flatMap_cons, flat_num l]; rfl
theorem nums_open {w : World} {S d : Nat} {v : Value} (h : opz Tryd.prog TT S w (d + 2) 23 [v]) : ∃ l : List Int, SlE w v (numC l) := by
  obtain ⟨l, h1, _, _⟩ := sl_open (α := Int) tl23 tl3 (by decide) (fun n => [Value.int .i64 n]) (fun _ => rfl) (fun _ => True) (fun es _ h => by
    unfold opz at h
    simp only [tl3] at h
    obtain ⟨k, rfl, h⟩ := h
    exact ⟨k, rfl, trivial⟩) h
  refine ⟨l, ?_⟩
  rw [flat_num] at h1
  exact h1.to1.e
end Go.Proofs.YtlldgodjfpgbcaaDoor
