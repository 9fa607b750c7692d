/- StripCuts. Nothing is claimed here. -/
import Derived.Test.YtlldgodjfpgbcaaDoorLa
namespace Go.Proofs.YtlldgodjfpgbcaaDoor
open Go.RowKit
set_option linter.unusedVariables false
set_option linter.unusedSimpArgs false
set_option maxRecDepth 100000

theorem SS.same {w : World} {v : Value} (L : List (List UInt8)) (h : SS w v L) : ∃ a c, v = .slice a L.length c := by
  obtain ⟨us, h1, h2⟩ := h.of
  obtain ⟨a, c, rfl⟩ := h1.shape
  exact ⟨a, c, by rw [h2.len]⟩

end Go.Proofs.YtlldgodjfpgbcaaDoor
