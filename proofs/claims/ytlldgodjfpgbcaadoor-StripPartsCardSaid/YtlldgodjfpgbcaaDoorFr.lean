/- garnerref14.File. Nothing is claimed here. -/
import Derived.Test.YtlldgodjfpgbcaaDoorF
namespace Go.Proofs.YtlldgodjfpgbcaaDoor
open Go.RowKit
set_option linter.unusedVariables false
set_option linter.unusedSimpArgs false
set_option maxRecDepth 100000

end Go.Proofs.YtlldgodjfpgbcaaDoor
