/- The table of lowest bits, as the program's text lays it. Nothing is claimed here. -/
import Derived.Test.YtlldgodjfpgbcaaDoorGn
import Derived.Test.YtlldgodjfpgbcaaDoorOg
import Derived.Lib.LaidTab
import Derived.LaidSub
namespace Go.Proofs.YtlldgodjfpgbcaaDoor
open Go.RowKit Go.Lib
set_option linter.unusedVariables false
set_option linter.unusedSimpArgs false
set_option maxRecDepth 100000

theorem tab_ctz {W : World} {l : List (String × DataW Unit)} (h : laidMetH Tryd.prog l W) (hl : (l.filter fun x => x.2.handleName?.isNone).filter (fun x => x.1 == "math/bits.deBruijn64tab") = [("math/bits.deBruijn64tab", tabData .u8 (Go.Lib.deBruijn64tab.map fun n : Nat => (n : Int)))]) : TabAt 0 Go.Lib.deBruijn64tab W := by
  have hg : Tryd.prog.globalNamed "math/bits.deBruijn64tab" = some 0 := by kernel_rfl
  have ht : TabIs Tryd.prog W "math/bits.deBruijn64tab" .u8 (Go.Lib.deBruijn64tab.map fun n : Nat => (n : Int)) :=
    tabIs_of_head (rest := []) (g := 0) (t := 98) (e := 5) (n := 64) hg (by kernel_rfl) (by kernel_rfl) (by kernel_rfl) (by kernel_rfl) (by kernel_rfl) (hl ▸ (laidMetH_iff.1 h).1.filter _)
  intro j hj
  have := World.var?_cell hg ht j
  rw [this]
  simp [List.getD, hj]
end Go.Proofs.YtlldgodjfpgbcaaDoor
