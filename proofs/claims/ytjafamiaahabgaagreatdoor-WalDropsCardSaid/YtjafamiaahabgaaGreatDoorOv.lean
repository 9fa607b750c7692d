/- The table of powers of ten, as the program's text lays it (any seat with Itoa). Nothing is claimed here. -/
import Derived.Test.YtjafamiaahabgaaGreatDoorUv
import Derived.LaidSub
namespace Go.Proofs.YtjafamiaahabgaaGreatDoor
open Go.RowKit Go.Lib
set_option linter.unusedVariables false
set_option linter.unusedSimpArgs false
set_option maxRecDepth 100000
theorem tab_pow {W : World} {l : List (String × DataW Unit)} (h : laidMetH Tryz.prog l W) (hl : (l.filter fun x => x.2.handleName?.isNone).filter (fun x => x.1 == "internal/strconv.uint64pow10") = [("internal/strconv.uint64pow10", tabData .u64 pow10Tab)]) : TabIs Tryz.prog W "internal/strconv.uint64pow10" .u64 pow10Tab :=
  tabIs_of_head (rest := []) (g := 0) (t := 195) (e := 74) (n := 20) (by kernel_rfl) (by kernel_rfl) (by kernel_rfl) (by kernel_rfl) (by kernel_rfl) (by kernel_rfl) (hl ▸ (laidMetH_iff.1 h).1.filter _)
end Go.Proofs.YtjafamiaahabgaaGreatDoor
