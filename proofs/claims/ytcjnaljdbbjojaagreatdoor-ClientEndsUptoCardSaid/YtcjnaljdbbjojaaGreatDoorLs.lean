/- same of a law's package. Nothing is claimed here. -/
import Derived.Test.YtcjnaljdbbjojaaGreatDoorSc
namespace Go.Proofs.YtcjnaljdbbjojaaGreatDoor
open Go.RowKit
set_option linter.unusedVariables false
set_option linter.unusedSimpArgs false
set_option maxRecDepth 100000

theorem take_succ_eq {α : Type} [BEq α] {l m : List α} {k : Nat} (h : l.take k = m.take k) (hl : k < l.length) (hm : k < m.length) (he : l[k] = m[k]) : l.take (k + 1) = m.take (k + 1) := by
  rw [List.take_succ_eq_append_getElem hl, List.take_succ_eq_append_getElem hm, h, he]
theorem u8_ne {a b : UInt8} (h : a ≠ b) : ¬ ((a.toNat : Int) = b.toNat) := fun h1 => h (UInt8.toNat_inj.1 (by exact_mod_cast h1))

end Go.Proofs.YtcjnaljdbbjojaaGreatDoor
