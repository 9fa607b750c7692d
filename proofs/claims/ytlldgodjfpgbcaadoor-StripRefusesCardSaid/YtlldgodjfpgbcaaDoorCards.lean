/-
  DERIVED. GIVEN WITH THE SEED: THE CARDS: each row of YtlldgodjfpgbcaaDoorRows.lean that lists a variable, with what it lists TIED to the program's text (the seventh form; the later family's looks); each row that meets fmt, with fmt's text TOLD by the authors' own Lean function (tested against real Go, not proved from fmt's source: count such statements apart). THE CARD IS WHAT COUNTS. Prove the row's statement (the work); the ties are given (YtlldgodjfpgbcaaDoorTie.lean); close each card by the builder's one call (the guide's Derived/Test/ToyasCard.lean, 'card_holds'). Laid BY PROGRAM, IN A SANDBOX (cutbox-door.mjs). By AI agents, Wed Nov 11 2026. No macro, syntax, notation, axiom, sorry.
-/
import Derived.Test.YtlldgodjfpgbcaaDoorRows
import GoSem.ClaimSeven
namespace Go.Proofs.YtlldgodjfpgbcaaDoor
namespace Rows

/-- THE TIED CARD OF 'garnerlaw14.StripParts'. -/
def stripPartsCard : Claim7 := { stood := { row := stripPartsRow, standIns := [], harness := (true, "09eaf7589e1bba7e6fdb5c135bb1cdc73d0894adc5601d0f893eda4db40a1ae5"), looks := false }, kinds := [], alts := [], laidByText := true, laidKinds := [.data], laidTests := true, laidLooks := .later }
def StripPartsCardSaid : Prop := Claim7.holds Tryd.pinned (.plain (OpenSpec.ofChange stripPartsSpec)) stripPartsCard

/-- THE TIED CARD OF 'garnerlaw14.StripRefuses'. -/
def stripRefusesCard : Claim7 := { stood := { row := stripRefusesRow, standIns := [], harness := (true, "09eaf7589e1bba7e6fdb5c135bb1cdc73d0894adc5601d0f893eda4db40a1ae5"), looks := false }, kinds := [], alts := [], laidByText := true, laidKinds := [.data], laidTests := true, laidLooks := .later }
def StripRefusesCardSaid : Prop := Claim7.holds Tryd.pinned (.plain (OpenSpec.ofChange stripRefusesSpec)) stripRefusesCard

/-- THE TIED CARD OF 'garnerlaw14.StripOne'. -/
def stripOneCard : Claim7 := { stood := { row := stripOneRow, standIns := [], harness := (true, "09eaf7589e1bba7e6fdb5c135bb1cdc73d0894adc5601d0f893eda4db40a1ae5"), looks := false }, kinds := [], alts := [], laidByText := true, laidKinds := [.data], laidTests := true, laidLooks := .later }
def StripOneCardSaid : Prop := Claim7.holds Tryd.pinned (.plain (OpenSpec.ofChange stripOneSpec)) stripOneCard

/-- THE SECOND FORM's CARD OF 'garnerlaw14.StripParts'. -/
def stripPartsUptoCard : Claim7 := { stood := { row := stripPartsUptoRow, standIns := [], harness := (true, "09eaf7589e1bba7e6fdb5c135bb1cdc73d0894adc5601d0f893eda4db40a1ae5"), looks := false }, kinds := [], alts := [], laidByText := true, laidKinds := [.data], laidTests := true, laidLooks := .later }
def StripPartsUptoCardSaid : Prop := Claim7.holds Tryd.pinned (.plain (OpenSpec.upto stripPartsSpec)) stripPartsUptoCard

/-- THE SECOND FORM's CARD OF 'garnerlaw14.StripRefuses'. -/
def stripRefusesUptoCard : Claim7 := { stood := { row := stripRefusesUptoRow, standIns := [], harness := (true, "09eaf7589e1bba7e6fdb5c135bb1cdc73d0894adc5601d0f893eda4db40a1ae5"), looks := false }, kinds := [], alts := [], laidByText := true, laidKinds := [.data], laidTests := true, laidLooks := .later }
def StripRefusesUptoCardSaid : Prop := Claim7.holds Tryd.pinned (.plain (OpenSpec.upto stripRefusesSpec)) stripRefusesUptoCard

/-- THE SECOND FORM's CARD OF 'garnerlaw14.StripOne'. -/
def stripOneUptoCard : Claim7 := { stood := { row := stripOneUptoRow, standIns := [], harness := (true, "09eaf7589e1bba7e6fdb5c135bb1cdc73d0894adc5601d0f893eda4db40a1ae5"), looks := false }, kinds := [], alts := [], laidByText := true, laidKinds := [.data], laidTests := true, laidLooks := .later }
def StripOneUptoCardSaid : Prop := Claim7.holds Tryd.pinned (.plain (OpenSpec.upto stripOneSpec)) stripOneUptoCard
end Rows
end Go.Proofs.YtlldgodjfpgbcaaDoor
