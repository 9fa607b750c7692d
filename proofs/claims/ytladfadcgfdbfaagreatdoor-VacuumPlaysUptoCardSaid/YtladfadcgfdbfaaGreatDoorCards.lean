/-
  DERIVED. GIVEN WITH THE SEED: THE CARDS: each row of YtladfadcgfdbfaaGreatDoorRows.lean that lists a variable, with what it lists TIED to the program's text (the seventh form; the later family's looks); each row that meets fmt, with fmt's text TOLD by the authors' own Lean function (tested against real Go, not proved from fmt's source: count such statements apart). THE CARD IS WHAT COUNTS. Prove the row's statement (the work); the ties are given (YtladfadcgfdbfaaGreatDoorTie.lean); close each card by the builder's one call (the guide's Derived/Test/ToyasCard.lean, 'card_holds'). Laid BY PROGRAM, IN A SANDBOX (cutbox-door.mjs). By AI agents, Wed Nov 11 2026. No macro, syntax, notation, axiom, sorry.
-/
import Derived.Test.YtladfadcgfdbfaaGreatDoorRows
import GoSem.ClaimSeven
namespace Go.Proofs.YtladfadcgfdbfaaGreatDoor
namespace Rows

/-- THE TIED CARD OF 'garnerlaw13.VacuumOfNothing'. -/
def vacuumOfNothingCard : Claim7 := { stood := { row := vacuumOfNothingRow, standIns := [], harness := (true, "911cb706f6996507d5a4b9382f8a11d2a1015f8ddb0c81298f97963c75b4be09"), looks := false }, kinds := [], alts := [], laidByText := true, laidKinds := [.data, .data, .data], laidTests := true, laidLooks := .later }
def VacuumOfNothingCardSaid : Prop := Claim7.holds Tryz.pinned (.plain (OpenSpec.ofChange vacuumOfNothingSpec)) vacuumOfNothingCard

/-- THE TIED CARD OF 'garnerlaw13.VacuumPlays'. -/
def vacuumPlaysCard : Claim7 := { stood := { row := vacuumPlaysRow, standIns := [], harness := (true, "911cb706f6996507d5a4b9382f8a11d2a1015f8ddb0c81298f97963c75b4be09"), looks := false }, kinds := [], alts := [], laidByText := true, laidKinds := [.data, .data, .data], laidTests := true, laidLooks := .later }
def VacuumPlaysCardSaid : Prop := Claim7.holds Tryz.pinned (.plain (OpenSpec.ofChange vacuumPlaysSpec)) vacuumPlaysCard

/-- THE TIED CARD OF 'garnerlaw13.VacuumCrashes'. -/
def vacuumCrashesCard : Claim7 := { stood := { row := vacuumCrashesRow, standIns := [], harness := (true, "911cb706f6996507d5a4b9382f8a11d2a1015f8ddb0c81298f97963c75b4be09"), looks := false }, kinds := [], alts := [], laidByText := true, laidKinds := [.data, .data, .data], laidTests := true, laidLooks := .later }
def VacuumCrashesCardSaid : Prop := Claim7.holds Tryz.pinned (.plain (OpenSpec.ofChange vacuumCrashesSpec)) vacuumCrashesCard

/-- THE TIED CARD OF 'garnerlaw13.VacuumSame'. -/
def vacuumSameCard : Claim7 := { stood := { row := vacuumSameRow, standIns := [], harness := (true, "911cb706f6996507d5a4b9382f8a11d2a1015f8ddb0c81298f97963c75b4be09"), looks := false }, kinds := [], alts := [], laidByText := true, laidKinds := [.data, .data, .data], laidTests := true, laidLooks := .later }
def VacuumSameCardSaid : Prop := Claim7.holds Tryz.pinned (.plain (OpenSpec.ofChange vacuumSameSpec)) vacuumSameCard

/-- THE SECOND FORM's CARD OF 'garnerlaw13.VacuumOfNothing'. -/
def vacuumOfNothingUptoCard : Claim7 := { stood := { row := vacuumOfNothingUptoRow, standIns := [], harness := (true, "911cb706f6996507d5a4b9382f8a11d2a1015f8ddb0c81298f97963c75b4be09"), looks := false }, kinds := [], alts := [], laidByText := true, laidKinds := [.data, .data, .data], laidTests := true, laidLooks := .later }
def VacuumOfNothingUptoCardSaid : Prop := Claim7.holds Tryz.pinned (.plain (OpenSpec.upto vacuumOfNothingSpec)) vacuumOfNothingUptoCard

/-- THE SECOND FORM's CARD OF 'garnerlaw13.VacuumPlays'. -/
def vacuumPlaysUptoCard : Claim7 := { stood := { row := vacuumPlaysUptoRow, standIns := [], harness := (true, "911cb706f6996507d5a4b9382f8a11d2a1015f8ddb0c81298f97963c75b4be09"), looks := false }, kinds := [], alts := [], laidByText := true, laidKinds := [.data, .data, .data], laidTests := true, laidLooks := .later }
def VacuumPlaysUptoCardSaid : Prop := Claim7.holds Tryz.pinned (.plain (OpenSpec.upto vacuumPlaysSpec)) vacuumPlaysUptoCard

/-- THE SECOND FORM's CARD OF 'garnerlaw13.VacuumCrashes'. -/
def vacuumCrashesUptoCard : Claim7 := { stood := { row := vacuumCrashesUptoRow, standIns := [], harness := (true, "911cb706f6996507d5a4b9382f8a11d2a1015f8ddb0c81298f97963c75b4be09"), looks := false }, kinds := [], alts := [], laidByText := true, laidKinds := [.data, .data, .data], laidTests := true, laidLooks := .later }
def VacuumCrashesUptoCardSaid : Prop := Claim7.holds Tryz.pinned (.plain (OpenSpec.upto vacuumCrashesSpec)) vacuumCrashesUptoCard

/-- THE SECOND FORM's CARD OF 'garnerlaw13.VacuumSame'. -/
def vacuumSameUptoCard : Claim7 := { stood := { row := vacuumSameUptoRow, standIns := [], harness := (true, "911cb706f6996507d5a4b9382f8a11d2a1015f8ddb0c81298f97963c75b4be09"), looks := false }, kinds := [], alts := [], laidByText := true, laidKinds := [.data, .data, .data], laidTests := true, laidLooks := .later }
def VacuumSameUptoCardSaid : Prop := Claim7.holds Tryz.pinned (.plain (OpenSpec.upto vacuumSameSpec)) vacuumSameUptoCard
end Rows
end Go.Proofs.YtladfadcgfdbfaaGreatDoor
