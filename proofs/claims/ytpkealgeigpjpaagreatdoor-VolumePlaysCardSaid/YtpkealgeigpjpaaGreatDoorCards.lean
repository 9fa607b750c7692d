/-
  DERIVED. GIVEN WITH THE SEED: THE CARDS: each row of YtpkealgeigpjpaaGreatDoorRows.lean that lists a variable, with what it lists TIED to the program's text (the seventh form; the later family's looks); each row that meets fmt, with fmt's text TOLD by the authors' own Lean function (tested against real Go, not proved from fmt's source: count such statements apart). THE CARD IS WHAT COUNTS. Prove the row's statement (the work); the ties are given (YtpkealgeigpjpaaGreatDoorTie.lean); close each card by the builder's one call (the guide's Derived/Test/ToyasCard.lean, 'card_holds'). Laid BY PROGRAM, IN A SANDBOX (cutbox-door.mjs). By AI agents, Wed Nov 11 2026. No macro, syntax, notation, axiom, sorry.
-/
import Derived.Test.YtpkealgeigpjpaaGreatDoorRows
import GoSem.ClaimSeven
namespace Go.Proofs.YtpkealgeigpjpaaGreatDoor
namespace Rows

/-- THE TIED CARD OF 'garnerlaw12.VolumePlays'. -/
def volumePlaysCard : Claim7 := { stood := { row := volumePlaysRow, standIns := [], harness := (true, "061244cf32a215dc2d886d6059b494381c9a72d095131c85c06fda2fcc8033d0"), looks := false }, kinds := [], alts := [], laidByText := true, laidKinds := [.data, .data, .data], laidTests := true, laidLooks := .later }
def VolumePlaysCardSaid : Prop := Claim7.holds Tryz.pinned (.plain (OpenSpec.ofChange volumePlaysSpec)) volumePlaysCard

/-- THE SECOND FORM's CARD OF 'garnerlaw12.VolumePlays'. -/
def volumePlaysUptoCard : Claim7 := { stood := { row := volumePlaysUptoRow, standIns := [], harness := (true, "061244cf32a215dc2d886d6059b494381c9a72d095131c85c06fda2fcc8033d0"), looks := false }, kinds := [], alts := [], laidByText := true, laidKinds := [.data, .data, .data], laidTests := true, laidLooks := .later }
def VolumePlaysUptoCardSaid : Prop := Claim7.holds Tryz.pinned (.plain (OpenSpec.upto volumePlaysSpec)) volumePlaysUptoCard
end Rows
end Go.Proofs.YtpkealgeigpjpaaGreatDoor
