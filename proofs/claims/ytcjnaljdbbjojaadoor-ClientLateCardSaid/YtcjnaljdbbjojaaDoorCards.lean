/-
  DERIVED. GIVEN WITH THE SEED: THE CARDS: each row of YtcjnaljdbbjojaaDoorRows.lean that lists a variable, with what it lists TIED to the program's text (the seventh form; the later family's looks); each row that meets fmt, with fmt's text TOLD by the authors' own Lean function (tested against real Go, not proved from fmt's source: count such statements apart). THE CARD IS WHAT COUNTS. Prove the row's statement (the work); the ties are given (YtcjnaljdbbjojaaDoorTie.lean); close each card by the builder's one call (the guide's Derived/Test/ToyasCard.lean, 'card_holds'). Laid BY PROGRAM, IN A SANDBOX (cutbox-door.mjs). By AI agents, Wed Nov 11 2026. No macro, syntax, notation, axiom, sorry.
-/
import Derived.Test.YtcjnaljdbbjojaaDoorRows
import GoSem.ClaimSeven
namespace Go.Proofs.YtcjnaljdbbjojaaDoor
namespace Rows

/-- THE TIED CARD OF 'garnerlaw22.ClientLate'. -/
def clientLateCard : Claim7 := { stood := { row := clientLateRow, standIns := [], harness := (true, "8130dc8b0e019e08e4ca7c4fa984094542a3f66b481b95d0133b5d651d2fd440"), looks := false }, kinds := [], alts := [], laidByText := true, laidKinds := [.data], laidTests := true, laidLooks := .later }
def ClientLateCardSaid : Prop := Claim7.holds Tryd.pinned (.plain (OpenSpec.ofChange clientLateSpec)) clientLateCard

/-- THE TIED CARD OF 'garnerlaw22.ClientMoves'. -/
def clientMovesCard : Claim7 := { stood := { row := clientMovesRow, standIns := [], harness := (true, "8130dc8b0e019e08e4ca7c4fa984094542a3f66b481b95d0133b5d651d2fd440"), looks := false }, kinds := [], alts := [], laidByText := true, laidKinds := [.data], laidTests := true, laidLooks := .later }
def ClientMovesCardSaid : Prop := Claim7.holds Tryd.pinned (.plain (OpenSpec.ofChange clientMovesSpec)) clientMovesCard

/-- THE SECOND FORM's CARD OF 'garnerlaw22.ClientLate'. -/
def clientLateUptoCard : Claim7 := { stood := { row := clientLateUptoRow, standIns := [], harness := (true, "8130dc8b0e019e08e4ca7c4fa984094542a3f66b481b95d0133b5d651d2fd440"), looks := false }, kinds := [], alts := [], laidByText := true, laidKinds := [.data], laidTests := true, laidLooks := .later }
def ClientLateUptoCardSaid : Prop := Claim7.holds Tryd.pinned (.plain (OpenSpec.upto clientLateSpec)) clientLateUptoCard

/-- THE SECOND FORM's CARD OF 'garnerlaw22.ClientMoves'. -/
def clientMovesUptoCard : Claim7 := { stood := { row := clientMovesUptoRow, standIns := [], harness := (true, "8130dc8b0e019e08e4ca7c4fa984094542a3f66b481b95d0133b5d651d2fd440"), looks := false }, kinds := [], alts := [], laidByText := true, laidKinds := [.data], laidTests := true, laidLooks := .later }
def ClientMovesUptoCardSaid : Prop := Claim7.holds Tryd.pinned (.plain (OpenSpec.upto clientMovesSpec)) clientMovesUptoCard
end Rows
end Go.Proofs.YtcjnaljdbbjojaaDoor
