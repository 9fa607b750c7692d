/-
  DERIVED. GIVEN WITH THE SEED: THE CARDS: each row of YtcjnaljdbbjojaaGreatDoorRows.lean that lists a variable, with what it lists TIED to the program's text (the seventh form; the later family's looks); each row that meets fmt, with fmt's text TOLD by the authors' own Lean function (tested against real Go, not proved from fmt's source: count such statements apart). THE CARD IS WHAT COUNTS. Prove the row's statement (the work); the ties are given (YtcjnaljdbbjojaaGreatDoorTie.lean); close each card by the builder's one call (the guide's Derived/Test/ToyasCard.lean, 'card_holds'). Laid BY PROGRAM, IN A SANDBOX (cutbox-door.mjs). By AI agents, Wed Nov 11 2026. No macro, syntax, notation, axiom, sorry.
-/
import Derived.Test.YtcjnaljdbbjojaaGreatDoorRows
import GoSem.ClaimSeven
namespace Go.Proofs.YtcjnaljdbbjojaaGreatDoor
namespace Rows

/-- THE TIED CARD OF 'garnerlaw22.ClientLeads'. -/
def clientLeadsCard : Claim7 := { stood := { row := clientLeadsRow, standIns := [], harness := (true, "e9e9f9c2c2b82cba2d933c51005d0d4f1e95e28fc24c4941ff25554d77c8f86b"), looks := false }, kinds := [], alts := [], laidByText := true, laidKinds := [.data], laidTests := true, laidLooks := .later }
def ClientLeadsCardSaid : Prop := Claim7.holds Tryz.pinned (.plain (OpenSpec.ofChange clientLeadsSpec)) clientLeadsCard

/-- THE TIED CARD OF 'garnerlaw22.ClientEnds'. -/
def clientEndsCard : Claim7 := { stood := { row := clientEndsRow, standIns := [], harness := (true, "e9e9f9c2c2b82cba2d933c51005d0d4f1e95e28fc24c4941ff25554d77c8f86b"), looks := false }, kinds := [], alts := [], laidByText := true, laidKinds := [.data], laidTests := true, laidLooks := .later }
def ClientEndsCardSaid : Prop := Claim7.holds Tryz.pinned (.plain (OpenSpec.ofChange clientEndsSpec)) clientEndsCard

/-- THE TIED CARD OF 'garnerlaw22.ClientOfNothing'. -/
def clientOfNothingCard : Claim7 := { stood := { row := clientOfNothingRow, standIns := [], harness := (true, "e9e9f9c2c2b82cba2d933c51005d0d4f1e95e28fc24c4941ff25554d77c8f86b"), looks := false }, kinds := [], alts := [], laidByText := true, laidKinds := [.data], laidTests := true, laidLooks := .later }
def ClientOfNothingCardSaid : Prop := Claim7.holds Tryz.pinned (.plain (OpenSpec.ofChange clientOfNothingSpec)) clientOfNothingCard

/-- THE TIED CARD OF 'garnerlaw22.ClientSure'. -/
def clientSureCard : Claim7 := { stood := { row := clientSureRow, standIns := [], harness := (true, "e9e9f9c2c2b82cba2d933c51005d0d4f1e95e28fc24c4941ff25554d77c8f86b"), looks := false }, kinds := [], alts := [], laidByText := true, laidKinds := [.data], laidTests := true, laidLooks := .later }
def ClientSureCardSaid : Prop := Claim7.holds Tryz.pinned (.plain (OpenSpec.ofChange clientSureSpec)) clientSureCard

/-- THE SECOND FORM's CARD OF 'garnerlaw22.ClientLeads'. -/
def clientLeadsUptoCard : Claim7 := { stood := { row := clientLeadsUptoRow, standIns := [], harness := (true, "e9e9f9c2c2b82cba2d933c51005d0d4f1e95e28fc24c4941ff25554d77c8f86b"), looks := false }, kinds := [], alts := [], laidByText := true, laidKinds := [.data], laidTests := true, laidLooks := .later }
def ClientLeadsUptoCardSaid : Prop := Claim7.holds Tryz.pinned (.plain (OpenSpec.upto clientLeadsSpec)) clientLeadsUptoCard

/-- THE SECOND FORM's CARD OF 'garnerlaw22.ClientEnds'. -/
def clientEndsUptoCard : Claim7 := { stood := { row := clientEndsUptoRow, standIns := [], harness := (true, "e9e9f9c2c2b82cba2d933c51005d0d4f1e95e28fc24c4941ff25554d77c8f86b"), looks := false }, kinds := [], alts := [], laidByText := true, laidKinds := [.data], laidTests := true, laidLooks := .later }
def ClientEndsUptoCardSaid : Prop := Claim7.holds Tryz.pinned (.plain (OpenSpec.upto clientEndsSpec)) clientEndsUptoCard

/-- THE SECOND FORM's CARD OF 'garnerlaw22.ClientOfNothing'. -/
def clientOfNothingUptoCard : Claim7 := { stood := { row := clientOfNothingUptoRow, standIns := [], harness := (true, "e9e9f9c2c2b82cba2d933c51005d0d4f1e95e28fc24c4941ff25554d77c8f86b"), looks := false }, kinds := [], alts := [], laidByText := true, laidKinds := [.data], laidTests := true, laidLooks := .later }
def ClientOfNothingUptoCardSaid : Prop := Claim7.holds Tryz.pinned (.plain (OpenSpec.upto clientOfNothingSpec)) clientOfNothingUptoCard

/-- THE SECOND FORM's CARD OF 'garnerlaw22.ClientSure'. -/
def clientSureUptoCard : Claim7 := { stood := { row := clientSureUptoRow, standIns := [], harness := (true, "e9e9f9c2c2b82cba2d933c51005d0d4f1e95e28fc24c4941ff25554d77c8f86b"), looks := false }, kinds := [], alts := [], laidByText := true, laidKinds := [.data], laidTests := true, laidLooks := .later }
def ClientSureUptoCardSaid : Prop := Claim7.holds Tryz.pinned (.plain (OpenSpec.upto clientSureSpec)) clientSureUptoCard
end Rows
end Go.Proofs.YtcjnaljdbbjojaaGreatDoor
