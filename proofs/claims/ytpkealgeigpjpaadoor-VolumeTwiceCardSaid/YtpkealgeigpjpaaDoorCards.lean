/-
  DERIVED. GIVEN WITH THE SEED: THE CARDS: each row of YtpkealgeigpjpaaDoorRows.lean that lists a variable, with what it lists TIED to the program's text (the seventh form; the later family's looks); each row that meets fmt, with fmt's text TOLD by the authors' own Lean function (tested against real Go, not proved from fmt's source: count such statements apart). THE CARD IS WHAT COUNTS. Prove the row's statement (the work); the ties are given (YtpkealgeigpjpaaDoorTie.lean); close each card by the builder's one call (the guide's Derived/Test/ToyasCard.lean, 'card_holds'). Laid BY PROGRAM, IN A SANDBOX (cutbox-door.mjs). By AI agents, Wed Nov 11 2026. No macro, syntax, notation, axiom, sorry.
-/
import Derived.Test.YtpkealgeigpjpaaDoorRows
import GoSem.ClaimSeven
namespace Go.Proofs.YtpkealgeigpjpaaDoor
namespace Rows

/-- THE TIED CARD OF 'garnerlaw12.VolumeRots'. -/
def volumeRotsCard : Claim7 := { stood := { row := volumeRotsRow, standIns := [], harness := (true, "212b2061d8fe331b1defe5c776450a67b22322457406954b46c37761e6d431d8"), looks := false }, kinds := [], alts := [], laidByText := true, laidKinds := [.data, .data, .data], laidTests := true, laidLooks := .later }
def VolumeRotsCardSaid : Prop := Claim7.holds Tryd.pinned (.plain (OpenSpec.ofChange volumeRotsSpec)) volumeRotsCard

/-- THE TIED CARD OF 'garnerlaw12.VolumeTwice'. -/
def volumeTwiceCard : Claim7 := { stood := { row := volumeTwiceRow, standIns := [], harness := (true, "212b2061d8fe331b1defe5c776450a67b22322457406954b46c37761e6d431d8"), looks := false }, kinds := [], alts := [], laidByText := true, laidKinds := [.data, .data, .data], laidTests := true, laidLooks := .later }
def VolumeTwiceCardSaid : Prop := Claim7.holds Tryd.pinned (.plain (OpenSpec.ofChange volumeTwiceSpec)) volumeTwiceCard

/-- THE TIED CARD OF 'garnerlaw12.VolumeKeeps'. -/
def volumeKeepsCard : Claim7 := { stood := { row := volumeKeepsRow, standIns := [], harness := (true, "212b2061d8fe331b1defe5c776450a67b22322457406954b46c37761e6d431d8"), looks := false }, kinds := [], alts := [], laidByText := true, laidKinds := [.data, .data, .data], laidTests := true, laidLooks := .later }
def VolumeKeepsCardSaid : Prop := Claim7.holds Tryd.pinned (.plain (OpenSpec.ofChange volumeKeepsSpec)) volumeKeepsCard

/-- THE TIED CARD OF 'garnerlaw12.VolumeOfNothing'. -/
def volumeOfNothingCard : Claim7 := { stood := { row := volumeOfNothingRow, standIns := [], harness := (true, "212b2061d8fe331b1defe5c776450a67b22322457406954b46c37761e6d431d8"), looks := false }, kinds := [], alts := [], laidByText := true, laidKinds := [.data, .data, .data], laidTests := true, laidLooks := .later }
def VolumeOfNothingCardSaid : Prop := Claim7.holds Tryd.pinned (.plain (OpenSpec.ofChange volumeOfNothingSpec)) volumeOfNothingCard

/-- THE SECOND FORM's CARD OF 'garnerlaw12.VolumeRots'. -/
def volumeRotsUptoCard : Claim7 := { stood := { row := volumeRotsUptoRow, standIns := [], harness := (true, "212b2061d8fe331b1defe5c776450a67b22322457406954b46c37761e6d431d8"), looks := false }, kinds := [], alts := [], laidByText := true, laidKinds := [.data, .data, .data], laidTests := true, laidLooks := .later }
def VolumeRotsUptoCardSaid : Prop := Claim7.holds Tryd.pinned (.plain (OpenSpec.upto volumeRotsSpec)) volumeRotsUptoCard

/-- THE SECOND FORM's CARD OF 'garnerlaw12.VolumeTwice'. -/
def volumeTwiceUptoCard : Claim7 := { stood := { row := volumeTwiceUptoRow, standIns := [], harness := (true, "212b2061d8fe331b1defe5c776450a67b22322457406954b46c37761e6d431d8"), looks := false }, kinds := [], alts := [], laidByText := true, laidKinds := [.data, .data, .data], laidTests := true, laidLooks := .later }
def VolumeTwiceUptoCardSaid : Prop := Claim7.holds Tryd.pinned (.plain (OpenSpec.upto volumeTwiceSpec)) volumeTwiceUptoCard

/-- THE SECOND FORM's CARD OF 'garnerlaw12.VolumeKeeps'. -/
def volumeKeepsUptoCard : Claim7 := { stood := { row := volumeKeepsUptoRow, standIns := [], harness := (true, "212b2061d8fe331b1defe5c776450a67b22322457406954b46c37761e6d431d8"), looks := false }, kinds := [], alts := [], laidByText := true, laidKinds := [.data, .data, .data], laidTests := true, laidLooks := .later }
def VolumeKeepsUptoCardSaid : Prop := Claim7.holds Tryd.pinned (.plain (OpenSpec.upto volumeKeepsSpec)) volumeKeepsUptoCard

/-- THE SECOND FORM's CARD OF 'garnerlaw12.VolumeOfNothing'. -/
def volumeOfNothingUptoCard : Claim7 := { stood := { row := volumeOfNothingUptoRow, standIns := [], harness := (true, "212b2061d8fe331b1defe5c776450a67b22322457406954b46c37761e6d431d8"), looks := false }, kinds := [], alts := [], laidByText := true, laidKinds := [.data, .data, .data], laidTests := true, laidLooks := .later }
def VolumeOfNothingUptoCardSaid : Prop := Claim7.holds Tryd.pinned (.plain (OpenSpec.upto volumeOfNothingSpec)) volumeOfNothingUptoCard
end Rows
end Go.Proofs.YtpkealgeigpjpaaDoor
