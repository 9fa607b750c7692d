/-
  No cell of these rows narrows 'for every input' (looked for: loops, veiled, ifaces, maps, wideKeys, modest, calm, conditions, laid).
  DERIVED. THE GIVEN ROWS OF THIS SEAT. 4 by the template 'for every input the law returns true; each argument reads behind the call as it read before'; 0 by the template 'total and deterministic' (their statements: YtjgiailgidbkmaaTotals.lean).
  GIVEN WITH THE SEED: the statements are not yours to turn. If you find one false, say at which input.
  Laid BY PROGRAM, IN A SANDBOX (cutbox-rows.mjs): the forced cells as the released guide's own fill.sh prints them over the translation 5a9013916e5b21da… (all of the seat's roots in one cut). By AI agents, Wed Nov 11 2026. No macro, syntax, notation, axiom, sorry.
-/
import Derived.Test.YtjgiailgidbkmaaChecked
import GoSem.Claim
import GoSem.ClaimJoined
import GoSem.ClaimMapViews
import Derived.JoinedTies
import Derived.KernelRfl
namespace Go.Proofs.Ytjgiailgidbkmaa
/- THE CELL 'sum', in the pinned program and in every row, IS THE sha256 OF THE DUMP (.gsa) THAT YtjgiailgidbkmaaProg.lean LOADS. Nothing in Lean hashes anything: it is a label: what it is worth is what the hold of that sum in a sandbox is worth. -/
noncomputable def Try.pinned : Pinned := { name := "ytjgiailgidbkmaa", sum := "5a9013916e5b21daf0bbf2bdbf9540748f6403122b89a3fc24942833a82648e4", checked := Try.checked }
namespace Rows
def none {H : Type} : Left H := { results := [], args := [] }

/-- 'garnerlaw9.KeepFull': WHATEVER THE INPUT: true; the input reads as it did. -/
def keepFullSpec : ChangeSpec := { name := "keepFull", fn := fun _ => fun
  | [d1, d2, d3] => { results := [.lit (.bool true)], args := [d1, d2, d3] }
  | _ => none }
def keepFullRow : OpenClaim := { program := "ytjgiailgidbkmaa", sum := "5a9013916e5b21daf0bbf2bdbf9540748f6403122b89a3fc24942833a82648e4", func := "garner/garnerlaw9.KeepFull", spec := "keepFull", unfollowed := true, recurses := true, apart := false }
def KeepFullSaid : Prop := keepFullRow.holds Try.pinned (OpenSpec.ofChange keepFullSpec)

/-- ITS FALSE NEIGHBOUR: 'it returns false'. Refute it at one input. -/
def keepFullWrong : ChangeSpec := { name := "keepFull", fn := fun _ => fun
  | [d1, d2, d3] => { results := [.lit (.bool false)], args := [d1, d2, d3] }
  | _ => none }
def KeepFullWrongFalsely : Prop := keepFullRow.holds Try.pinned (OpenSpec.ofChange keepFullWrong)

/-- 'garnerlaw9.KeepLasts': WHATEVER THE INPUT: true; the input reads as it did. -/
def keepLastsSpec : ChangeSpec := { name := "keepLasts", fn := fun _ => fun
  | [d1, d2] => { results := [.lit (.bool true)], args := [d1, d2] }
  | _ => none }
def keepLastsRow : OpenClaim := { program := "ytjgiailgidbkmaa", sum := "5a9013916e5b21daf0bbf2bdbf9540748f6403122b89a3fc24942833a82648e4", func := "garner/garnerlaw9.KeepLasts", spec := "keepLasts", unfollowed := true, recurses := true, apart := false }
def KeepLastsSaid : Prop := keepLastsRow.holds Try.pinned (OpenSpec.ofChange keepLastsSpec)

/-- ITS FALSE NEIGHBOUR: 'it returns false'. Refute it at one input. -/
def keepLastsWrong : ChangeSpec := { name := "keepLasts", fn := fun _ => fun
  | [d1, d2] => { results := [.lit (.bool false)], args := [d1, d2] }
  | _ => none }
def KeepLastsWrongFalsely : Prop := keepLastsRow.holds Try.pinned (OpenSpec.ofChange keepLastsWrong)

/-- 'garnerlaw9.KeepRot': WHATEVER THE INPUT: true; the input reads as it did. -/
def keepRotSpec : ChangeSpec := { name := "keepRot", fn := fun _ => fun
  | [d1, d2, d3] => { results := [.lit (.bool true)], args := [d1, d2, d3] }
  | _ => none }
def keepRotRow : OpenClaim := { program := "ytjgiailgidbkmaa", sum := "5a9013916e5b21daf0bbf2bdbf9540748f6403122b89a3fc24942833a82648e4", func := "garner/garnerlaw9.KeepRot", spec := "keepRot", unfollowed := true, recurses := true, apart := false }
def KeepRotSaid : Prop := keepRotRow.holds Try.pinned (OpenSpec.ofChange keepRotSpec)

/-- ITS FALSE NEIGHBOUR: 'it returns false'. Refute it at one input. -/
def keepRotWrong : ChangeSpec := { name := "keepRot", fn := fun _ => fun
  | [d1, d2, d3] => { results := [.lit (.bool false)], args := [d1, d2, d3] }
  | _ => none }
def KeepRotWrongFalsely : Prop := keepRotRow.holds Try.pinned (OpenSpec.ofChange keepRotWrong)

/-- 'garnerlaw9.KeepPlays': WHATEVER THE INPUT: true; the input reads as it did. -/
def keepPlaysSpec : ChangeSpec := { name := "keepPlays", fn := fun _ => fun
  | [d1, d2] => { results := [.lit (.bool true)], args := [d1, d2] }
  | _ => none }
def keepPlaysRow : OpenClaim := { program := "ytjgiailgidbkmaa", sum := "5a9013916e5b21daf0bbf2bdbf9540748f6403122b89a3fc24942833a82648e4", func := "garner/garnerlaw9.KeepPlays", spec := "keepPlays", unfollowed := true, recurses := true, apart := false }
def KeepPlaysSaid : Prop := keepPlaysRow.holds Try.pinned (OpenSpec.ofChange keepPlaysSpec)

/-- ITS FALSE NEIGHBOUR: 'it returns false'. Refute it at one input. -/
def keepPlaysWrong : ChangeSpec := { name := "keepPlays", fn := fun _ => fun
  | [d1, d2] => { results := [.lit (.bool false)], args := [d1, d2] }
  | _ => none }
def KeepPlaysWrongFalsely : Prop := keepPlaysRow.holds Try.pinned (OpenSpec.ofChange keepPlaysWrong)

/- THE SECOND FORM. 'bulk': how many values and letters a reading holds, each counted each time it is reached (what is shared counts as often as it is met; a slice's spare places count too). A statement '..UptoSaid' is the law's where the arguments, and the package variables that the reading takes, are together of bulk at most 1048576: NARROWER than '..Said'. Prove '..Said' where nothing that the law and all that it calls make is longer than what came in: it says more and counts as full. Else prove '..UptoSaid'. A law counts once. -/
mutual
def uptoBulk {H : Type} : DataW H → Nat
  | .lit (.string bytes) => bytes.length + 1
  | .lit _ => 1
  | .nil => 1
  | .ptr d => uptoBulk d + 1
  | .slice elems spare => uptoBulkAll elems + uptoBulkAll spare + 1
  | .agg parts => uptoBulkAll parts + 1
  | .iface _ d => uptoBulk d + 1
  | .map entries => uptoBulkEntries entries + 1
  | .held _ => 1
def uptoBulkAll {H : Type} : List (DataW H) → Nat
  | [] => 0
  | d :: r => uptoBulk d + uptoBulkAll r
def uptoBulkEntries {H : Type} : List (Lit × DataW H) → Nat
  | [] => 0
  | x :: r => uptoBulkEntry x + uptoBulkEntries r
def uptoBulkEntry {H : Type} : Lit × DataW H → Nat
  | (.string bytes, d) => bytes.length + uptoBulk d + 1
  | (_, d) => uptoBulk d + 1
 end
def uptoSmall : (H : Type) → List (DataW H) → Bool := fun _ ds => decide (uptoBulkAll ds ≤ 1048576)
def OpenSpec.upto (s : _root_.Go.ChangeSpec) : _root_.Go.OpenSpec := { _root_.Go.OpenSpec.ofChange s with cond := some uptoSmall }

/-- 'garnerlaw9.KeepFull', WHERE WHAT IT READS IS OF BULK AT MOST 1048576: true; the input reads as it did. -/
def keepFullUptoRow : OpenClaim := { program := "ytjgiailgidbkmaa", sum := "5a9013916e5b21daf0bbf2bdbf9540748f6403122b89a3fc24942833a82648e4", func := "garner/garnerlaw9.KeepFull", spec := "keepFull", unfollowed := true, recurses := true, apart := false, narrowed := true }
def KeepFullUptoSaid : Prop := keepFullUptoRow.holds Try.pinned (OpenSpec.upto keepFullSpec)

/-- 'garnerlaw9.KeepLasts', WHERE WHAT IT READS IS OF BULK AT MOST 1048576: true; the input reads as it did. -/
def keepLastsUptoRow : OpenClaim := { program := "ytjgiailgidbkmaa", sum := "5a9013916e5b21daf0bbf2bdbf9540748f6403122b89a3fc24942833a82648e4", func := "garner/garnerlaw9.KeepLasts", spec := "keepLasts", unfollowed := true, recurses := true, apart := false, narrowed := true }
def KeepLastsUptoSaid : Prop := keepLastsUptoRow.holds Try.pinned (OpenSpec.upto keepLastsSpec)

/-- 'garnerlaw9.KeepRot', WHERE WHAT IT READS IS OF BULK AT MOST 1048576: true; the input reads as it did. -/
def keepRotUptoRow : OpenClaim := { program := "ytjgiailgidbkmaa", sum := "5a9013916e5b21daf0bbf2bdbf9540748f6403122b89a3fc24942833a82648e4", func := "garner/garnerlaw9.KeepRot", spec := "keepRot", unfollowed := true, recurses := true, apart := false, narrowed := true }
def KeepRotUptoSaid : Prop := keepRotUptoRow.holds Try.pinned (OpenSpec.upto keepRotSpec)

/-- 'garnerlaw9.KeepPlays', WHERE WHAT IT READS IS OF BULK AT MOST 1048576: true; the input reads as it did. -/
def keepPlaysUptoRow : OpenClaim := { program := "ytjgiailgidbkmaa", sum := "5a9013916e5b21daf0bbf2bdbf9540748f6403122b89a3fc24942833a82648e4", func := "garner/garnerlaw9.KeepPlays", spec := "keepPlays", unfollowed := true, recurses := true, apart := false, narrowed := true }
def KeepPlaysUptoSaid : Prop := keepPlaysUptoRow.holds Try.pinned (OpenSpec.upto keepPlaysSpec)

end Rows
end Go.Proofs.Ytjgiailgidbkmaa
