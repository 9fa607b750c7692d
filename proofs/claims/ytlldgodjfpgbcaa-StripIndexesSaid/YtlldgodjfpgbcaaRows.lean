/-
  No cell of these rows narrows 'for every input' (looked for: loops, veiled, ifaces, maps, wideKeys, modest, calm, conditions, laid).
  DERIVED. THE GIVEN ROWS OF THIS SEAT. 6 by the template 'for every input the law returns true; each argument reads behind the call as it read before'; 0 by the template 'total and deterministic' (their statements: YtlldgodjfpgbcaaTotals.lean).
  GIVEN WITH THE SEED: the statements are not yours to turn. If you find one false, say at which input.
  Laid BY PROGRAM, IN A SANDBOX (cutbox-rows.mjs): the forced cells as the released guide's own fill.sh prints them over the translation a4f6cc7e6f96c537… (all of the seat's roots in one cut). By AI agents, Wed Nov 11 2026. No macro, syntax, notation, axiom, sorry.
-/
import Derived.Test.YtlldgodjfpgbcaaChecked
import GoSem.Claim
import GoSem.ClaimJoined
import GoSem.ClaimMapViews
import Derived.JoinedTies
import Derived.KernelRfl
namespace Go.Proofs.Ytlldgodjfpgbcaa
/- THE CELL 'sum', in the pinned program and in every row, IS THE sha256 OF THE DUMP (.gsa) THAT YtlldgodjfpgbcaaProg.lean LOADS. Nothing in Lean hashes anything: it is a label: what it is worth is what the hold of that sum in a sandbox is worth. -/
noncomputable def Try.pinned : Pinned := { name := "ytlldgodjfpgbcaa", sum := "a4f6cc7e6f96c5371eaa177e13f1a130b9d0927d1ab136930e53ebef3ea58037", checked := Try.checked }
namespace Rows
def none {H : Type} : Left H := { results := [], args := [] }

/-- 'garnerlaw14.StripCuts': WHATEVER THE INPUT: true; the input reads as it did. -/
def stripCutsSpec : ChangeSpec := { name := "stripCuts", fn := fun _ => fun
  | [d1, d2, d3] => { results := [.lit (.bool true)], args := [d1, d2, d3] }
  | _ => none }
def stripCutsRow : OpenClaim := { program := "ytlldgodjfpgbcaa", sum := "a4f6cc7e6f96c5371eaa177e13f1a130b9d0927d1ab136930e53ebef3ea58037", func := "garner/garnerlaw14.StripCuts", spec := "stripCuts", apart := false }
def StripCutsSaid : Prop := stripCutsRow.holds Try.pinned (OpenSpec.ofChange stripCutsSpec)

/-- ITS FALSE NEIGHBOUR: 'it returns false'. Refute it at one input. -/
def stripCutsWrong : ChangeSpec := { name := "stripCuts", fn := fun _ => fun
  | [d1, d2, d3] => { results := [.lit (.bool false)], args := [d1, d2, d3] }
  | _ => none }
def StripCutsWrongFalsely : Prop := stripCutsRow.holds Try.pinned (OpenSpec.ofChange stripCutsWrong)

/-- 'garnerlaw14.StripRows': WHATEVER THE INPUT: true; the input reads as it did. -/
def stripRowsSpec : ChangeSpec := { name := "stripRows", fn := fun _ => fun
  | [d1, d2, d3] => { results := [.lit (.bool true)], args := [d1, d2, d3] }
  | _ => none }
def stripRowsRow : OpenClaim := { program := "ytlldgodjfpgbcaa", sum := "a4f6cc7e6f96c5371eaa177e13f1a130b9d0927d1ab136930e53ebef3ea58037", func := "garner/garnerlaw14.StripRows", spec := "stripRows", apart := false }
def StripRowsSaid : Prop := stripRowsRow.holds Try.pinned (OpenSpec.ofChange stripRowsSpec)

/-- ITS FALSE NEIGHBOUR: 'it returns false'. Refute it at one input. -/
def stripRowsWrong : ChangeSpec := { name := "stripRows", fn := fun _ => fun
  | [d1, d2, d3] => { results := [.lit (.bool false)], args := [d1, d2, d3] }
  | _ => none }
def StripRowsWrongFalsely : Prop := stripRowsRow.holds Try.pinned (OpenSpec.ofChange stripRowsWrong)

/-- 'garnerlaw14.StripFiles': WHATEVER THE INPUT: true; the input reads as it did. -/
def stripFilesSpec : ChangeSpec := { name := "stripFiles", fn := fun _ => fun
  | [d1, d2, d3, d4, d5] => { results := [.lit (.bool true)], args := [d1, d2, d3, d4, d5] }
  | _ => none }
def stripFilesRow : OpenClaim := { program := "ytlldgodjfpgbcaa", sum := "a4f6cc7e6f96c5371eaa177e13f1a130b9d0927d1ab136930e53ebef3ea58037", func := "garner/garnerlaw14.StripFiles", spec := "stripFiles", unfollowed := true, recurses := true, apart := false }
def StripFilesSaid : Prop := stripFilesRow.holds Try.pinned (OpenSpec.ofChange stripFilesSpec)

/-- ITS FALSE NEIGHBOUR: 'it returns false'. Refute it at one input. -/
def stripFilesWrong : ChangeSpec := { name := "stripFiles", fn := fun _ => fun
  | [d1, d2, d3, d4, d5] => { results := [.lit (.bool false)], args := [d1, d2, d3, d4, d5] }
  | _ => none }
def StripFilesWrongFalsely : Prop := stripFilesRow.holds Try.pinned (OpenSpec.ofChange stripFilesWrong)

/-- 'garnerlaw14.StripRots': WHATEVER THE INPUT: true; the input reads as it did. -/
def stripRotsSpec : ChangeSpec := { name := "stripRots", fn := fun _ => fun
  | [d1, d2, d3] => { results := [.lit (.bool true)], args := [d1, d2, d3] }
  | _ => none }
def stripRotsRow : OpenClaim := { program := "ytlldgodjfpgbcaa", sum := "a4f6cc7e6f96c5371eaa177e13f1a130b9d0927d1ab136930e53ebef3ea58037", func := "garner/garnerlaw14.StripRots", spec := "stripRots", unfollowed := true, recurses := true, apart := false }
def StripRotsSaid : Prop := stripRotsRow.holds Try.pinned (OpenSpec.ofChange stripRotsSpec)

/-- ITS FALSE NEIGHBOUR: 'it returns false'. Refute it at one input. -/
def stripRotsWrong : ChangeSpec := { name := "stripRots", fn := fun _ => fun
  | [d1, d2, d3] => { results := [.lit (.bool false)], args := [d1, d2, d3] }
  | _ => none }
def StripRotsWrongFalsely : Prop := stripRotsRow.holds Try.pinned (OpenSpec.ofChange stripRotsWrong)

/-- 'garnerlaw14.StripReads': WHATEVER THE INPUT: true; the input reads as it did. -/
def stripReadsSpec : ChangeSpec := { name := "stripReads", fn := fun _ => fun
  | [d] => { results := [.lit (.bool true)], args := [d] }
  | _ => none }
def stripReadsRow : OpenClaim := { program := "ytlldgodjfpgbcaa", sum := "a4f6cc7e6f96c5371eaa177e13f1a130b9d0927d1ab136930e53ebef3ea58037", func := "garner/garnerlaw14.StripReads", spec := "stripReads", apart := false }
def StripReadsSaid : Prop := stripReadsRow.holds Try.pinned (OpenSpec.ofChange stripReadsSpec)

/-- ITS FALSE NEIGHBOUR: 'it returns false'. Refute it at one input. -/
def stripReadsWrong : ChangeSpec := { name := "stripReads", fn := fun _ => fun
  | [d] => { results := [.lit (.bool false)], args := [d] }
  | _ => none }
def StripReadsWrongFalsely : Prop := stripReadsRow.holds Try.pinned (OpenSpec.ofChange stripReadsWrong)

/-- 'garnerlaw14.StripIndexes': WHATEVER THE INPUT: true; the input reads as it did. -/
def stripIndexesSpec : ChangeSpec := { name := "stripIndexes", fn := fun _ => fun
  | [d1, d2] => { results := [.lit (.bool true)], args := [d1, d2] }
  | _ => none }
def stripIndexesRow : OpenClaim := { program := "ytlldgodjfpgbcaa", sum := "a4f6cc7e6f96c5371eaa177e13f1a130b9d0927d1ab136930e53ebef3ea58037", func := "garner/garnerlaw14.StripIndexes", spec := "stripIndexes", unfollowed := true, recurses := true, apart := false }
def StripIndexesSaid : Prop := stripIndexesRow.holds Try.pinned (OpenSpec.ofChange stripIndexesSpec)

/-- ITS FALSE NEIGHBOUR: 'it returns false'. Refute it at one input. -/
def stripIndexesWrong : ChangeSpec := { name := "stripIndexes", fn := fun _ => fun
  | [d1, d2] => { results := [.lit (.bool false)], args := [d1, d2] }
  | _ => none }
def StripIndexesWrongFalsely : Prop := stripIndexesRow.holds Try.pinned (OpenSpec.ofChange stripIndexesWrong)

/- THE SECOND FORM. 'bulk': how many values and letters a reading holds, each counted each time it is reached (what is shared counts as often as it is met; a slice's spare places count too). A statement '..UptoSaid' is the law's where the arguments, and the package variables that the reading takes, are together of bulk at most 1048576: NARROWER than '..Said'. Prove '..Said' where nothing that the law and all that it calls make is longer than what came in: it says more and counts as full. Else prove '..UptoSaid'. A law counts once. -/
mutual
def uptoBulk {H : Type} : DataW H → Nat
  | .lit (.string bytes) => bytes.length + 1
  | .lit _ => 1
  | .nil => 1
  | .ptr d => uptoBulk d + 1
  | .slice elems spare => uptoBulkAll elems + uptoBulkAll spare + 1
  | .agg parts => uptoBulkAll parts + 1
  | .iface _ d => uptoBulk d + 1
  | .map entries => uptoBulkEntries entries + 1
  | .held _ => 1
def uptoBulkAll {H : Type} : List (DataW H) → Nat
  | [] => 0
  | d :: r => uptoBulk d + uptoBulkAll r
def uptoBulkEntries {H : Type} : List (Lit × DataW H) → Nat
  | [] => 0
  | x :: r => uptoBulkEntry x + uptoBulkEntries r
def uptoBulkEntry {H : Type} : Lit × DataW H → Nat
  | (.string bytes, d) => bytes.length + uptoBulk d + 1
  | (_, d) => uptoBulk d + 1
 end
def uptoSmall : (H : Type) → List (DataW H) → Bool := fun _ ds => decide (uptoBulkAll ds ≤ 1048576)
def OpenSpec.upto (s : _root_.Go.ChangeSpec) : _root_.Go.OpenSpec := { _root_.Go.OpenSpec.ofChange s with cond := some uptoSmall }

/-- 'garnerlaw14.StripCuts', WHERE WHAT IT READS IS OF BULK AT MOST 1048576: true; the input reads as it did. -/
def stripCutsUptoRow : OpenClaim := { program := "ytlldgodjfpgbcaa", sum := "a4f6cc7e6f96c5371eaa177e13f1a130b9d0927d1ab136930e53ebef3ea58037", func := "garner/garnerlaw14.StripCuts", spec := "stripCuts", apart := false, narrowed := true }
def StripCutsUptoSaid : Prop := stripCutsUptoRow.holds Try.pinned (OpenSpec.upto stripCutsSpec)

/-- 'garnerlaw14.StripRows', WHERE WHAT IT READS IS OF BULK AT MOST 1048576: true; the input reads as it did. -/
def stripRowsUptoRow : OpenClaim := { program := "ytlldgodjfpgbcaa", sum := "a4f6cc7e6f96c5371eaa177e13f1a130b9d0927d1ab136930e53ebef3ea58037", func := "garner/garnerlaw14.StripRows", spec := "stripRows", apart := false, narrowed := true }
def StripRowsUptoSaid : Prop := stripRowsUptoRow.holds Try.pinned (OpenSpec.upto stripRowsSpec)

/-- 'garnerlaw14.StripFiles', WHERE WHAT IT READS IS OF BULK AT MOST 1048576: true; the input reads as it did. -/
def stripFilesUptoRow : OpenClaim := { program := "ytlldgodjfpgbcaa", sum := "a4f6cc7e6f96c5371eaa177e13f1a130b9d0927d1ab136930e53ebef3ea58037", func := "garner/garnerlaw14.StripFiles", spec := "stripFiles", unfollowed := true, recurses := true, apart := false, narrowed := true }
def StripFilesUptoSaid : Prop := stripFilesUptoRow.holds Try.pinned (OpenSpec.upto stripFilesSpec)

/-- 'garnerlaw14.StripRots', WHERE WHAT IT READS IS OF BULK AT MOST 1048576: true; the input reads as it did. -/
def stripRotsUptoRow : OpenClaim := { program := "ytlldgodjfpgbcaa", sum := "a4f6cc7e6f96c5371eaa177e13f1a130b9d0927d1ab136930e53ebef3ea58037", func := "garner/garnerlaw14.StripRots", spec := "stripRots", unfollowed := true, recurses := true, apart := false, narrowed := true }
def StripRotsUptoSaid : Prop := stripRotsUptoRow.holds Try.pinned (OpenSpec.upto stripRotsSpec)

/-- 'garnerlaw14.StripReads', WHERE WHAT IT READS IS OF BULK AT MOST 1048576: true; the input reads as it did. -/
def stripReadsUptoRow : OpenClaim := { program := "ytlldgodjfpgbcaa", sum := "a4f6cc7e6f96c5371eaa177e13f1a130b9d0927d1ab136930e53ebef3ea58037", func := "garner/garnerlaw14.StripReads", spec := "stripReads", apart := false, narrowed := true }
def StripReadsUptoSaid : Prop := stripReadsUptoRow.holds Try.pinned (OpenSpec.upto stripReadsSpec)

/-- 'garnerlaw14.StripIndexes', WHERE WHAT IT READS IS OF BULK AT MOST 1048576: true; the input reads as it did. -/
def stripIndexesUptoRow : OpenClaim := { program := "ytlldgodjfpgbcaa", sum := "a4f6cc7e6f96c5371eaa177e13f1a130b9d0927d1ab136930e53ebef3ea58037", func := "garner/garnerlaw14.StripIndexes", spec := "stripIndexes", unfollowed := true, recurses := true, apart := false, narrowed := true }
def StripIndexesUptoSaid : Prop := stripIndexesUptoRow.holds Try.pinned (OpenSpec.upto stripIndexesSpec)

end Rows
end Go.Proofs.Ytlldgodjfpgbcaa
