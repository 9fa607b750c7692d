/-
  No cell of these rows narrows 'for every input' (looked for: loops, veiled, ifaces, maps, wideKeys, modest, calm, conditions, laid).
  DERIVED. THE GIVEN ROWS OF THIS SEAT. 4 by the template 'for every input the law returns true; each argument reads behind the call as it read before'; 0 by the template 'total and deterministic' (their statements: YthifnfoppamkiaaTotals.lean).
  GIVEN WITH THE SEED: the statements are not yours to turn. If you find one false, say at which input.
  Laid BY PROGRAM, IN A SANDBOX (cutbox-rows.mjs): the forced cells as the released guide's own fill.sh prints them over the translation b90f840de48d9841… (all of the seat's roots in one cut). By AI agents, Wed Nov 11 2026. No macro, syntax, notation, axiom, sorry.
-/
import Derived.Test.YthifnfoppamkiaaChecked
import GoSem.Claim
import GoSem.ClaimJoined
import GoSem.ClaimMapViews
import Derived.JoinedTies
import Derived.KernelRfl
namespace Go.Proofs.Ythifnfoppamkiaa
/- THE CELL 'sum', in the pinned program and in every row, IS THE sha256 OF THE DUMP (.gsa) THAT YthifnfoppamkiaaProg.lean LOADS. Nothing in Lean hashes anything: it is a label: what it is worth is what the hold of that sum in a sandbox is worth. -/
noncomputable def Try.pinned : Pinned := { name := "ythifnfoppamkiaa", sum := "b90f840de48d9841936ce1ad8bfbc9ae24ac4c65bb07f4556a82d904225e0a1b", checked := Try.checked }
namespace Rows
def none {H : Type} : Left H := { results := [], args := [] }

/-- 'garnerlaw19.PlanNexts': WHATEVER THE INPUT: true; the input reads as it did. -/
def planNextsSpec : ChangeSpec := { name := "planNexts", fn := fun _ => fun
  | [d1, d2, d3, d4] => { results := [.lit (.bool true)], args := [d1, d2, d3, d4] }
  | _ => none }
def planNextsRow : OpenClaim := { program := "ythifnfoppamkiaa", sum := "b90f840de48d9841936ce1ad8bfbc9ae24ac4c65bb07f4556a82d904225e0a1b", func := "garner/garnerlaw19.PlanNexts", spec := "planNexts", unfollowed := true, recurses := true, apart := false }
def PlanNextsSaid : Prop := planNextsRow.holds Try.pinned (OpenSpec.ofChange planNextsSpec)

/-- ITS FALSE NEIGHBOUR: 'it returns false'. Refute it at one input. -/
def planNextsWrong : ChangeSpec := { name := "planNexts", fn := fun _ => fun
  | [d1, d2, d3, d4] => { results := [.lit (.bool false)], args := [d1, d2, d3, d4] }
  | _ => none }
def PlanNextsWrongFalsely : Prop := planNextsRow.holds Try.pinned (OpenSpec.ofChange planNextsWrong)

/-- 'garnerlaw19.PlanSane': WHATEVER THE INPUT: true; the input reads as it did. -/
def planSaneSpec : ChangeSpec := { name := "planSane", fn := fun _ => fun
  | [d1, d2, d3, d4] => { results := [.lit (.bool true)], args := [d1, d2, d3, d4] }
  | _ => none }
def planSaneRow : OpenClaim := { program := "ythifnfoppamkiaa", sum := "b90f840de48d9841936ce1ad8bfbc9ae24ac4c65bb07f4556a82d904225e0a1b", func := "garner/garnerlaw19.PlanSane", spec := "planSane", unfollowed := true, recurses := true, apart := false }
def PlanSaneSaid : Prop := planSaneRow.holds Try.pinned (OpenSpec.ofChange planSaneSpec)

/-- ITS FALSE NEIGHBOUR: 'it returns false'. Refute it at one input. -/
def planSaneWrong : ChangeSpec := { name := "planSane", fn := fun _ => fun
  | [d1, d2, d3, d4] => { results := [.lit (.bool false)], args := [d1, d2, d3, d4] }
  | _ => none }
def PlanSaneWrongFalsely : Prop := planSaneRow.holds Try.pinned (OpenSpec.ofChange planSaneWrong)

/-- 'garnerlaw19.PlanEnds': WHATEVER THE INPUT: true; the input reads as it did. -/
def planEndsSpec : ChangeSpec := { name := "planEnds", fn := fun _ => fun
  | [d1, d2, d3, d4, d5, d6] => { results := [.lit (.bool true)], args := [d1, d2, d3, d4, d5, d6] }
  | _ => none }
def planEndsRow : OpenClaim := { program := "ythifnfoppamkiaa", sum := "b90f840de48d9841936ce1ad8bfbc9ae24ac4c65bb07f4556a82d904225e0a1b", func := "garner/garnerlaw19.PlanEnds", spec := "planEnds", unfollowed := true, recurses := true, apart := false }
def PlanEndsSaid : Prop := planEndsRow.holds Try.pinned (OpenSpec.ofChange planEndsSpec)

/-- ITS FALSE NEIGHBOUR: 'it returns false'. Refute it at one input. -/
def planEndsWrong : ChangeSpec := { name := "planEnds", fn := fun _ => fun
  | [d1, d2, d3, d4, d5, d6] => { results := [.lit (.bool false)], args := [d1, d2, d3, d4, d5, d6] }
  | _ => none }
def PlanEndsWrongFalsely : Prop := planEndsRow.holds Try.pinned (OpenSpec.ofChange planEndsWrong)

/-- 'garnerlaw19.PlanLoads': WHATEVER THE INPUT: true; the input reads as it did. -/
def planLoadsSpec : ChangeSpec := { name := "planLoads", fn := fun _ => fun
  | [d1, d2, d3, d4] => { results := [.lit (.bool true)], args := [d1, d2, d3, d4] }
  | _ => none }
def planLoadsRow : OpenClaim := { program := "ythifnfoppamkiaa", sum := "b90f840de48d9841936ce1ad8bfbc9ae24ac4c65bb07f4556a82d904225e0a1b", func := "garner/garnerlaw19.PlanLoads", spec := "planLoads", unfollowed := true, recurses := true, apart := false }
def PlanLoadsSaid : Prop := planLoadsRow.holds Try.pinned (OpenSpec.ofChange planLoadsSpec)

/-- ITS FALSE NEIGHBOUR: 'it returns false'. Refute it at one input. -/
def planLoadsWrong : ChangeSpec := { name := "planLoads", fn := fun _ => fun
  | [d1, d2, d3, d4] => { results := [.lit (.bool false)], args := [d1, d2, d3, d4] }
  | _ => none }
def PlanLoadsWrongFalsely : Prop := planLoadsRow.holds Try.pinned (OpenSpec.ofChange planLoadsWrong)

/- THE SECOND FORM. 'bulk': how many values and letters a reading holds, each counted each time it is reached (what is shared counts as often as it is met; a slice's spare places count too). A statement '..UptoSaid' is the law's where the arguments, and the package variables that the reading takes, are together of bulk at most 1048576: NARROWER than '..Said'. Prove '..Said' where nothing that the law and all that it calls make is longer than what came in: it says more and counts as full. Else prove '..UptoSaid'. A law counts once. -/
mutual
def uptoBulk {H : Type} : DataW H → Nat
  | .lit (.string bytes) => bytes.length + 1
  | .lit _ => 1
  | .nil => 1
  | .ptr d => uptoBulk d + 1
  | .slice elems spare => uptoBulkAll elems + uptoBulkAll spare + 1
  | .agg parts => uptoBulkAll parts + 1
  | .iface _ d => uptoBulk d + 1
  | .map entries => uptoBulkEntries entries + 1
  | .held _ => 1
def uptoBulkAll {H : Type} : List (DataW H) → Nat
  | [] => 0
  | d :: r => uptoBulk d + uptoBulkAll r
def uptoBulkEntries {H : Type} : List (Lit × DataW H) → Nat
  | [] => 0
  | x :: r => uptoBulkEntry x + uptoBulkEntries r
def uptoBulkEntry {H : Type} : Lit × DataW H → Nat
  | (.string bytes, d) => bytes.length + uptoBulk d + 1
  | (_, d) => uptoBulk d + 1
 end
def uptoSmall : (H : Type) → List (DataW H) → Bool := fun _ ds => decide (uptoBulkAll ds ≤ 1048576)
def OpenSpec.upto (s : _root_.Go.ChangeSpec) : _root_.Go.OpenSpec := { _root_.Go.OpenSpec.ofChange s with cond := some uptoSmall }

/-- 'garnerlaw19.PlanNexts', WHERE WHAT IT READS IS OF BULK AT MOST 1048576: true; the input reads as it did. -/
def planNextsUptoRow : OpenClaim := { program := "ythifnfoppamkiaa", sum := "b90f840de48d9841936ce1ad8bfbc9ae24ac4c65bb07f4556a82d904225e0a1b", func := "garner/garnerlaw19.PlanNexts", spec := "planNexts", unfollowed := true, recurses := true, apart := false, narrowed := true }
def PlanNextsUptoSaid : Prop := planNextsUptoRow.holds Try.pinned (OpenSpec.upto planNextsSpec)

/-- 'garnerlaw19.PlanSane', WHERE WHAT IT READS IS OF BULK AT MOST 1048576: true; the input reads as it did. -/
def planSaneUptoRow : OpenClaim := { program := "ythifnfoppamkiaa", sum := "b90f840de48d9841936ce1ad8bfbc9ae24ac4c65bb07f4556a82d904225e0a1b", func := "garner/garnerlaw19.PlanSane", spec := "planSane", unfollowed := true, recurses := true, apart := false, narrowed := true }
def PlanSaneUptoSaid : Prop := planSaneUptoRow.holds Try.pinned (OpenSpec.upto planSaneSpec)

/-- 'garnerlaw19.PlanEnds', WHERE WHAT IT READS IS OF BULK AT MOST 1048576: true; the input reads as it did. -/
def planEndsUptoRow : OpenClaim := { program := "ythifnfoppamkiaa", sum := "b90f840de48d9841936ce1ad8bfbc9ae24ac4c65bb07f4556a82d904225e0a1b", func := "garner/garnerlaw19.PlanEnds", spec := "planEnds", unfollowed := true, recurses := true, apart := false, narrowed := true }
def PlanEndsUptoSaid : Prop := planEndsUptoRow.holds Try.pinned (OpenSpec.upto planEndsSpec)

/-- 'garnerlaw19.PlanLoads', WHERE WHAT IT READS IS OF BULK AT MOST 1048576: true; the input reads as it did. -/
def planLoadsUptoRow : OpenClaim := { program := "ythifnfoppamkiaa", sum := "b90f840de48d9841936ce1ad8bfbc9ae24ac4c65bb07f4556a82d904225e0a1b", func := "garner/garnerlaw19.PlanLoads", spec := "planLoads", unfollowed := true, recurses := true, apart := false, narrowed := true }
def PlanLoadsUptoSaid : Prop := planLoadsUptoRow.holds Try.pinned (OpenSpec.upto planLoadsSpec)

end Rows
end Go.Proofs.Ythifnfoppamkiaa
