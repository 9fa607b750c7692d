/-
  No cell of these rows narrows 'for every input' (looked for: loops, veiled, ifaces, maps, wideKeys, modest, calm, conditions, laid).
  DERIVED. THE GIVEN ROWS OF THIS SEAT. 5 by the template 'for every input the law returns true; each argument reads behind the call as it read before'; 0 by the template 'total and deterministic' (their statements: YteclfkffgnfmpaaTotals.lean).
  GIVEN WITH THE SEED: the statements are not yours to turn. If you find one false, say at which input.
  Laid BY PROGRAM, IN A SANDBOX (cutbox-rows.mjs): the forced cells as the released guide's own fill.sh prints them over the translation d0f610715d1ccc8d… (all of the seat's roots in one cut). By AI agents, Wed Nov 11 2026. No macro, syntax, notation, axiom, sorry.
-/
import Derived.Test.YteclfkffgnfmpaaChecked
import GoSem.Claim
import GoSem.ClaimJoined
import GoSem.ClaimMapViews
import Derived.JoinedTies
import Derived.KernelRfl
namespace Go.Proofs.Yteclfkffgnfmpaa
/- THE CELL 'sum', in the pinned program and in every row, IS THE sha256 OF THE DUMP (.gsa) THAT YteclfkffgnfmpaaProg.lean LOADS. Nothing in Lean hashes anything: it is a label: what it is worth is what the hold of that sum in a sandbox is worth. -/
noncomputable def Try.pinned : Pinned := { name := "yteclfkffgnfmpaa", sum := "d0f610715d1ccc8d3471e17cd704b1f3aeb727af158e219da814299dd5baa189", checked := Try.checked }
namespace Rows
def none {H : Type} : Left H := { results := [], args := [] }

/-- 'garnerlaw24.HistoryNexts': WHATEVER THE INPUT: true; the input reads as it did. -/
def historyNextsSpec : ChangeSpec := { name := "historyNexts", fn := fun _ => fun
  | [d1, d2, d3, d4, d5, d6] => { results := [.lit (.bool true)], args := [d1, d2, d3, d4, d5, d6] }
  | _ => none }
def historyNextsRow : OpenClaim := { program := "yteclfkffgnfmpaa", sum := "d0f610715d1ccc8d3471e17cd704b1f3aeb727af158e219da814299dd5baa189", func := "garner/garnerlaw24.HistoryNexts", spec := "historyNexts", recurses := true, plainKeys := false, apart := false }
def HistoryNextsSaid : Prop := historyNextsRow.holds Try.pinned (OpenSpec.ofChange historyNextsSpec)

/-- ITS FALSE NEIGHBOUR: 'it returns false'. Refute it at one input. -/
def historyNextsWrong : ChangeSpec := { name := "historyNexts", fn := fun _ => fun
  | [d1, d2, d3, d4, d5, d6] => { results := [.lit (.bool false)], args := [d1, d2, d3, d4, d5, d6] }
  | _ => none }
def HistoryNextsWrongFalsely : Prop := historyNextsRow.holds Try.pinned (OpenSpec.ofChange historyNextsWrong)

/-- 'garnerlaw24.HistoryChecks': WHATEVER THE INPUT: true; the input reads as it did. -/
def historyChecksSpec : ChangeSpec := { name := "historyChecks", fn := fun _ => fun
  | [d] => { results := [.lit (.bool true)], args := [d] }
  | _ => none }
def historyChecksRow : OpenClaim := { program := "yteclfkffgnfmpaa", sum := "d0f610715d1ccc8d3471e17cd704b1f3aeb727af158e219da814299dd5baa189", func := "garner/garnerlaw24.HistoryChecks", spec := "historyChecks", recurses := true, plainKeys := false, apart := false }
def HistoryChecksSaid : Prop := historyChecksRow.holds Try.pinned (OpenSpec.ofChange historyChecksSpec)

/-- ITS FALSE NEIGHBOUR: 'it returns false'. Refute it at one input. -/
def historyChecksWrong : ChangeSpec := { name := "historyChecks", fn := fun _ => fun
  | [d] => { results := [.lit (.bool false)], args := [d] }
  | _ => none }
def HistoryChecksWrongFalsely : Prop := historyChecksRow.holds Try.pinned (OpenSpec.ofChange historyChecksWrong)

/-- 'garnerlaw24.HistoryRows': WHATEVER THE INPUT: true; the input reads as it did. -/
def historyRowsSpec : ChangeSpec := { name := "historyRows", fn := fun _ => fun
  | [d] => { results := [.lit (.bool true)], args := [d] }
  | _ => none }
def historyRowsRow : OpenClaim := { program := "yteclfkffgnfmpaa", sum := "d0f610715d1ccc8d3471e17cd704b1f3aeb727af158e219da814299dd5baa189", func := "garner/garnerlaw24.HistoryRows", spec := "historyRows", recurses := true, plainKeys := false, apart := false }
def HistoryRowsSaid : Prop := historyRowsRow.holds Try.pinned (OpenSpec.ofChange historyRowsSpec)

/-- ITS FALSE NEIGHBOUR: 'it returns false'. Refute it at one input. -/
def historyRowsWrong : ChangeSpec := { name := "historyRows", fn := fun _ => fun
  | [d] => { results := [.lit (.bool false)], args := [d] }
  | _ => none }
def HistoryRowsWrongFalsely : Prop := historyRowsRow.holds Try.pinned (OpenSpec.ofChange historyRowsWrong)

/-- 'garnerlaw24.HistoryUnsure': WHATEVER THE INPUT: true; the input reads as it did. -/
def historyUnsureSpec : ChangeSpec := { name := "historyUnsure", fn := fun _ => fun
  | [d1, d2, d3] => { results := [.lit (.bool true)], args := [d1, d2, d3] }
  | _ => none }
def historyUnsureRow : OpenClaim := { program := "yteclfkffgnfmpaa", sum := "d0f610715d1ccc8d3471e17cd704b1f3aeb727af158e219da814299dd5baa189", func := "garner/garnerlaw24.HistoryUnsure", spec := "historyUnsure", recurses := true, plainKeys := false, apart := false }
def HistoryUnsureSaid : Prop := historyUnsureRow.holds Try.pinned (OpenSpec.ofChange historyUnsureSpec)

/-- ITS FALSE NEIGHBOUR: 'it returns false'. Refute it at one input. -/
def historyUnsureWrong : ChangeSpec := { name := "historyUnsure", fn := fun _ => fun
  | [d1, d2, d3] => { results := [.lit (.bool false)], args := [d1, d2, d3] }
  | _ => none }
def HistoryUnsureWrongFalsely : Prop := historyUnsureRow.holds Try.pinned (OpenSpec.ofChange historyUnsureWrong)

/-- 'garnerlaw24.HistoryApart': WHATEVER THE INPUT: true; the input reads as it did. -/
def historyApartSpec : ChangeSpec := { name := "historyApart", fn := fun _ => fun
  | [d1, d2] => { results := [.lit (.bool true)], args := [d1, d2] }
  | _ => none }
def historyApartRow : OpenClaim := { program := "yteclfkffgnfmpaa", sum := "d0f610715d1ccc8d3471e17cd704b1f3aeb727af158e219da814299dd5baa189", func := "garner/garnerlaw24.HistoryApart", spec := "historyApart", recurses := true, plainKeys := false, apart := false }
def HistoryApartSaid : Prop := historyApartRow.holds Try.pinned (OpenSpec.ofChange historyApartSpec)

/-- ITS FALSE NEIGHBOUR: 'it returns false'. Refute it at one input. -/
def historyApartWrong : ChangeSpec := { name := "historyApart", fn := fun _ => fun
  | [d1, d2] => { results := [.lit (.bool false)], args := [d1, d2] }
  | _ => none }
def HistoryApartWrongFalsely : Prop := historyApartRow.holds Try.pinned (OpenSpec.ofChange historyApartWrong)

/- THE SECOND FORM. 'bulk': how many values and letters a reading holds, each counted each time it is reached (what is shared counts as often as it is met; a slice's spare places count too). A statement '..UptoSaid' is the law's where the arguments, and the package variables that the reading takes, are together of bulk at most 1048576: NARROWER than '..Said'. Prove '..Said' where nothing that the law and all that it calls make is longer than what came in: it says more and counts as full. Else prove '..UptoSaid'. A law counts once. -/
mutual
def uptoBulk {H : Type} : DataW H → Nat
  | .lit (.string bytes) => bytes.length + 1
  | .lit _ => 1
  | .nil => 1
  | .ptr d => uptoBulk d + 1
  | .slice elems spare => uptoBulkAll elems + uptoBulkAll spare + 1
  | .agg parts => uptoBulkAll parts + 1
  | .iface _ d => uptoBulk d + 1
  | .map entries => uptoBulkEntries entries + 1
  | .held _ => 1
def uptoBulkAll {H : Type} : List (DataW H) → Nat
  | [] => 0
  | d :: r => uptoBulk d + uptoBulkAll r
def uptoBulkEntries {H : Type} : List (Lit × DataW H) → Nat
  | [] => 0
  | x :: r => uptoBulkEntry x + uptoBulkEntries r
def uptoBulkEntry {H : Type} : Lit × DataW H → Nat
  | (.string bytes, d) => bytes.length + uptoBulk d + 1
  | (_, d) => uptoBulk d + 1
 end
def uptoSmall : (H : Type) → List (DataW H) → Bool := fun _ ds => decide (uptoBulkAll ds ≤ 1048576)
def OpenSpec.upto (s : _root_.Go.ChangeSpec) : _root_.Go.OpenSpec := { _root_.Go.OpenSpec.ofChange s with cond := some uptoSmall }

/-- 'garnerlaw24.HistoryNexts', WHERE WHAT IT READS IS OF BULK AT MOST 1048576: true; the input reads as it did. -/
def historyNextsUptoRow : OpenClaim := { program := "yteclfkffgnfmpaa", sum := "d0f610715d1ccc8d3471e17cd704b1f3aeb727af158e219da814299dd5baa189", func := "garner/garnerlaw24.HistoryNexts", spec := "historyNexts", recurses := true, plainKeys := false, apart := false, narrowed := true }
def HistoryNextsUptoSaid : Prop := historyNextsUptoRow.holds Try.pinned (OpenSpec.upto historyNextsSpec)

/-- 'garnerlaw24.HistoryChecks', WHERE WHAT IT READS IS OF BULK AT MOST 1048576: true; the input reads as it did. -/
def historyChecksUptoRow : OpenClaim := { program := "yteclfkffgnfmpaa", sum := "d0f610715d1ccc8d3471e17cd704b1f3aeb727af158e219da814299dd5baa189", func := "garner/garnerlaw24.HistoryChecks", spec := "historyChecks", recurses := true, plainKeys := false, apart := false, narrowed := true }
def HistoryChecksUptoSaid : Prop := historyChecksUptoRow.holds Try.pinned (OpenSpec.upto historyChecksSpec)

/-- 'garnerlaw24.HistoryRows', WHERE WHAT IT READS IS OF BULK AT MOST 1048576: true; the input reads as it did. -/
def historyRowsUptoRow : OpenClaim := { program := "yteclfkffgnfmpaa", sum := "d0f610715d1ccc8d3471e17cd704b1f3aeb727af158e219da814299dd5baa189", func := "garner/garnerlaw24.HistoryRows", spec := "historyRows", recurses := true, plainKeys := false, apart := false, narrowed := true }
def HistoryRowsUptoSaid : Prop := historyRowsUptoRow.holds Try.pinned (OpenSpec.upto historyRowsSpec)

/-- 'garnerlaw24.HistoryUnsure', WHERE WHAT IT READS IS OF BULK AT MOST 1048576: true; the input reads as it did. -/
def historyUnsureUptoRow : OpenClaim := { program := "yteclfkffgnfmpaa", sum := "d0f610715d1ccc8d3471e17cd704b1f3aeb727af158e219da814299dd5baa189", func := "garner/garnerlaw24.HistoryUnsure", spec := "historyUnsure", recurses := true, plainKeys := false, apart := false, narrowed := true }
def HistoryUnsureUptoSaid : Prop := historyUnsureUptoRow.holds Try.pinned (OpenSpec.upto historyUnsureSpec)

/-- 'garnerlaw24.HistoryApart', WHERE WHAT IT READS IS OF BULK AT MOST 1048576: true; the input reads as it did. -/
def historyApartUptoRow : OpenClaim := { program := "yteclfkffgnfmpaa", sum := "d0f610715d1ccc8d3471e17cd704b1f3aeb727af158e219da814299dd5baa189", func := "garner/garnerlaw24.HistoryApart", spec := "historyApart", recurses := true, plainKeys := false, apart := false, narrowed := true }
def HistoryApartUptoSaid : Prop := historyApartUptoRow.holds Try.pinned (OpenSpec.upto historyApartSpec)

end Rows
end Go.Proofs.Yteclfkffgnfmpaa
