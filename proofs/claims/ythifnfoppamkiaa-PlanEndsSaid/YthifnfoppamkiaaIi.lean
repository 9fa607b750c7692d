/- Plan: an action that comes back. Nothing is claimed here. -/
import Derived.Test.YthifnfoppamkiaaIh
namespace Go.Proofs.Ythifnfoppamkiaa
open Go.RowKit
set_option linter.unusedVariables false
set_option linter.unusedSimpArgs false
set_option maxRecDepth 100000

theorem Sep.adds {P : Program} {B : Nat} {w0 w w' : World} {L L' : List Res} (h : Sep P B w0 w L) (hB : B ≤ w.heap.size) (h' : Sep P w.heap.size w w' L') : Sep P B w0 w' (L' ++ L) := by
  have hc := h.call hB (Turns.of_below h'.below)
  refine ⟨hc.below, fun R hR => ?_, fun R hR => ?_, ?_⟩
  · rcases List.mem_append.1 hR with hR | hR
    · exact h'.hold R hR
    · exact hc.hold R hR
  · rcases List.mem_append.1 hR with hR | hR
    · exact fun b hb => Nat.le_trans hB (h'.own R hR b hb)
    · exact hc.own R hR
  · rw [List.flatMap_append, List.nodup_append]
    refine ⟨h'.apart, h.apart, fun a ha b hb hab => ?_⟩
    subst hab
    obtain ⟨R, hR, hr⟩ := List.mem_flatMap.1 ha
    obtain ⟨Q, hQ, hq⟩ := List.mem_flatMap.1 hb
    have h1 := h'.own R hR a hr
    have h2 := (h.lt hQ hq).2
    omega
/-- an action as a value -/
def actV (a : PA) (kv nv : Value) : Value := .agg #[.int .i64 a.kind, .int .i64 a.vol, .int .i64 a.st, kv, nv]
def noneV : Value := .tuple #[.agg #[.int .i64 0, .int .i64 0, .int .i64 0, .slice none 0 0, .slice none 0 0], .bool false]
/-- an action that came back, or none -/
def ActS (w0 : World) (o : Option PA) (r : Value) (w' : World) : Prop := match o with
  | none => r = noneV ∧ Below w0.heap.size w0 w'
  | some a => ∃ kv nv, r = .tuple #[actV a kv nv, .bool true] ∧ Sep Try.prog w0.heap.size w0 w' [.row 3 1 kv a.keep.length (numC a.keep), .row 3 1 nv a.ns.length (numC a.ns)]
end Go.Proofs.Ythifnfoppamkiaa
