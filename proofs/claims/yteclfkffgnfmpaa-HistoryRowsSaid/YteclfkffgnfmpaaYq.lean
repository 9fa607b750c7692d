/- Histories, plain: calls, rows, orders. Nothing is claimed here. -/
import Derived.Test.YteclfkffgnfmpaaYp
namespace Go.Proofs.Yteclfkffgnfmpaa
set_option linter.unusedVariables false
set_option linter.unusedSimpArgs false

structure Cl where
  kind : Int
  fid : Fid
  data : List UInt8
  fin : Bool
  err : Int
  ans : List UInt8
  begins : Nat
  stops : Nat

def Cl.sure (c : Cl) : Bool := c.fin && !unsureS c.err
def Cl.counts (c : Cl) : Bool := if c.kind = 1 then false else if c.sure = false then decide (c.kind ≠ 3) else tellsS c.kind c.err
def errsS (c : Cl) : List Int := if c.sure then [c.err] else [0, 8, 10, 9]
def goS (c : Cl) (s : HSt) (e : Int) : List HSt :=
  if tellsS c.kind e then (if (nextS s c.kind c.fid c.data e c.ans).2 then [(nextS s c.kind c.fid c.data e c.ans).1] else []) else []
def goesS (c : Cl) (s : HSt) : List HSt := (errsS c).flatMap (goS c s)

def topEnd : Nat := 9223372036854775807
/-- what is left, and the first end of it, of the first n calls of a row -/
def leftS (row : List Cl) (done : Nat) : Nat → Bool
  | 0 => false
  | n + 1 => leftS row done n || (match row[n]? with
    | some c => !done.testBit n && c.sure
    | none => false)
def firstS (row : List Cl) (done : Nat) : Nat → Nat
  | 0 => topEnd
  | n + 1 => match row[n]? with
    | some c => if (!done.testBit n && c.sure) = true then min (firstS row done n) c.stops else firstS row done n
    | none => firstS row done n

/-- may number i come next? -/
def freeS (row : List Cl) (done : Nat) (i : Nat) : Bool := match row[i]? with
  | some c => !done.testBit i && decide (c.begins ≤ firstS row done row.length)
  | none => false

/-- is there an order? -/
def reach (row : List Cl) : Nat → Nat → HSt → Bool
  | 0 => fun _ _ => false
  | f + 1 => fun done s => if leftS row done row.length = false then true else
    (List.range row.length).any fun i => freeS row done i && (match row[i]? with
      | some c => (goesS c s).any fun x => reach row f (done ||| 2 ^ i) x
      | none => false)

def popc (n done : Nat) : Nat := (List.range n).countP fun i => done.testBit i
theorem popc_le (n done : Nat) : popc n done ≤ n := by
  have := List.countP_le_length (p := fun i => done.testBit i) (l := List.range n)
  simpa [popc] using this
theorem popc_set {n done i : Nat} (hi : i < n) (hb : done.testBit i = false) : popc n (done ||| 2 ^ i) = popc n done + 1 := by
  induction n with
  | zero => omega
  | succ n ih =>
    simp only [popc, List.range_succ, List.countP_append, List.countP_singleton] at *
    have hor : (done ||| 2 ^ i).testBit n = (done.testBit n || decide (i = n)) := by
      rw [Nat.testBit_or, Nat.testBit_two_pow]
    by_cases hin : i = n
    · subst hin
      have h2 : List.countP (fun j => (done ||| 2 ^ i).testBit j) (List.range i) = List.countP (fun j => done.testBit j) (List.range i) := by
        refine List.countP_congr fun j hj => ?_
        have := List.mem_range.1 hj
        rw [Nat.testBit_or, Nat.testBit_two_pow]
        simp; omega
      rw [h2, hor, hb]
      simp
    · rw [ih (by omega), hor]
      simp [hin]
      split <;> omega

/-! the row of a history -/
structure Ids where
  l : List (Int × Cl)
def idx (l : List (Int × Cl)) (id : Int) : Option Nat := l.findIdx? fun p => decide (p.1 = id)

def begin' (n i : Nat) (e : Ev) : Cl := ⟨e.kind, e.fid, e.data, false, 0, [], i, n⟩
/-- a call's end; strict: an assignment's place counts only if it went well -/
def finish (strict : Bool) (i : Nat) (e : Ev) (c : Cl) : Cl :=
  { c with fin := true, err := e.err, ans := e.data, stops := i, fid := if c.kind = 1 ∧ (strict = true → e.err = 0) then e.fid else c.fid }
def stepE (strict : Bool) (n i : Nat) (e : Ev) (acc : List (Int × Cl)) : Option (List (Int × Cl)) :=
  if e.kind < 1 ∨ 4 < e.kind then none else
  match idx acc e.call with
  | none => if e.fin then none else some (acc ++ [(e.call, begin' n i e)])
  | some k => match acc[k]? with
    | some (id, c) => if e.fin = true ∧ c.fin = false then some (acc.set k (id, finish strict i e c)) else none
    | none => none
def readFrom (strict : Bool) (n : Nat) : Nat → List Ev → List (Int × Cl) → Option (List (Int × Cl))
  | _, [], acc => some acc
  | i, e :: es, acc => match stepE strict n i e acc with
    | some acc' => readFrom strict n (i + 1) es acc'
    | none => none
def readS (strict : Bool) (l : List Ev) : Option (List Cl) := (readFrom strict l.length 0 l []).map fun acc => acc.map (·.2)
end Go.Proofs.Yteclfkffgnfmpaa
