/- Histories, plain. Nothing is claimed here. -/
import Derived.Test.YteclfkffgnfmpaaSb
namespace Go.Proofs.Yteclfkffgnfmpaa
set_option linter.unusedVariables false
set_option linter.unusedSimpArgs false

structure Fid where
  vol : Int
  key : Nat
  cookie : Nat
structure Ev where
  call : Int
  fin : Bool
  kind : Int
  fid : Fid
  data : List UInt8
  err : Int

abbrev HSt := Int × Nat × ByteArray

def unsureS (e : Int) : Bool := decide (e = 16) || decide (e = 6)
def tellsS (k e : Int) : Bool :=
  if e = 0 then decide (k ≠ 1) else if e = 10 then decide (k ≠ 1) else if e = 8 then decide (k = 2) else if e = 7 then decide (k = 3) else if e = 9 then decide (k = 2) || decide (k = 3) else false
def toldS (k e : Int) : Bool :=
  if k = 2 then decide (e = 0) || decide (e = 8) || decide (e = 10) || decide (e = 9)
  else if k = 3 then decide (e = 0) || decide (e = 7) || decide (e = 10) || decide (e = 9)
  else decide (e = 0) || decide (e = 10)
theorem toldS_eq (k e : Int) (h : 2 ≤ k) (h' : k ≤ 4) : toldS k e = tellsS k e := by
  unfold toldS tellsS
  rcases (by omega : k = 2 ∨ k = 3 ∨ k = 4) with rfl | rfl | rfl <;> (repeat' split) <;> simp_all <;> omega

/-- to which state a call goes -/
def nextS (s : HSt) (k : Int) (f : Fid) (data : List UInt8) (e : Int) (ans : List UInt8) : HSt × Bool :=
  if k < 2 ∨ 4 < k ∨ unsureS e = true then (s, false)
  else if tellsS k e = false then (s, true)
  else if e = 10 then (s, decide (s.1 = 1 ∧ s.2.1 ≠ f.cookie))
  else if k = 2 then
    if e = 8 then (s, decide (s.1 = 1 ∧ s.2.1 = f.cookie ∧ s.2.2 ≠ mkB data))
    else if s.1 = 0 then ((1, f.cookie, mkB data), true)
    else if e = 0 then (s, decide (s.1 = 1 ∧ s.2.1 = f.cookie ∧ s.2.2 = mkB data))
    else (s, decide (s.1 = 2))
  else if k = 3 then
    if e = 0 then (s, decide (s.1 = 1 ∧ s.2.1 = f.cookie ∧ s.2.2 = mkB ans))
    else if e = 7 then (s, decide (s.1 = 0))
    else (s, decide (s.1 = 2))
  else if s.1 = 2 ∨ s.1 = 0 ∨ (s.1 = 1 ∧ s.2.1 = f.cookie) then ((2, 0, ByteArray.empty), true)
  else (s, false)

def stV (s : HSt) : Value := .agg #[.int .i64 s.1, .int .u32 (s.2.1 : Int), .string s.2.2]
def fidV (f : Fid) : Value := .agg #[.int .i64 f.vol, .int .u64 (f.key : Int), .int .u32 (f.cookie : Int)]
end Go.Proofs.Yteclfkffgnfmpaa
