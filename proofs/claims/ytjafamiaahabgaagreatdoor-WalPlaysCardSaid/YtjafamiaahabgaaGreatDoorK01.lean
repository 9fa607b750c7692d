/- A partial environment: the code of a region is run by reduction; loops, drawn regions, numbers. Slices and bytes over the layer: loads, stores, make, append, copy, rows of rows, literals. Nothing is claimed here. -/
import Derived.WalkKit
import Derived.Orders
import Derived.Deep.Quiet
import Derived.KernelRfl
import Derived.Deep.LoopGhost
import Derived.StillTail
import Derived.OrdersHeld
import Derived.Laws.AppendOwnNone
import Derived.Laws.CopyOwn
import Derived.Laws.OwnMore
import Derived.Lib.OwnKind
import Derived.Laws.CopyRow
import Derived.Lib.AppendZerosOnto
import Derived.Laws.BytesArg
import Derived.WideShapes
namespace Go.Proofs.YtjafamiaahabgaaGreatDoor

set_option linter.unusedVariables false
set_option linter.unusedSimpArgs false

/-! ### Partial frames -/
abbrev Env := List (Nat × Value)

def look {α : Type} : List (Nat × α) → Nat → Option α
  | [], _ => none
  | (i, v) :: e, j => match Nat.beq i j with
    | true => some v
    | false => look e j

def ov (e : Env) : Operand → Option Value
  | .tmp t => look e t
  | .const v => some v
  | .global g => some (.pointer (some ⟨g, 0, none⟩))
  | .func f => some (.func (.func f) #[] #[])

def ovs (e : Env) : List Operand → Option (List Value)
  | [] => some []
  | x :: xs => match ov e x with
    | some v => match ovs e xs with
      | some vs => some (v :: vs)
      | none => none
    | none => none

structure Fits (N : Nat) (e : Env) (a : Act) : Prop where
  defers : a.defers = []
  size : a.tmps.size = N
  get : ∀ j v, look e j = some v → a.tmps.getD j undef = v

theorem look_cons {α : Type} (i : Nat) (v : α) (e : List (Nat × α)) (j : Nat) : look ((i, v) :: e) j = if i = j then some v else look e j := by
  simp only [look]
  by_cases h : i = j
  · subst h; simp
  · cases hb : Nat.beq i j
    · simp [h]
    · exact absurd (Nat.eq_of_beq_eq_true hb) h

theorem Fits.ov {N : Nat} {e : Env} {a : Act} (h : Fits N e a) {x : Operand} {v : Value} (hx : ov e x = some v) : a.eval x = v := by
  cases x with
  | tmp t => exact h.get t v hx
  | const c => simpa [Go.Proofs.YtjafamiaahabgaaGreatDoor.ov, Act.eval] using hx
  | global g => simpa [Go.Proofs.YtjafamiaahabgaaGreatDoor.ov, Act.eval] using hx
  | func f => simpa [Go.Proofs.YtjafamiaahabgaaGreatDoor.ov, Act.eval] using hx

theorem Fits.ovs {N : Nat} {e : Env} {a : Act} (h : Fits N e a) : ∀ {xs : List Operand} {vs : List Value}, ovs e xs = some vs → xs.map a.eval = vs := by
  intro xs
  induction xs with
  | nil => intro vs hx; simpa [Go.Proofs.YtjafamiaahabgaaGreatDoor.ovs, eq_comm] using hx
  | cons x xs ih =>
    intro vs hx
    simp only [Go.Proofs.YtjafamiaahabgaaGreatDoor.ovs] at hx
    cases h1 : Go.Proofs.YtjafamiaahabgaaGreatDoor.ov e x with
    | none => simp [h1] at hx
    | some v =>
      cases h2 : Go.Proofs.YtjafamiaahabgaaGreatDoor.ovs e xs with
      | none => simp [h1, h2] at hx
      | some us =>
        simp [h1, h2] at hx
        subst hx
        simp [h.ov h1, ih h2]

theorem Fits.put {N : Nat} {e : Env} {a : Act} (h : Fits N e a) {d : Nat} (hd : d < N) (v : Value) : Fits N ((d, v) :: e) (a.put (some d) v) := by
  refine ⟨h.defers, by simp [Act.put, h.size], fun j u hj => ?_⟩
  rw [look_cons] at hj
  by_cases hdj : d = j
  · subst hdj
    rw [if_pos rfl] at hj
    injection hj with hj
    subst hj
    simp [Act.put, h.size, hd]
  · rw [if_neg hdj] at hj
    have := h.get j u hj
    simpa [Act.put, Array.getElem?_setIfInBounds_ne hdj] using this

def Sub (e e' : Env) : Prop := ∀ j v, look e j = some v → look e' j = some v
theorem Fits.sub {N : Nat} {e e' : Env} {a : Act} (h : Fits N e' a) (hs : Sub e e') : Fits N e a := ⟨h.defers, h.size, fun j v hj => h.get j v (hs j v hj)⟩

def subL : Env → Env → Prop
  | [], _ => True
  | (i, v) :: l, e => look e i = some v ∧ subL l e
theorem subL.sub : ∀ {l e : Env}, subL l e → Sub l e
  | [], _, _ => fun j v h => by simp [look] at h
  | (i, u) :: l, e, h => fun j v hj => by
    rw [look_cons] at hj
    by_cases hij : i = j
    · subst hij
      rw [if_pos rfl] at hj
      rw [h.1]; exact hj
    · rw [if_neg hij] at hj
      exact subL.sub h.2 j v hj

/-! ### The table of types -/
inductive Sh where
  | bool | int (k : IntKind) | str | ptr (e : TypeId) | slice (e : TypeId) | array (n : Nat) (e : TypeId) | map (k e : TypeId)
  | struct (fs : List (Nat × TypeId)) | func | iface | other

structure Td where
  sh : Sh
  size : Nat
  bytes : Nat
  zero : Value

def shOf : TypeDesc → Sh
  | .bool => .bool
  | .int k => .int k
  | .string => .str
  | .pointer e => .ptr e
  | .slice e => .slice e
  | .array n e => .array n e
  | .map k e => .map k e
  | .struct fs => .struct (fs.toList.map fun f => (f.offset, f.type))
  | .func .. => .func
  | .interface _ => .iface
  | _ => .other

structure TdOk (P : Program) (t : TypeId) (d : Td) : Prop where
  sh : (P.underlying t).map shOf = some d.sh
  info : (P.info? t).map (fun i => (i.zero, i.size, i.bytes)) = some (some d.zero, d.size, d.bytes)

abbrev Tab := List (Nat × Td)
def TabOk (P : Program) (T : Tab) : Prop := ∀ t d, look T t = some d → TdOk P t d
theorem tabOk_nil {P : Program} : TabOk P [] := fun _ _ h => by simp [look] at h
theorem tabOk_cons {P : Program} {t : TypeId} {d : Td} {T : Tab} (h : TdOk P t d) (h' : TabOk P T) : TabOk P ((t, d) :: T) := fun u c hu => by
  rw [look_cons] at hu
  by_cases htu : t = u
  · subst htu
    rw [if_pos rfl] at hu
    injection hu with hu
    subst hu; exact h
  · rw [if_neg htu] at hu
    exact h' u c hu

def Sh.agg : Sh → Bool
  | .struct _ | .array _ _ => true
  | _ => false

section
variable {P : Program} {t : TypeId} {d : Td} (h : TdOk P t d) (w : World)
include h
theorem TdOk.und : ∃ x, P.underlying t = some x ∧ shOf x = d.sh := by
  have := h.sh
  cases hx : P.underlying t with
  | none => simp [hx] at this
  | some x => exact ⟨x, rfl, by simpa [hx] using this⟩
theorem TdOk.inf : ∃ i, P.info? t = some i ∧ i.zero = some d.zero ∧ i.size = d.size ∧ i.bytes = d.bytes := info_parts h.info
theorem TdOk.run_und : ∃ x, (underlying t).run P w = .ok x w ∧ shOf x = d.sh := by
  obtain ⟨x, hx, hs⟩ := h.und
  exact ⟨x, by simp [underlying, hx], hs⟩
theorem TdOk.run_size : (sizeOf t).run P w = .ok d.size w := by
  obtain ⟨i, hi, _, hs, _⟩ := h.inf
  simp [sizeOf, typeInfo, hi, hs]
theorem TdOk.run_zero : (zeroValue t).run P w = .ok d.zero w := by
  obtain ⟨i, hi, hz, _, _⟩ := h.inf
  simp [zeroValue, typeInfo, hi, hz]
theorem TdOk.run_agg : (isAgg t).run P w = .ok d.sh.agg w := by
  obtain ⟨x, hx, hs⟩ := h.run_und w
  rw [← hs]
  cases x <;> simp [isAgg, hx, shOf, Sh.agg]
end

/-! ### What stops a reduction -/
structure Ar (k : IntKind) (z : Int) (K : Int → Prop) : Prop where
  i ::
  o : K (k.wrap z)
structure Bt (op : BinOp) (k : IntKind) (a b : Int) (K : Int → Prop) : Prop where
  i ::
  o : K (bits op k a b)
structure Shl (k : IntKind) (a b : Int) (K : Int → Prop) : Prop where
  i ::
  o : 0 ≤ b ∧ K (k.wrap (a * 2 ^ (min b.toNat k.bits)))
structure Shr (k : IntKind) (a b : Int) (K : Int → Prop) : Prop where
  i ::
  o : 0 ≤ b ∧ K (a.fdiv (2 ^ (min b.toNat k.bits)))
structure Quo (k : IntKind) (a b : Int) (K : Int → Prop) : Prop where
  i ::
  o : b ≠ 0 ∧ K (k.wrap (a.tdiv b))
structure Rem (k : IntKind) (a b : Int) (K : Int → Prop) : Prop where
  i ::
  o : b ≠ 0 ∧ K (a.tmod b)
/-- a bound, then what follows -/
structure Chk (A B : Prop) : Prop where
  i ::
  o : A ∧ B
structure Br (b : Bool) (A B : Prop) : Prop where
  i ::
  o : (b = true → A) ∧ (b = false → B)
/-- a computation that hands on a value and leaves every world alone -/
structure Qv (P : Program) (s : Sem Value) (K : Value → Prop) : Prop where
  i ::
  o : ∃ v, (∀ w, s.run P w = .ok v w) ∧ K v
structure Rv (P : Program) (s : Sem Value) (w : World) (K : Value → World → Prop) : Prop where
  i ::
  o : ∃ v w', s.run P w = .ok v w' ∧ K v w'
structure Ru (P : Program) (s : Sem Unit) (w : World) (K : World → Prop) : Prop where
  i ::
  o : ∃ w', s.run P w = .ok () w' ∧ K w'
structure Ld (P : Program) (w : World) (t : TypeId) (a : Addr) (K : Value → Prop) : Prop where
  i ::
  o : ∃ v, (loadVar t a).run P w = .ok v w ∧ K v
structure St (P : Program) (w : World) (t : TypeId) (a : Addr) (v : Value) (K : World → Prop) : Prop where
  i ::
  o : ∃ w', (storeVar t a v).run P w = .ok () w' ∧ K w'
/-- a call of function f that returns -/
structure Fn (P : Program) (f : FuncId) (args : Array Value) (w : World) (K : Value → World → Prop) : Prop where
  i ::
  o : (∃ fn, P.funcs[f]? = some fn ∧ (fn.name == "runtime.NumGoroutine") = false ∧ fn.body.isNone = false) ∧
  Calls P f args w fun e w' => ∃ v, e = .returned v ∧ K v w'

/-- whether two structs or arrays are alike -/
structure Eg (P : Program) (t : TypeId) (a b : Array Value) (K : Bool → Prop) : Prop where
  i ::
  o : ∃ r : Bool, (∀ w, (Op.equal t (.agg a) (.agg b)).run P w = .ok r w) ∧ P.eqGuardType P.depth t = false ∧ K r
theorem Eg.mk {P : Program} {t : TypeId} {a b : Array Value} {K : Bool → Prop} (r : Bool) (h : ∀ w, (Op.equal t (.agg a) (.agg b)).run P w = .ok r w) (hg : P.eqGuardType P.depth t = false) (hk : K r) : Eg P t a b K := ⟨⟨r, h, hg, hk⟩⟩

theorem Ar.mk {k : IntKind} {z : Int} {K : Int → Prop} (h : K (k.wrap z)) : Ar k z K := ⟨h⟩
theorem Bt.mk {op : BinOp} {k : IntKind} {a b : Int} {K : Int → Prop} (h : K (bits op k a b)) : Bt op k a b K := ⟨h⟩
theorem Bt.out {op : BinOp} {k : IntKind} {a b : Int} {K : Int → Prop} (h : Bt op k a b K) : K (bits op k a b) := h.o
theorem Shl.out {k : IntKind} {a b : Int} {K : Int → Prop} (h : Shl k a b K) : 0 ≤ b ∧ K (k.wrap (a * 2 ^ (min b.toNat k.bits))) := h.o
theorem Shr.out {k : IntKind} {a b : Int} {K : Int → Prop} (h : Shr k a b K) : 0 ≤ b ∧ K (a.fdiv (2 ^ (min b.toNat k.bits))) := h.o
theorem Quo.out {k : IntKind} {a b : Int} {K : Int → Prop} (h : Quo k a b K) : b ≠ 0 ∧ K (k.wrap (a.tdiv b)) := h.o
theorem Rem.out {k : IntKind} {a b : Int} {K : Int → Prop} (h : Rem k a b K) : b ≠ 0 ∧ K (a.tmod b) := h.o
theorem Chk.mk {A B : Prop} (h : A) (h' : B) : Chk A B := ⟨⟨h, h'⟩⟩
theorem Chk.out {A B : Prop} (h : Chk A B) : A ∧ B := h.o
theorem Shl.mk {k : IntKind} {a b : Int} {K : Int → Prop} (hb : 0 ≤ b) (h : K (k.wrap (a * 2 ^ (min b.toNat k.bits)))) : Shl k a b K := ⟨⟨hb, h⟩⟩
theorem Shr.mk {k : IntKind} {a b : Int} {K : Int → Prop} (hb : 0 ≤ b) (h : K (a.fdiv (2 ^ (min b.toNat k.bits)))) : Shr k a b K := ⟨⟨hb, h⟩⟩
theorem Quo.mk {k : IntKind} {a b : Int} {K : Int → Prop} (hb : b ≠ 0) (h : K (k.wrap (a.tdiv b))) : Quo k a b K := ⟨⟨hb, h⟩⟩
theorem Rem.mk {k : IntKind} {a b : Int} {K : Int → Prop} (hb : b ≠ 0) (h : K (a.tmod b)) : Rem k a b K := ⟨⟨hb, h⟩⟩
theorem Ar.out {k : IntKind} {z : Int} {K : Int → Prop} (h : Ar k z K) : K (k.wrap z) := h.o
theorem Ar.i64 {z : Int} {K : Int → Prop} (h0 : -9223372036854775808 ≤ z) (h1 : z ≤ 9223372036854775807) (h : K z) : Ar .i64 z K := .mk (by rw [IntWalk.i64_in z ⟨h0, h1⟩]; exact h)
theorem Ar.u64 {z : Int} {K : Int → Prop} (h0 : 0 ≤ z) (h1 : z ≤ 18446744073709551615) (h : K z) : Ar .u64 z K := .mk (by rw [IntWalk.u64_in z ⟨h0, h1⟩]; exact h)
theorem Ar.u32 {z : Int} {K : Int → Prop} (h0 : 0 ≤ z) (h1 : z ≤ 4294967295) (h : K z) : Ar .u32 z K := .mk (by rw [IntWalk.u32_in z ⟨h0, h1⟩]; exact h)
theorem Ar.u8 {z : Int} {K : Int → Prop} (h0 : 0 ≤ z) (h1 : z ≤ 255) (h : K z) : Ar .u8 z K := .mk (by rw [IntWalk.u8_in z ⟨h0, h1⟩]; exact h)
theorem Br.mk {b : Bool} {A B : Prop} (h : b = true → A) (h' : b = false → B) : Br b A B := ⟨⟨h, h'⟩⟩
theorem Br.out {b : Bool} {A B : Prop} (h : Br b A B) : (b = true → A) ∧ (b = false → B) := h.o
theorem Br.tt {A B : Prop} (h : A) : Br true A B := .mk (fun _ => h) nofun
theorem Br.ff {A B : Prop} (h : B) : Br false A B := .mk nofun (fun _ => h)
theorem Br.dec {p : Prop} [Decidable p] {A B : Prop} (h : p → A) (h' : ¬p → B) : Br (decide p) A B := .mk (fun e => h (of_decide_eq_true e)) (fun e => h' (of_decide_eq_false e))
theorem Br.dec_t {p : Prop} [Decidable p] {A B : Prop} (hp : p) (h : A) : Br (decide p) A B := .dec (fun _ => h) (fun n => absurd hp n)
theorem Br.dec_f {p : Prop} [Decidable p] {A B : Prop} (hp : ¬p) (h : B) : Br (decide p) A B := .dec (fun y => absurd y hp) (fun _ => h)
theorem Br.not {b : Bool} {A B : Prop} (h : Br b B A) : Br (!b) A B := .mk (fun e => h.out.2 (by simpa using e)) (fun e => h.out.1 (by simpa using e))
theorem Qv.mk {P : Program} {s : Sem Value} {K : Value → Prop} (v : Value) (h : ∀ w, s.run P w = .ok v w) (hk : K v) : Qv P s K := ⟨⟨v, h, hk⟩⟩
theorem Rv.mk {P : Program} {s : Sem Value} {w : World} {K : Value → World → Prop} {v : Value} {w' : World} (h : s.run P w = .ok v w') (hk : K v w') : Rv P s w K := ⟨⟨v, w', h, hk⟩⟩
theorem Ru.mk {P : Program} {s : Sem Unit} {w : World} {K : World → Prop} {w' : World} (h : s.run P w = .ok () w') (hk : K w') : Ru P s w K := ⟨⟨w', h, hk⟩⟩
theorem Ld.mk {P : Program} {w : World} {t : TypeId} {a : Addr} {K : Value → Prop} {v : Value} (h : (loadVar t a).run P w = .ok v w) (hk : K v) : Ld P w t a K := ⟨⟨v, h, hk⟩⟩
theorem St.mk {P : Program} {w : World} {t : TypeId} {a : Addr} {v : Value} {K : World → Prop} {w' : World} (h : (storeVar t a v).run P w = .ok () w') (hk : K w') : St P w t a v K := ⟨⟨w', h, hk⟩⟩

/-! ### Operations that leave the world alone -/
def ikEq : IntKind → IntKind → Bool
  | .i8, .i8 | .i16, .i16 | .i32, .i32 | .i64, .i64 | .u8, .u8 | .u16, .u16 | .u32, .u32 | .u64, .u64 => true
  | _, _ => false
theorem ikEq_eq {a b : IntKind} (h : ikEq a b = true) : a = b := by cases a <;> cases b <;> first | rfl | (simp [ikEq] at h)

def whenT (b : Bool) (A : Prop) : Prop := match b with
  | true => A
  | false => False
theorem whenT_out {b : Bool} {A : Prop} (h : whenT b A) : b = true ∧ A := by cases b <;> first | exact h.elim | exact ⟨rfl, h⟩

/-- a binary operator on two values of a type of that shape -/
def binV (op : BinOp) (sh : Sh) (x y : Value) (K : Value → Prop) : Prop :=
  match x, y with
  | .int k a, .int k' b => match op with
    | .shl => Shl k a b fun z => K (.int k z)
    | .shr => Shr k a b fun z => K (.int k z)
    | .add => whenT (ikEq k k') (Ar k (a + b) fun z => K (.int k z))
    | .sub => whenT (ikEq k k') (Ar k (a - b) fun z => K (.int k z))
    | .mul => whenT (ikEq k k') (Ar k (a * b) fun z => K (.int k z))
    | .quo => whenT (ikEq k k') (Quo k a b fun z => K (.int k z))
    | .rem => whenT (ikEq k k') (Rem k a b fun z => K (.int k z))
    | .and => whenT (ikEq k k') (Bt .and k a b fun z => K (.int k z))
    | .or => whenT (ikEq k k') (Bt .or k a b fun z => K (.int k z))
    | .xor => whenT (ikEq k k') (Bt .xor k a b fun z => K (.int k z))
    | .andNot => whenT (ikEq k k') (Bt .andNot k a b fun z => K (.int k z))
    | .eql => whenT (ikEq k k') (K (.bool (decide (a = b))))
    | .neq => whenT (ikEq k k') (K (.bool (!decide (a = b))))
    | .lss => whenT (ikEq k k') (K (.bool (decide (a < b))))
    | .leq => whenT (ikEq k k') (K (.bool (decide (a ≤ b))))
    | .gtr => whenT (ikEq k k') (K (.bool (decide (b < a))))
    | .geq => whenT (ikEq k k') (K (.bool (decide (b ≤ a))))
  | .string a, .string b => match op with
    | .add => Chk (a.size + b.size ≤ 9223372036854775807) (K (.string (a ++ b)))
    | .eql => K (.bool (decide (a = b)))
    | .neq => K (.bool (!decide (a = b)))
    | .lss => K (.bool (Op.bytesLess a.toList b.toList))
    | .gtr => K (.bool (!(Op.bytesLess a.toList b.toList || decide (a = b))))
    | .leq => K (.bool (Op.bytesLess a.toList b.toList || decide (a = b)))
    | .geq => K (.bool (!Op.bytesLess a.toList b.toList))
    | _ => False
  | .bool a, .bool b => match op, sh with
    | .eql, .bool => K (.bool (a == b))
    | .neq, .bool => K (.bool (!(a == b)))
    | _, _ => False
  | .pointer none, .pointer b => match op, sh with
    | .eql, .ptr _ => K (.bool b.isNone)
    | .neq, .ptr _ => K (.bool (!b.isNone))
    | _, _ => False
  | .pointer (some a), .pointer b => match op, sh with
    | .eql, .ptr _ => match b with
      | none => K (.bool false)
      | some _ => False
    | .neq, .ptr _ => match b with
      | none => K (.bool true)
      | some _ => False
    | _, _ => False
  | .slice a _ _, .slice none _ _ => match op, sh with
    | .eql, .slice _ => K (.bool a.isNone)
    | .neq, .slice _ => K (.bool (!a.isNone))
    | _, _ => False
  | .map a, .map none => match op, sh with
    | .eql, .map _ _ => K (.bool a.isNone)
    | .neq, .map _ _ => K (.bool (!a.isNone))
    | _, _ => False
  | _, _ => False

theorem toList_beq (a b : ByteArray) : (a.toList == b.toList) = decide (a = b) := by
  rw [ByteArray.toList_eq, ByteArray.toList_eq]
  by_cases h : a = b
  · simp [h]
  · have : ¬ a.data.toList = b.data.toList := fun e => h (by
      cases a; cases b
      simp only [ByteArray.mk.injEq]
      exact Array.toList_inj.1 e)
    simp only [h, decide_false]
    exact beq_eq_false_iff_ne.2 this

/-- what an operation on values gives in every world -/
def Gives (P : Program) (s : Sem Value) (K : Value → Prop) : Prop := ∃ v, (∀ w, s.run P w = .ok v w) ∧ K v
theorem Gives.pure {P : Program} {v : Value} {K : Value → Prop} (h : K v) : Gives P (Pure.pure v) K := ⟨v, fun _ => rfl, h⟩
theorem Gives.of_eq {P : Program} {s : Sem Value} {v : Value} {K : Value → Prop} (hs : s = Pure.pure v) (h : K v) : Gives P s K := ⟨v, fun _ => by rw [hs]; rfl, h⟩

section
variable {P : Program} {t : TypeId} (w : World)
theorem eqRun {x y : Value} {b : Bool} (h : (Op.equalIn (9999 + 1) t x y).run P w = .ok b w) :
    ((do let r ← Op.equal t x y; pure (Value.bool r)) : Sem Value).run P w = .ok (.bool b) w := by
  have h' : (Op.equal t x y).run P w = .ok b w := h
  simp [h']
theorem neqRun {x y : Value} {b : Bool} (h : (Op.equalIn (9999 + 1) t x y).run P w = .ok b w) :
    ((do let r ← Op.equal t x y; pure (Value.bool (!r))) : Sem Value).run P w = .ok (.bool (!b)) w := by
  have h' : (Op.equal t x y).run P w = .ok b w := h
  simp [h']
theorem eqIn_bool (hu : P.underlying t = some .bool) (d : Nat) (a b : Bool) : (Op.equalIn (d + 1) t (.bool a) (.bool b)).run P w = .ok (a == b) w := by
  rw [Op.equalIn]; simp [run_underlying hu]
theorem eqIn_ptrN {e : TypeId} (hu : P.underlying t = some (.pointer e)) (d : Nat) (b : Option Addr) : (Op.equalIn (d + 1) t (.pointer none) (.pointer b)).run P w = .ok b.isNone w := by
  rw [Op.equalIn]; simp [run_underlying hu]
theorem eqIn_ptrS {e : TypeId} (hu : P.underlying t = some (.pointer e)) (d : Nat) (a : Addr) : (Op.equalIn (d + 1) t (.pointer (some a)) (.pointer none)).run P w = .ok false w := by
  rw [Op.equalIn]; simp [run_underlying hu]
theorem eqIn_slice {e : TypeId} (hu : P.underlying t = some (.slice e)) (d : Nat) (a : Option Addr) (n c n' c' : Nat) : (Op.equalIn (d + 1) t (.slice a n c) (.slice none n' c')).run P w = .ok a.isNone w := by
  rw [Op.equalIn]; cases a <;> simp [run_underlying hu]
theorem eqIn_map {k e : TypeId} (hu : P.underlying t = some (.map k e)) (d : Nat) (a : Option Nat) : (Op.equalIn (d + 1) t (.map a) (.map none)).run P w = .ok a.isNone w := by
  rw [Op.equalIn]; cases a <;> simp [run_underlying hu]
end

set_option maxHeartbeats 1000000 in
theorem binV_gives {P : Program} {op : BinOp} {t : TypeId} {sh : Sh} {x y : Value} {K : Value → Prop} (hu : (P.underlying t).map shOf = some sh) (ox oy : Operand)
    (h : binV op sh x y K) : Gives P (do eqGuard op t ox oy x y; binOp op t x y) K := by
  obtain ⟨u, hu, hs⟩ : ∃ u, P.underlying t = some u ∧ shOf u = sh := by
    cases hx : P.underlying t with
    | none => simp [hx] at hu
    | some u => exact ⟨u, rfl, by simpa [hx] using hu⟩
  unfold binV at h
  split at h
  · rename_i k a k' b
    simp only [eqGuard_at_int, pure_bind]
    split at h
    · have h := h.out
      refine ⟨_, fun w => ?_, h.2⟩
      have h0 : ¬ b < 0 := by omega
      simp [binOp, Op.shift, h0]
    · have h := h.out
      refine ⟨_, fun w => ?_, h.2⟩
      have h0 : ¬ b < 0 := by omega
      simp [binOp, Op.shift, h0]
    all_goals (replace h := whenT_out h; obtain rfl := ikEq_eq h.1; replace h := h.2)
    · exact .of_eq (by simp [binOp_add, Op.intArith]) h.out
    · exact .of_eq (by simp [binOp_sub, Op.intArith]) h.out
    · exact .of_eq (by simp [binOp_mul, Op.intArith]) h.out
    · exact .of_eq (by simp [binOp_quo, Op.intDiv, h.out.1]) h.out.2
    · exact .of_eq (by simp [binOp_rem, Op.intDiv, h.out.1]) h.out.2
    · exact .of_eq (by simp [binOp_and, Op.intBits, bits]) h.out
    · exact .of_eq (by simp [binOp_or, Op.intBits, bits]) h.out
    · exact .of_eq (by simp [binOp_xor, Op.intBits, bits]) h.out
    · exact .of_eq (by simp [binOp, Op.intBits, bits]) h.out
    · exact .of_eq (by simp [binOp, Op.intCmp]; rfl) h
    · exact .of_eq (by simp [binOp, Op.intCmp]; rfl) h
    all_goals exact .of_eq (by simp [binOp, Op.intCmp]) h
  · rename_i a b
    simp only [eqGuard_at_string, pure_bind]
    split at h
    · have h := h.out
      refine .of_eq ?_ h.2
      have h0 : ¬ ((a.size + b.size : Nat) : Int) > IntKind.i64.max := by rw [IntKind.max_i64]; omega
      simp only [binOp, Op.stringOp, if_neg h0]
    all_goals first
      | exact h.elim
      | exact .of_eq (by simp [binOp, Op.stringOp, toList_beq]) h
  · simp only [eqGuard_at_bool, pure_bind]
    split at h
    · cases u <;> simp only [shOf, reduceCtorEq] at hs
      exact ⟨_, fun w => eqRun w (eqIn_bool w hu _ _ _), h⟩
    · cases u <;> simp only [shOf, reduceCtorEq] at hs
      exact ⟨_, fun w => neqRun w (eqIn_bool w hu _ _ _), h⟩
    · exact h.elim
  · simp only [eqGuard_at_pointer, pure_bind]
    split at h
    · cases u <;> simp only [shOf, reduceCtorEq] at hs
      exact ⟨_, fun w => eqRun w (eqIn_ptrN w hu _ _), h⟩
    · cases u <;> simp only [shOf, reduceCtorEq] at hs
      exact ⟨_, fun w => neqRun w (eqIn_ptrN w hu _ _), h⟩
    · exact h.elim
  · simp only [eqGuard_at_pointer, pure_bind]
    split at h
    · cases u <;> simp only [shOf, reduceCtorEq] at hs
      split at h
      · exact ⟨_, fun w => eqRun w (eqIn_ptrS w hu _ _), h⟩
      · exact h.elim
    · cases u <;> simp only [shOf, reduceCtorEq] at hs
      split at h
      · exact ⟨_, fun w => neqRun w (eqIn_ptrS w hu _ _), h⟩
      · exact h.elim
    · exact h.elim
  · simp only [eqGuard_at_slice, pure_bind]
    split at h
    · cases u <;> simp only [shOf, reduceCtorEq] at hs
      exact ⟨_, fun w => eqRun w (eqIn_slice w hu _ _ _ _ _ _), h⟩
    · cases u <;> simp only [shOf, reduceCtorEq] at hs
      exact ⟨_, fun w => neqRun w (eqIn_slice w hu _ _ _ _ _ _), h⟩
    · exact h.elim
  · simp only [eqGuard_at_map, pure_bind]
    split at h
    · cases u <;> simp only [shOf, reduceCtorEq] at hs
      exact ⟨_, fun w => eqRun w (eqIn_map w hu _ _), h⟩
    · cases u <;> simp only [shOf, reduceCtorEq] at hs
      exact ⟨_, fun w => neqRun w (eqIn_map w hu _ _), h⟩
    · exact h.elim
  · exact h.elim

end Go.Proofs.YtjafamiaahabgaaGreatDoor

namespace Go.Proofs.YtjafamiaahabgaaGreatDoor
set_option linter.unusedVariables false

/-- what is left, hidden from 'assumption' -/
structure Hid (A : Prop) : Prop where
  out : A
theorem RunR {A G : Prop} (k : A) (h : Hid A → G := by
  intro hA
  repeat (first | refine V.seq ?_ | (refine V.reg ttOk ?_; conv => whnf) | refine V.cnd rfl ?_ | refine V.blk ?_ | (refine V.ext ?_; conv => whnf) | (refine V.rt ?_; conv => whnf) | (refine V.skp ?_; conv => whnf) | (refine V.lab ?_; conv => whnf) | (refine Ar.i64 (by omega) (by omega) ?_; conv => whnf) | (refine Ar.u64 (by omega) (by omega) ?_; conv => whnf) | (refine Ar.u32 (by omega) (by omega) ?_; conv => whnf) | (refine Ar.u8 (by omega) (by omega) ?_; conv => whnf) | (refine Br.tt ?_; conv => whnf) | (refine Br.ff ?_; conv => whnf) | refine Br.not ?_ | (refine Br.yes (by assumption) ?_; conv => whnf) | (refine Br.no (by assumption) ?_; conv => whnf) | (refine Br.dec_t (by omega) ?_; conv => whnf) | (refine Br.dec_f (by omega) ?_; conv => whnf) | (refine Chk.mk (by omega) ?_; conv => whnf) | fail)
  exact hA.out) : G := h ⟨k⟩
theorem RunH {A G : Prop} (k : A) (h : Hid A → G := by
  intro hA
  first | (refine V.go ?_; first | ((first | refine V.reg ttOk ?_ | refine V.ext ?_ | refine V.rt ?_ | refine V.skp ?_ | refine V.lab ?_ | fail); conv => whnf) | refine V.seq ?_ | refine V.cnd rfl ?_ | refine V.blk ?_ | (refine V.tailA ttOk mixed (by decide +kernel) ?_; replace hL := hL.drew; conv => whnf) | fail) | (refine Br.go ?_; first | ((first | refine Br.tt ?_ | refine Br.ff ?_ | refine Br.y ?_ | refine Br.n ?_ | refine Br.t ?_ | refine Br.f ?_ | fail); conv => whnf) | refine Br.not ?_ | fail) | (refine Ld.go ?_; first | ((first | refine Ld.x ttOk hL ?_ | refine Ld.p ttOk hL ?_ | fail); conv => whnf) | fail) | (refine St.x ttOk hL hB (fun w hL hB => ?_); dsimp only [List.set, splice, overL, cellsL, takeL, dropL, List.drop, List.take] at hL; conv => whnf) | (refine Lq.go ?_; first | ((first | refine Lq.x ttOk hL.cls ?_ | refine Lq.x ttOk (fun _ h => h) ?_ | refine Lq.p ttOk hL.cls ?_ | refine Lq.p ttOk (fun _ h => h) ?_ | fail); conv => whnf) | fail) | (refine Ar.go ?_; first | ((first | refine Ar.s ?_ | refine Ar.u ?_ | refine Ar.h ?_ | refine Ar.b ?_ | fail); conv => whnf) | fail) | ((first | refine Chk.m ?_ | refine Qv.str ttOk rfl rfl rfl ?_ | refine An.x hL ?_ | fail); conv => whnf) | fail
  repeat (first | (refine V.go ?_; first | ((first | refine V.reg ttOk ?_ | refine V.ext ?_ | refine V.rt ?_ | refine V.skp ?_ | refine V.lab ?_ | fail); conv => whnf) | refine V.seq ?_ | refine V.cnd rfl ?_ | refine V.blk ?_ | (refine V.tailA ttOk mixed (by decide +kernel) ?_; replace hL := hL.drew; conv => whnf) | fail) | (refine Br.go ?_; first | ((first | refine Br.tt ?_ | refine Br.ff ?_ | refine Br.y ?_ | refine Br.n ?_ | refine Br.t ?_ | refine Br.f ?_ | fail); conv => whnf) | refine Br.not ?_ | fail) | (refine Ld.go ?_; first | ((first | refine Ld.x ttOk hL ?_ | refine Ld.p ttOk hL ?_ | fail); conv => whnf) | fail) | (refine St.x ttOk hL hB (fun w hL hB => ?_); dsimp only [List.set, splice, overL, cellsL, takeL, dropL, List.drop, List.take] at hL; conv => whnf) | (refine Lq.go ?_; first | ((first | refine Lq.x ttOk hL.cls ?_ | refine Lq.x ttOk (fun _ h => h) ?_ | refine Lq.p ttOk hL.cls ?_ | refine Lq.p ttOk (fun _ h => h) ?_ | fail); conv => whnf) | fail) | (refine Ar.go ?_; first | ((first | refine Ar.s ?_ | refine Ar.u ?_ | refine Ar.h ?_ | refine Ar.b ?_ | fail); conv => whnf) | fail) | ((first | refine Chk.m ?_ | refine Qv.str ttOk rfl rfl rfl ?_ | refine An.x hL ?_ | fail); conv => whnf) | fail)
  first | (have hX := (); have hZ := hL; have hY := hB; revert hX hZ hY; exact hA.out) | (revert hB; revert hL; revert w; exact hA.out)) : G := h ⟨k⟩
/-- .. without drawn regions -/
theorem RunK {A G : Prop} (k : A) (h : Hid A → G := by
  intro hA
  first | (refine V.go ?_; first | ((first | refine V.reg ttOk ?_ | refine V.ext ?_ | refine V.rt ?_ | refine V.skp ?_ | refine V.lab ?_ | fail); conv => whnf) | refine V.seq ?_ | refine V.cnd rfl ?_ | refine V.blk ?_ | fail) | (refine Br.go ?_; first | ((first | refine Br.tt ?_ | refine Br.ff ?_ | refine Br.y ?_ | refine Br.n ?_ | refine Br.t ?_ | refine Br.f ?_ | fail); conv => whnf) | refine Br.not ?_ | fail) | (refine Ld.go ?_; first | ((first | refine Ld.x ttOk hL ?_ | refine Ld.p ttOk hL ?_ | fail); conv => whnf) | fail) | (refine St.x ttOk hL hB (fun w hL hB => ?_); dsimp only [List.set, splice, overL, cellsL, takeL, dropL, List.drop, List.take] at hL; conv => whnf) | (refine Lq.go ?_; first | ((first | refine Lq.x ttOk hL.cls ?_ | refine Lq.x ttOk (fun _ h => h) ?_ | refine Lq.p ttOk hL.cls ?_ | refine Lq.p ttOk (fun _ h => h) ?_ | fail); conv => whnf) | fail) | (refine Ar.go ?_; first | ((first | refine Ar.s ?_ | refine Ar.u ?_ | refine Ar.h ?_ | refine Ar.b ?_ | fail); conv => whnf) | fail) | ((first | refine Chk.m ?_ | refine Qv.str ttOk rfl rfl rfl ?_ | refine An.x hL ?_ | fail); conv => whnf) | fail
  repeat (first | (refine V.go ?_; first | ((first | refine V.reg ttOk ?_ | refine V.ext ?_ | refine V.rt ?_ | refine V.skp ?_ | refine V.lab ?_ | fail); conv => whnf) | refine V.seq ?_ | refine V.cnd rfl ?_ | refine V.blk ?_ | fail) | (refine Br.go ?_; first | ((first | refine Br.tt ?_ | refine Br.ff ?_ | refine Br.y ?_ | refine Br.n ?_ | refine Br.t ?_ | refine Br.f ?_ | fail); conv => whnf) | refine Br.not ?_ | fail) | (refine Ld.go ?_; first | ((first | refine Ld.x ttOk hL ?_ | refine Ld.p ttOk hL ?_ | fail); conv => whnf) | fail) | (refine St.x ttOk hL hB (fun w hL hB => ?_); dsimp only [List.set, splice, overL, cellsL, takeL, dropL, List.drop, List.take] at hL; conv => whnf) | (refine Lq.go ?_; first | ((first | refine Lq.x ttOk hL.cls ?_ | refine Lq.x ttOk (fun _ h => h) ?_ | refine Lq.p ttOk hL.cls ?_ | refine Lq.p ttOk (fun _ h => h) ?_ | fail); conv => whnf) | fail) | (refine Ar.go ?_; first | ((first | refine Ar.s ?_ | refine Ar.u ?_ | refine Ar.h ?_ | refine Ar.b ?_ | fail); conv => whnf) | fail) | ((first | refine Chk.m ?_ | refine Qv.str ttOk rfl rfl rfl ?_ | refine An.x hL ?_ | fail); conv => whnf) | fail)
  first | (have hX := (); have hZ := hL; have hY := hB; revert hX hZ hY; exact hA.out) | (revert hB; revert hL; revert w; exact hA.out)) : G := h ⟨k⟩
end Go.Proofs.YtjafamiaahabgaaGreatDoor

namespace Go.Proofs.YtjafamiaahabgaaGreatDoor
set_option linter.unusedVariables false
set_option linter.unusedSimpArgs false

def lget {α : Type} : List α → Nat → Option α
  | [], _ => none
  | x :: _, 0 => some x
  | _ :: xs, n + 1 => lget xs n
theorem lget_eq {α : Type} : ∀ (l : List α) (n : Nat), lget l n = l[n]?
  | [], _ => by simp [lget]
  | _ :: _, 0 => by simp [lget]
  | _ :: xs, n + 1 => by simp [lget, lget_eq xs n]

/-- a part of a struct's or an array's cells -/
def partV (T : Tab) (t : TypeId) (cs : Array Value) (off : Nat) (K : Value → Prop) : Prop :=
  match look T t with
  | some ⟨sh, sz, _, _⟩ => match sh.agg with
    | true => K (.agg ((cs.toList.drop off).take sz).toArray)
    | false => match lget cs.toList off with
      | some v => K v
      | none => False
  | none => False

theorem partV_gives {P : Program} {T : Tab} (hT : TabOk P T) {t : TypeId} {cs : Array Value} {off : Nat} {K : Value → Prop} (h : partV T t cs off K) : Gives P (part t cs off) K := by
  unfold partV at h
  split at h
  · rename_i sh sz by' z hl
    have ht := hT _ _ hl
    split at h
    · rename_i hagg
      refine ⟨_, fun w => ?_, h⟩
      have ha := ht.run_agg w
      simp only [hagg] at ha
      simp only [part, Sem.run_bind, ha, Result.andThen_ok, if_true, ht.run_size w, Sem.run_pure]
      have he : cs.extract off (off + sz) = ((cs.toList.drop off).take sz).toArray := by
        apply Array.ext'
        simp [List.extract_eq_take_drop]
      rw [he]
    · rename_i hagg
      split at h
      · rename_i v hv
        refine ⟨_, fun w => ?_, h⟩
        have ha := ht.run_agg w
        simp only [hagg] at ha
        have hv' : cs[off]? = some v := by rw [lget_eq] at hv; simpa using hv
        simp [part, Sem.run_bind, ha, hv']
      · exact h.elim
  · exact h.elim

/-- the builtins that only compute -/
def bpureV (T : Tab) (b : Builtin) (ts : List TypeId) (vs : List Value) (K : Value → Prop) : Prop :=
  match b, ts, vs with
  | .len, [t], [v] => match look T t with
    | some ⟨sh, _, _, _⟩ => match sh, v with
      | .str, .string s => K (.int .i64 s.size)
      | .slice _, .slice _ n _ => K (.int .i64 n)
      | .array n _, _ => K (.int .i64 n)
      | .map _ _, .map none => K (.int .i64 0)
      | _, _ => False
    | none => False
  | .cap, [t], [v] => match look T t with
    | some ⟨sh, _, _, _⟩ => match sh, v with
      | .slice _, .slice _ _ c => K (.int .i64 c)
      | _, _ => False
    | none => False
  | .min, _, [.int k x, .int k' y] => K (.int k (min x y))
  | .max, _, [.int k x, .int k' y] => K (.int k (max x y))
  | _, _, _ => False

theorem shOf_cases {P : Program} {T : Tab} (hT : TabOk P T) {t : TypeId} {d : Td} (hl : look T t = some d) : ∃ u, P.underlying t = some u ∧ shOf u = d.sh := (hT _ _ hl).und

theorem bpureV_gives {P : Program} {T : Tab} (hT : TabOk P T) {b : Builtin} {ats : Array TypeId} {ty : TypeId} {cs : Array Bool} {vs : List Value} {K : Value → Prop}
    (h : bpureV T b ats.toList vs K) : ∃ v, (∀ w, (builtin b ats ty cs vs.toArray).run P w = .ok (.value v) w) ∧ K v := by
  unfold bpureV at h
  split at h
  · rename_i t v hts
    obtain rfl : ats = #[t] := by cases ats; simp at hts; simp [hts]
    split at h
    · rename_i sh _ _ _ hl
      obtain ⟨u, hu, hs⟩ := shOf_cases hT hl
      split at h
      · rename_i s
        cases u <;> simp only [shOf, reduceCtorEq] at hs
        exact ⟨_, fun w => by simp [BigFrame.builtin_len, Builtin.len_, run_underlying hu, goInt], h⟩
      · cases u <;> simp only [shOf, reduceCtorEq] at hs
        exact ⟨_, fun w => by simp [BigFrame.builtin_len, Builtin.len_, run_underlying hu, goInt], h⟩
      · rename_i n' e'
        cases u <;> simp only [shOf, reduceCtorEq, Sh.array.injEq] at hs
        obtain ⟨rfl, rfl⟩ := hs
        exact ⟨_, fun w => by simp [BigFrame.builtin_len, Builtin.len_, run_underlying hu, goInt], h⟩
      · cases u <;> simp only [shOf, reduceCtorEq] at hs
        exact ⟨_, fun w => by simp [BigFrame.builtin_len, Builtin.len_, run_underlying hu, goInt], h⟩
      · exact h.elim
    · exact h.elim
  · rename_i t v hts
    obtain rfl : ats = #[t] := by cases ats; simp at hts; simp [hts]
    split at h
    · rename_i sh _ _ _ hl
      obtain ⟨u, hu, hs⟩ := shOf_cases hT hl
      split at h
      · cases u <;> simp only [shOf, reduceCtorEq] at hs
        exact ⟨_, fun w => by simp [BigFrame.builtin_cap, Builtin.cap_, run_underlying hu, goInt], h⟩
      · exact h.elim
    · exact h.elim
  · rename_i k x k' y
    have he : (if y < x then y else x) = min x y := by rw [Int.min_def]; split <;> split <;> omega
    exact ⟨_, fun w => by simp [BigFrame.builtin_min, Builtin.min_, List.foldlM, Builtin.min2, he], h⟩
  · rename_i k x k' y
    have he : (if x < y then y else x) = max x y := by rw [Int.max_def]; split <;> split <;> omega
    exact ⟨_, fun w => by simp [BigFrame.builtin_max, Builtin.max_, List.foldlM, Builtin.max2, he], h⟩
  · exact h.elim

end Go.Proofs.YtjafamiaahabgaaGreatDoor

namespace Go.Proofs.YtjafamiaahabgaaGreatDoor
set_option linter.unusedVariables false
set_option linter.unusedSimpArgs false

def bnd (e : Env) (x : Option Operand) (dflt : Int) : Option Int :=
  match x with
  | none => some dflt
  | some x => match ov e x with
    | some (.int _ n) => some n
    | _ => none

def sliceK (a : Option Addr) (sz : Nat) (l h m : Int) (K : Value → Prop) : Prop :=
  match a with
  | none => ∀ n' c' : Nat, (n' : Int) = h - l → (c' : Int) = m - l → K (.slice none n' c')
  | some ⟨b, o, none⟩ => ∀ o' n' c' : Nat, (l < m → (o' : Int) = o + l * sz) → (l = m → o' = o) → (n' : Int) = h - l → (c' : Int) = m - l → K (.slice (some ⟨b, o', none⟩) n' c')
  | some _ => False

/-- the first part: the address stays -/
def sliceK0 (a : Option Addr) (h m : Int) (K : Value → Prop) : Prop :=
  match a with
  | none => ∀ n' c' : Nat, (n' : Int) = h → (c' : Int) = m → K (.slice none n' c')
  | some ⟨b, o, none⟩ => ∀ n' c' : Nat, (n' : Int) = h → (c' : Int) = m → K (.slice (some ⟨b, o, none⟩) n' c')
  | some _ => False

def sliceV (T : Tab) (t : TypeId) (x : Value) (e : Env) (lo hi mx : Option Operand) (K : Value → Prop) : Prop :=
  match look T t with
  | some ⟨sh, _, _, _⟩ => match sh, x with
    | .slice el, .slice a n c => match look T el with
      | some ⟨_, sz, _, _⟩ => match lo with
        | none => match bnd e hi n, bnd e mx c with
          | some h, some m => Chk (0 ≤ h ∧ h ≤ m ∧ m ≤ c) (sliceK0 a h m K)
          | _, _ => False
        | some lo => match ov e lo, bnd e hi n, bnd e mx c with
          | some (.int _ l), some h, some m => Chk (0 ≤ l ∧ l ≤ h ∧ h ≤ m ∧ m ≤ c) (sliceK a sz l h m K)
          | _, _, _ => False
      | none => False
    | .str, .string s => match mx, bnd e lo 0, bnd e hi s.size with
      | none, some l, some h => Chk (0 ≤ l ∧ l ≤ h ∧ h ≤ s.size) (K (.string (s.extract l.toNat h.toNat)))
      | _, _, _ => False
    | .array n el, .pointer (some a) => match look T el with
      | some ⟨_, sz, _, _⟩ => match lo with
        | none => match bnd e hi n, bnd e mx n with
          | some h, some m => Chk (0 ≤ h ∧ h ≤ m ∧ m ≤ n) (sliceK0 (some a) h m K)
          | _, _ => False
        | some lo => match ov e lo, bnd e hi n, bnd e mx n with
          | some (.int _ l), some h, some m => Chk (0 ≤ l ∧ l ≤ h ∧ h ≤ m ∧ m ≤ n) (sliceK (some a) sz l h m K)
          | _, _, _ => False
      | none => False
    | _, _ => False
  | none => False

theorem bnd_some {N : Nat} {e : Env} {a : Act} (ha : Fits N e a) {x : Option Operand} {d n : Int} (h : bnd e x d = some n) :
    (x = none ∧ n = d) ∨ ∃ y k, x = some y ∧ a.eval y = .int k n := by
  unfold bnd at h
  split at h
  · left; exact ⟨rfl, by injection h with h; exact h.symm⟩
  · rename_i y
    split at h
    · rename_i k m hm
      injection h with h
      subst h
      exact .inr ⟨y, k, rfl, ha.ov hm⟩
    · cases h

theorem bounds_run {P : Program} (w : World) {b : Bool} {n c : Nat} {lo hi mx : Option Value} {l h m : Int}
    (hlo : (lo = none ∧ l = 0) ∨ ∃ k, lo = some (.int k l)) (hhi : (hi = none ∧ mx = none ∧ h = n) ∨ ∃ k, hi = some (.int k h)) (hmx : (mx = none ∧ m = c) ∨ ∃ k, mx = some (.int k m))
    (h0 : 0 ≤ l) (h1 : l ≤ h) (h2 : h ≤ m) (h3 : m ≤ c) : (Instr.sliceBounds b n c lo hi mx).run P w = .ok (l.toNat, h.toNat, m.toNat) w := by
  have sb : ∀ (k : IntKind) (i : Int) (y : Nat) (code : BoundsCode), 0 ≤ i → i ≤ y → (Instr.sliceBound (.int k i) y code).run P w = .ok i.toNat w :=
    fun k i y code a b => run_sliceBound (P := P) (w := w) k i y code a b
  have hmc : ((m.toNat : Nat) : Int) = m := by omega
  have hhc : ((h.toNat : Nat) : Int) = h := by omega
  rcases hmx with ⟨rfl, rfl⟩ | ⟨km, rfl⟩
  · rcases hhi with ⟨rfl, _, rfl⟩ | ⟨kh, rfl⟩
    · rcases hlo with ⟨rfl, rfl⟩ | ⟨kl, rfl⟩
      · simp [Instr.sliceBounds]
      · simp [Instr.sliceBounds, sb _ _ _ _ h0 h1]
    · have e1 := sb kh h c (if b then .sliceAcap else .sliceAlen) (by omega) h2
      rcases hlo with ⟨rfl, rfl⟩ | ⟨kl, rfl⟩
      · simp [Instr.sliceBounds, e1]
      · have e2 := sb kl l h.toNat .sliceB h0 (by omega)
        simp [Instr.sliceBounds, e1, e2]
  · have e0 := sb km m c (if b then .slice3Acap else .slice3Alen) (by omega) h3
    rcases hhi with ⟨_, hn, _⟩ | ⟨kh, rfl⟩
    · cases hn
    · have e1 := sb kh h m.toNat .slice3B (by omega) (by omega)
      rcases hlo with ⟨rfl, rfl⟩ | ⟨kl, rfl⟩
      · simp [Instr.sliceBounds, e0, e1]
      · have e2 := sb kl l h.toNat .slice3C h0 (by omega)
        simp [Instr.sliceBounds, e0, e1, e2]

theorem sliceK_of {a : Option Addr} {sz : Nat} {l h m : Int} {K : Value → Prop} (h0 : 0 ≤ l) (h1 : l ≤ h) (h2 : h ≤ m) (hk : sliceK a sz l h m K) :
    K (.slice (if m.toNat = l.toNat then a else a.map (·.add (l.toNat * sz))) (h.toNat - l.toNat) (m.toNat - l.toNat)) := by
  unfold sliceK at hk
  split at hk
  · simp only [Option.map_none, ite_self]
    exact hk _ _ (by omega) (by omega)
  · rename_i b o
    by_cases hml : m.toNat = l.toNat
    · rw [if_pos hml]
      exact hk o _ _ (fun _ => by omega) (fun _ => rfl) (by omega) (by omega)
    · rw [if_neg hml]
      simp only [Option.map_some, Addr.add_lit]
      refine hk _ _ _ (fun _ => ?_) (fun _ => by omega) (by omega) (by omega)
      rw [Int.natCast_add, Int.natCast_mul]
      rw [show ((l.toNat : Nat) : Int) = l from by omega]
  · exact hk.elim

theorem sliceK0_of {a : Option Addr} {sz : Nat} {h m : Int} {K : Value → Prop} (h1 : 0 ≤ h) (h2 : h ≤ m) (hk : sliceK0 a h m K) :
    K (.slice (if m.toNat = (0 : Int).toNat then a else a.map (·.add ((0 : Int).toNat * sz))) (h.toNat - (0 : Int).toNat) (m.toNat - (0 : Int).toNat)) := by
  have e0 : (0 : Int).toNat = 0 := rfl
  simp only [e0, Nat.zero_mul]
  have ea : (if m.toNat = 0 then a else a.map (·.add 0)) = a := by
    split
    · rfl
    · cases a <;> simp [Addr.add]
  rw [ea]
  unfold sliceK0 at hk
  split at hk
  · exact hk _ _ (by omega) (by omega)
  · exact hk _ _ (by omega) (by omega)
  · exact hk.elim

theorem opt_eval {N : Nat} {e : Env} {a : Act} (ha : Fits N e a) {x : Option Operand} {d n : Int} (h : bnd e x d = some n) : (x.map a.eval = none ∧ n = d) ∨ ∃ k, x.map a.eval = some (.int k n) := by
  rcases bnd_some ha h with ⟨rfl, h'⟩ | ⟨y, k, rfl, hy⟩
  · exact .inl ⟨rfl, h'⟩
  · exact .inr ⟨k, by simp [hy]⟩

theorem hi_eval {N : Nat} {e : Env} {a : Act} (ha : Fits N e a) {x y : Option Operand} {d h : Int} (hxy : x = none → y = none) (hx : bnd e x d = some h) : (x.map a.eval = none ∧ y.map a.eval = none ∧ h = d) ∨ ∃ k, x.map a.eval = some (.int k h) := by
  rcases bnd_some ha hx with ⟨rfl, h'⟩ | ⟨y, k, rfl, hy⟩
  · exact .inl ⟨rfl, by rw [hxy rfl]; rfl, h'⟩
  · exact .inr ⟨k, by simp [hy]⟩

theorem sliceV_gives {P : Program} {T : Tab} (hT : TabOk P T) {N : Nat} {e : Env} {a : Act} (ha : Fits N e a) {t : TypeId} {x : Value} {lo hi mx : Option Operand} {K : Value → Prop}
    (hmx : hi = none → mx = none) (h : sliceV T t x e lo hi mx K) : Gives P (Instr.sliceAt t x (lo.map a.eval) (hi.map a.eval) (mx.map a.eval)) K := by
  unfold sliceV at h
  split at h
  case h_2 => exact h.elim
  rename_i sh _ _ _ hl
  obtain ⟨u, hu, hs⟩ := shOf_cases hT hl
  split at h
  · rename_i el ao n c
    cases u <;> simp only [shOf, reduceCtorEq, Sh.slice.injEq] at hs
    subst hs
    split at h
    case h_2 => exact h.elim
    rename_i _ sz _ _ hel
    have hsz := fun w => (hT _ _ hel).run_size w
    split at h
    · split at h
      case h_2 => exact h.elim
      rename_i hh mm eh em
      obtain ⟨⟨h1, h2, h3⟩, hk⟩ := h.out
      refine ⟨_, fun w => ?_, sliceK0_of (sz := sz) h1 h2 hk⟩
      have hb := bounds_run (P := P) w (b := true) (n := n) (c := c) (lo := none) (l := 0) (.inl ⟨rfl, rfl⟩) (hi_eval ha hmx eh) (opt_eval ha em) (by omega) h1 h2 h3
      simp [Instr.sliceAt, Instr.slice, run_underlying hu, hb, hsz]
    · rename_i lo'
      split at h
      case h_2 => exact h.elim
      rename_i kl l hh mm el' eh em
      obtain ⟨⟨h0, h1, h2, h3⟩, hk⟩ := h.out
      refine ⟨_, fun w => ?_, sliceK_of h0 h1 h2 hk⟩
      have hb := bounds_run (P := P) w (b := true) (n := n) (c := c) (lo := some (a.eval lo')) (l := l) (.inr ⟨kl, by rw [ha.ov el']⟩) (hi_eval ha hmx eh) (opt_eval ha em) h0 h1 h2 h3
      simp [Instr.sliceAt, Instr.slice, run_underlying hu, hb, hsz]
  · rename_i s
    cases u <;> simp only [shOf, reduceCtorEq] at hs
    split at h
    case h_2 => exact h.elim
    rename_i l hh el' eh
    obtain ⟨⟨h0, h1, h2⟩, hk⟩ := h.out
    refine ⟨_, fun w => ?_, hk⟩
    have hb := bounds_run (P := P) w (b := false) (n := s.size) (c := s.size) (mx := none) (m := s.size) (opt_eval ha el' |>.imp (fun h => ⟨h.1, h.2⟩) id) (hi_eval (y := none) ha (fun _ => rfl) eh |>.imp (fun h => ⟨h.1, rfl, h.2.2⟩) id) (.inl ⟨rfl, rfl⟩) h0 h1 h2 (by omega)
    simp [Instr.sliceAt, Instr.slice, run_underlying hu, hb]
  · rename_i n el ad
    cases u <;> simp only [shOf, reduceCtorEq, Sh.array.injEq] at hs
    obtain ⟨rfl, rfl⟩ := hs
    split at h
    case h_2 => exact h.elim
    rename_i _ sz _ _ hel
    have hsz := fun w => (hT _ _ hel).run_size w
    split at h
    · split at h
      case h_2 => exact h.elim
      rename_i hh mm eh em
      obtain ⟨⟨h1, h2, h3⟩, hk⟩ := h.out
      refine ⟨_, fun w => ?_, sliceK0_of (sz := sz) h1 h2 hk⟩
      have hb := bounds_run (P := P) w (b := false) (lo := none) (l := 0) (.inl ⟨rfl, rfl⟩) (hi_eval ha hmx eh) (opt_eval ha em) (by omega) h1 h2 h3
      simp only [Instr.sliceAt, Sem.run_bind, run_underlying hu, Result.andThen_ok, Instr.sureAddr, Sem.run_pure, Option.map_none, hb, hsz, Option.map_some]
      congr 3
      split <;> rfl
    · rename_i lo'
      split at h
      case h_2 => exact h.elim
      rename_i kl l hh mm el' eh em
      obtain ⟨⟨h0, h1, h2, h3⟩, hk⟩ := h.out
      refine ⟨_, fun w => ?_, sliceK_of h0 h1 h2 hk⟩
      have hb := bounds_run (P := P) w (b := false) (lo := some (a.eval lo')) (l := l) (.inr ⟨kl, by rw [ha.ov el']⟩) (hi_eval ha hmx eh) (opt_eval ha em) h0 h1 h2 h3
      simp only [Instr.sliceAt, Sem.run_bind, run_underlying hu, Result.andThen_ok, Instr.sureAddr, Sem.run_pure, Option.map_some, hb, hsz]
      congr 3
      split <;> rfl
  · exact h.elim

/-! ### One operation that leaves the world alone -/
def pureV (P : Program) (T : Tab) (op : Op) (e : Env) (K : Value → Prop) : Prop :=
  match op with
  | .move x | .assign x => match ov e x with
    | some v => K v
    | none => False
  | .pick c x y => match ov e c with
    | some (.bool b) => match b with
      | true => match ov e x with
        | some v => K v
        | none => False
      | false => match ov e y with
        | some v => K v
        | none => False
    | _ => False
  | .binOp op t x y _ => match look T t, ov e x, ov e y with
    | some _, some (.agg a), some (.agg b) => match op with
      | .eql => Eg P t a b fun r => K (.bool r)
      | .neq => Eg P t a b fun r => K (.bool (!r))
      | _ => False
    | some ⟨sh, _, _, _⟩, some u, some v => binV op sh u v K
    | _, _, _ => False
  | .unOp op _ x => match ov e x with
    | some (.int k n) => match op with
      | .neg => Ar k (0 - n) fun z => K (.int k z)
      | .xor => Bt .xor k (if k.signed then -1 else k.max) n fun z => K (.int k z)
      | _ => False
    | some (.bool b) => match op with
      | .not => K (.bool (!b))
      | _ => False
    | _ => False
  | .convert s t x => match look T s, look T t, ov e x with
    | some _, some ⟨sh, _, _, _⟩, some v => match sh, v with
      | .int k, .int _ n => Ar k n fun z => K (.int k z)
      | .str, .string b => K (.string b)
      | _, _ => False
    | _, _, _ => False
  | .extract x i => match ov e x with
    | some (.tuple vs) => match lget vs.toList i with
      | some v => K v
      | none => False
    | _ => False
  | .field t x f => match look T t, ov e x with
    | some ⟨sh, _, _, _⟩, some (.agg cs) => match sh with
      | .struct fs => match lget fs f with
        | some (off, ft) => partV T ft cs off K
        | none => False
      | _ => False
    | _, _ => False
  | .fieldAddr t x f => match look T t, ov e x with
    | some ⟨sh, _, _, _⟩, some (.pointer (some ⟨b, o, none⟩)) => match sh with
      | .struct fs => match lget fs f with
        | some (off, ft) => match look T ft with
          | some ⟨_, sz, _, _⟩ => match sz with
            | 0 => False
            | _ + 1 => K (.pointer (some ⟨b, o + off, none⟩))
          | none => False
        | none => False
      | _ => False
    | _, _ => False
  | .indexAddr t x i => match look T t, ov e x, ov e i with
    | some ⟨sh, _, _, _⟩, some v, some (.int _ j) => match sh, v with
      | .slice el, .slice (some ⟨b, o, none⟩) n _ => match look T el with
        | some ⟨_, sz, _, _⟩ => Chk (0 ≤ j ∧ j < n) (∀ o' : Nat, (o' : Int) = o + j * sz → K (.pointer (some ⟨b, o', none⟩)))
        | none => False
      | .array n el, .pointer (some ⟨b, o, none⟩) => match look T el with
        | some ⟨_, sz, _, _⟩ => Chk (0 ≤ j ∧ j < n) (∀ o' : Nat, (o' : Int) = o + j * sz → K (.pointer (some ⟨b, o', none⟩)))
        | none => False
      | _, _ => False
    | _, _, _ => False
  | .index t x i => match look T t, ov e x, ov e i with
    | some ⟨sh, _, _, _⟩, some v, some (.int _ j) => match sh, v with
      | .str, .string s => Chk (0 ≤ j ∧ j < s.size) (∀ b : UInt8, s.data.toList[j.toNat]? = some b → K (.int .u8 b.toNat))
      | .array n el, .agg cs => match look T el with
        | some ⟨_, sz, _, _⟩ => Chk (0 ≤ j ∧ j < n) (partV T el cs (j.toNat * sz) K)
        | none => False
      | _, _ => False
    | _, _, _ => False
  | .slice t x lo hi mx => match ov e x with
    | some v => match hi, mx with
      | none, some _ => False
      | _, _ => sliceV T t v e lo hi mx K
    | none => False
  | .nilCheck x => match ov e x with
    | some (.pointer (some a)) => K (.pointer (some a))
    | some (.func (.func f) u v) => K (.func (.func f) u v)
    | _ => False
  | .makeFunc fn xs ys => match ovs e xs.toList, ovs e ys.toList with
    | some us, some vs => K (.func fn us.toArray vs.toArray)
    | _, _ => False
  | .makeInterface t x => match look T t, ov e x with
    | some ⟨sh, _, _, _⟩, some v => match sh with
      | .iface => False
      | .other => False
      | _ => K (.iface t v)
    | _, _ => False
  | .build t parts => match ovs e (parts.toList.map (·.2)) with
    | some vs => Qv P (Instr.build t ((parts.toList.map (·.1)).zip vs).toArray) K
    | none => False
  | .call c => match c.callee with
    | .builtin b => match ovs e c.args.toList with
      | some vs => bpureV T b c.argTypes.toList vs K
      | none => False
    | _ => False
  | _ => False

end Go.Proofs.YtjafamiaahabgaaGreatDoor

namespace Go.Proofs.YtjafamiaahabgaaGreatDoor
set_option linter.unusedVariables false
set_option linter.unusedSimpArgs false

theorem parts_zip {N : Nat} {e : Env} {a : Act} (ha : Fits N e a) : ∀ (l : List (Nat × Operand)) {vs : List Value}, ovs e (l.map (·.2)) = some vs → l.map (fun p => (p.1, a.eval p.2)) = (l.map (·.1)).zip vs
  | [], vs, h => by simp
  | p :: l, vs, h => by
    simp only [List.map_cons, ovs] at h
    split at h
    · rename_i v hv
      split at h
      · rename_i us hus
        injection h with h
        subst h
        simp only [List.map_cons, List.zip_cons_cons, parts_zip ha l hus, ha.ov hv]
      · cases h
    · cases h

/-- an operation gives the value v in every world -/
def Next1 (P : Program) (s : Sem Next) (K : Value → Prop) : Prop := ∃ v, (∀ w, s.run P w = .ok (.value v) w) ∧ K v
theorem Next1.of {P : Program} {s : Sem Value} {K : Value → Prop} (h : Gives P s K) : Next1 P (do pure (.value (← s))) K := by
  obtain ⟨v, hv, hk⟩ := h
  exact ⟨v, fun w => by simp [hv], hk⟩

set_option maxHeartbeats 1000000 in
theorem pureV_next {P : Program} {T : Tab} (hT : TabOk P T) {N : Nat} {e : Env} {a : Act} (ha : Fits N e a) (o : Oper) {K : Value → Prop} (h : pureV P T o.op e K) : Next1 P (execOp a.eval o) K := by
  obtain ⟨dst, op, ty, pos, after, guard⟩ := o
  unfold pureV at h
  split at h
  case h_1 =>
    rename_i x hx
    simp only at hx; subst hx
    split at h
    · rename_i v hv
      exact ⟨v, fun w => by simp [execOp, ha.ov hv], h⟩
    · exact h.elim
  case h_2 =>
    rename_i x hx
    simp only at hx; subst hx
    split at h
    · rename_i v hv
      exact ⟨v, fun w => by simp [execOp, ha.ov hv], h⟩
    · exact h.elim
  case h_3 =>
    rename_i c x y hx
    simp only at hx; subst hx
    split at h
    · rename_i b hb
      split at h
      · split at h
        · rename_i v hv
          exact ⟨v, fun w => by simp [execOp, asBool, ha.ov hv, ha.ov hb], h⟩
        · exact h.elim
      · split at h
        · rename_i v hv
          exact ⟨v, fun w => by simp [execOp, asBool, ha.ov hv, ha.ov hb], h⟩
        · exact h.elim
    · exact h.elim
  case h_4 =>
    rename_i op t x y t' hx
    simp only at hx; subst hx
    split at h
    · rename_i _ a' b' hl hu hv
      split at h
      · obtain ⟨r, hr, hg, hk⟩ := h.o
        refine ⟨.bool r, fun w => ?_, hk⟩
        simp [execOp, ha.ov hu, ha.ov hv, eqGuard, hg, binOp, hr w]
      · obtain ⟨r, hr, hg, hk⟩ := h.o
        refine ⟨.bool (!r), fun w => ?_, hk⟩
        simp [execOp, ha.ov hu, ha.ov hv, eqGuard, hg, binOp, hr w]
      · exact h.elim
    · rename_i sh _ _ _ u v _ hl hu hv
      have := binV_gives (P := P) (t := t) (hT _ _ hl).sh x y h
      refine Next1.of (s := do eqGuard op t x y (a.eval x) (a.eval y); binOp op t (a.eval x) (a.eval y)) ?_
      rw [ha.ov hu, ha.ov hv]
      exact this
    · exact h.elim
  case h_5 =>
    rename_i op t x hx
    simp only at hx; subst hx
    refine Next1.of (s := Op.unary op (a.eval x)) ?_
    split at h
    · rename_i k n hn
      rw [ha.ov hn]
      split at h
      · exact .of_eq (by simp [Op.unary, Op.intArith]) h.out
      · exact .of_eq (by simp [Op.unary, Op.intBits, bits]) h.out
      · exact h.elim
    · rename_i b hb
      rw [ha.ov hb]
      split at h
      · exact .of_eq (by simp [Op.unary]) h
      · exact h.elim
    · exact h.elim
  case h_6 =>
    rename_i s t x hx
    simp only at hx; subst hx
    refine Next1.of (s := convert s t (a.eval x)) ?_
    split at h
    · rename_i ds sh _ _ _ v hs ht hv
      rw [ha.ov hv]
      obtain ⟨us, hus, _⟩ := shOf_cases hT hs
      obtain ⟨ut, hut, het⟩ := shOf_cases hT ht
      split at h
      · cases ut <;> simp only [shOf, reduceCtorEq, Sh.int.injEq] at het
        subst het
        refine ⟨_, fun w => ?_, h.out⟩
        simp [convert, run_underlying hus, run_underlying hut, Conv.intToInt]
      · cases ut <;> simp only [shOf, reduceCtorEq] at het
        refine ⟨_, fun w => ?_, h⟩
        simp [convert, run_underlying hus, run_underlying hut]
      · exact h.elim
    · exact h.elim
  case h_7 =>
    rename_i x i hx
    simp only at hx; subst hx
    refine Next1.of (s := Instr.extract (a.eval x) i) ?_
    split at h
    · rename_i vs hvs
      rw [ha.ov hvs]
      split at h
      · rename_i v hv
        rw [lget_eq] at hv
        exact .of_eq (by simp [Instr.extract, show vs[i]? = some v by simpa using hv]) h
      · exact h.elim
    · exact h.elim
  case h_8 =>
    rename_i t x f hx
    simp only at hx; subst hx
    refine Next1.of (s := Instr.field t (a.eval x) f) ?_
    split at h
    · rename_i sh _ _ _ cs hl hcs
      rw [ha.ov hcs]
      obtain ⟨u, hu, hs⟩ := shOf_cases hT hl
      split at h
      · rename_i fs
        cases u <;> simp only [shOf, reduceCtorEq, Sh.struct.injEq] at hs
        rename_i fields
        split at h
        · rename_i off ft hf
          rw [lget_eq, ← hs] at hf
          simp only [List.getElem?_map, Option.map_eq_some_iff] at hf
          obtain ⟨fd, hfd, hfe⟩ := hf
          injection hfe with h1 h2
          subst h1; subst h2
          obtain ⟨v, hv, hk⟩ := partV_gives hT h
          refine ⟨v, fun w => ?_, hk⟩
          have hfd' : fields[f]? = some fd := by simpa using hfd
          simp [Instr.field, run_underlying hu, hfd', asAgg, hv]
        · exact h.elim
      · exact h.elim
    · exact h.elim
  case h_9 =>
    rename_i t x f hx
    simp only at hx; subst hx
    refine Next1.of (s := Instr.fieldAt t (a.eval x) f) ?_
    split at h
    · rename_i sh _ _ _ b o hl hcs
      rw [ha.ov hcs]
      obtain ⟨u, hu, hs⟩ := shOf_cases hT hl
      split at h
      · rename_i fs
        cases u <;> simp only [shOf, reduceCtorEq, Sh.struct.injEq] at hs
        rename_i fields
        split at h
        · rename_i off ft hf
          rw [lget_eq, ← hs] at hf
          simp only [List.getElem?_map, Option.map_eq_some_iff] at hf
          obtain ⟨fd, hfd, hfe⟩ := hf
          injection hfe with h1 h2
          subst h1; subst h2
          have hfd' : fields[f]? = some fd := by simpa using hfd
          split at h
          · rename_i _ sz _ _ hft
            split at h
            · exact h.elim
            · refine ⟨_, fun w => ?_, h⟩
              have hz := (hT _ _ hft).run_size w
              simp [Instr.fieldAt, run_underlying hu, hfd', Instr.sureAddr, fieldPlace, hz, Addr.add_lit]
          · exact h.elim
        · exact h.elim
      · exact h.elim
    · exact h.elim
  case h_10 =>
    rename_i t x i hx
    simp only at hx; subst hx
    refine Next1.of (s := Instr.indexAt t (a.eval x) (a.eval i)) ?_
    split at h
    · rename_i sh _ _ _ v k j hl hv hj
      rw [ha.ov hv, ha.ov hj]
      obtain ⟨u, hu, hs⟩ := shOf_cases hT hl
      split at h
      · rename_i el b o n c
        cases u <;> simp only [shOf, reduceCtorEq, Sh.slice.injEq] at hs
        subst hs
        split at h
        · rename_i _ sz _ _ hel
          obtain ⟨⟨h0, h1⟩, hk⟩ := h.out
          refine ⟨_, fun w => ?_, hk (o + j.toNat * sz) (by rw [Int.natCast_add, Int.natCast_mul, show ((j.toNat : Nat) : Int) = j from by omega])⟩
          have hz := (hT _ _ hel).run_size w
          simp [Instr.indexAt, asIntOf, run_underlying hu, h0, h1, hz, Addr.add_lit]
        · exact h.elim
      · rename_i n el b o
        cases u <;> simp only [shOf, reduceCtorEq, Sh.array.injEq] at hs
        obtain ⟨rfl, rfl⟩ := hs
        split at h
        · rename_i _ sz _ _ hel
          obtain ⟨⟨h0, h1⟩, hk⟩ := h.out
          refine ⟨_, fun w => ?_, hk (o + j.toNat * sz) (by rw [Int.natCast_add, Int.natCast_mul, show ((j.toNat : Nat) : Int) = j from by omega])⟩
          have hz := (hT _ _ hel).run_size w
          simp [Instr.indexAt, asIntOf, run_underlying hu, h0, h1, hz, Addr.add_lit, Instr.sureAddr]
        · exact h.elim
      · exact h.elim
    · exact h.elim
  case h_11 =>
    rename_i t x i hx
    simp only at hx; subst hx
    refine Next1.of (s := Instr.index t (a.eval x) (a.eval i)) ?_
    split at h
    · rename_i sh _ _ _ v k j hl hv hj
      rw [ha.ov hv, ha.ov hj]
      obtain ⟨u, hu, hs⟩ := shOf_cases hT hl
      split at h
      · rename_i s
        cases u <;> simp only [shOf, reduceCtorEq] at hs
        obtain ⟨⟨h0, h1⟩, hk⟩ := h.out
        have hlt : j.toNat < s.size := by omega
        have hlt' : j.toNat < s.data.toList.length := by simpa using hlt
        refine ⟨_, fun w => ?_, hk s[j.toNat] (by rw [List.getElem?_eq_getElem hlt']; rfl)⟩
        simp [Instr.index, asIntOf, run_underlying hu, h0, hlt]
      · rename_i n el cs
        cases u <;> simp only [shOf, reduceCtorEq, Sh.array.injEq] at hs
        obtain ⟨rfl, rfl⟩ := hs
        split at h
        · rename_i _ sz _ _ hel
          obtain ⟨⟨h0, h1⟩, hk⟩ := h.out
          obtain ⟨v, hv, hk⟩ := partV_gives hT hk
          refine ⟨v, fun w => ?_, hk⟩
          have hz := (hT _ _ hel).run_size w
          simp [Instr.index, asIntOf, run_underlying hu, h0, h1, hz, hv]
        · exact h.elim
      · exact h.elim
    · exact h.elim
  case h_12 =>
    rename_i t x lo hi mx hx
    simp only at hx; subst hx
    split at h
    · rename_i v hv
      refine Next1.of (s := Instr.sliceAt t (a.eval x) (lo.map a.eval) (hi.map a.eval) (mx.map a.eval)) ?_
      rw [ha.ov hv]
      split at h
      · exact h.elim
      · rename_i hno
        refine sliceV_gives hT ha (fun hhi => ?_) h
        cases mx with
        | none => rfl
        | some m => exact (hno m hhi rfl).elim
    · exact h.elim
  case h_13 =>
    rename_i x hx
    simp only at hx; subst hx
    split at h
    · rename_i ad hv
      exact ⟨_, fun w => by simp [execOp, ha.ov hv], h⟩
    · rename_i f u v hv
      exact ⟨_, fun w => by simp [execOp, ha.ov hv], h⟩
    · exact h.elim
  case h_14 =>
    rename_i fn xs ys hx
    simp only at hx; subst hx
    split at h
    · rename_i us vs hu hv
      refine ⟨_, fun w => ?_, h⟩
      have e1 : xs.map a.eval = us.toArray := by apply Array.ext'; simpa using ha.ovs hu
      have e2 : ys.map a.eval = vs.toArray := by apply Array.ext'; simpa using ha.ovs hv
      simp [execOp, Instr.makeFunc, e1, e2]
    · exact h.elim
  case h_15 =>
    rename_i t x hx
    simp only at hx; subst hx
    refine Next1.of (s := Instr.makeInterface t (a.eval x)) ?_
    split at h
    · rename_i sh _ _ _ v hl hv
      rw [ha.ov hv]
      obtain ⟨u, hu, hs⟩ := shOf_cases hT hl
      split at h
      · exact h.elim
      · exact h.elim
      · rename_i h1 h2
        refine ⟨_, fun w => ?_, h⟩
        cases u <;> first
          | (simp [Instr.makeInterface, run_underlying hu]; done)
          | (exact (h1 hs.symm).elim)
          | (exact (h2 hs.symm).elim)
    · exact h.elim
  case h_16 =>
    rename_i t parts hx
    simp only at hx; subst hx
    split at h
    · rename_i vs hvs
      replace h := h.o
      obtain ⟨v, hv, hk⟩ := h
      refine ⟨v, fun w => ?_, hk⟩
      have e1 : parts.map (fun p => (p.1, a.eval p.2)) = ((parts.toList.map (·.1)).zip vs).toArray := by
        apply Array.ext'
        simpa using parts_zip ha parts.toList hvs
      have : execOp a.eval { dst, op := .build t parts, type := ty, pos, after, guard } = (do pure (.value (← Instr.build t (parts.map (fun p => (p.1, a.eval p.2)))))) := rfl
      rw [this, e1]
      simp [hv]
    · exact h.elim
  case h_17 =>
    rename_i c hx
    simp only at hx; subst hx
    split at h
    · rename_i b hb
      split at h
      · rename_i vs hvs
        obtain ⟨v, hv, hk⟩ := bpureV_gives hT (ty := ty) (cs := c.args.map fun | .const _ => true | _ => false) h
        refine ⟨v, fun w => ?_, hk⟩
        have e1 : c.args.map a.eval = vs.toArray := by apply Array.ext'; simpa using ha.ovs hvs
        obtain ⟨callee, args, ats⟩ := c
        simp only at hb e1; subst hb
        rw [BigFrame.execOp_builtin, e1]
        exact hv w
      · exact h.elim
    · exact h.elim
  case h_18 => exact h.elim

end Go.Proofs.YtjafamiaahabgaaGreatDoor

namespace Go.Proofs.YtjafamiaahabgaaGreatDoor
set_option linter.unusedVariables false
set_option linter.unusedSimpArgs false

def cellsL (v : Value) : List Value := match v with
  | .agg cs => cs.toList
  | v => [v]
theorem cellsL_eq (v : Value) : v.cells = (cellsL v).toArray := by cases v <;> simp [Value.cells, cellsL]

def llen {α : Type} : List α → Nat
  | [] => 0
  | _ :: l => Nat.succ (llen l)
theorem llen_eq {α : Type} : ∀ l : List α, llen l = l.length
  | [] => rfl
  | _ :: l => by simp [llen, llen_eq l]

/-- parts number n, n + 1, .., each of that many cells -/
def seqParts (sz : Nat) : Nat → List (Nat × Operand) → List Value → Option (List Value)
  | _, [], [] => some []
  | n, (i, _) :: ps, v :: vs => match Nat.beq i n with
    | true => match Nat.beq (llen (cellsL v)) sz with
      | true => match seqParts sz (n + 1) ps vs with
        | some cs => some (apnd (cellsL v) cs)
        | none => none
      | false => none
    | false => none
  | _, _, _ => none
where apnd : List Value → List Value → List Value
  | [], ys => ys
  | x :: xs, ys => x :: apnd xs ys

def apnd {α : Type} : List α → List α → List α
  | [], ys => ys
  | x :: xs, ys => x :: apnd xs ys
theorem apnd_eq {α : Type} : ∀ l m : List α, apnd l m = l ++ m
  | [], _ => rfl
  | x :: xs, ys => by simp [apnd, apnd_eq xs ys]

def callArgs (fs vs cs : List Value) : List Value := match fs, cs with
  | [], [] => vs
  | fs, cs => apnd fs (apnd vs cs)
theorem callArgs_eq (fs vs cs : List Value) : callArgs fs vs cs = fs ++ (vs ++ cs) := by
  unfold callArgs
  split
  · simp
  · simp [apnd_eq]

def loudB (b : Builtin) (vs : List Value) : Option (Array TypeId → TypeId → Array Value → Sem Value) :=
  match b with
  | .append => some Builtin.append_
  | .copy => some Builtin.copy_
  | .delete => some Builtin.delete_
  | .clear => some Builtin.clear_
  | .len => match vs with
    | [.map (some _)] => some Builtin.len_
    | _ => none
  | _ => none

theorem loudB_run {P : Program} {b : Builtin} {vs : List Value} {s : Array TypeId → TypeId → Array Value → Sem Value} (h : loudB b vs = some s) (ats : Array TypeId) (ty : TypeId) (cs : Array Bool) (args : Array Value) :
    builtin b ats ty cs args = (do pure (.value (← s ats ty args))) := by
  unfold loudB at h
  split at h <;> first
    | (injection h with h; subst h; rfl)
    | (split at h <;> first | (injection h with h; subst h; rfl) | cases h)
    | cases h

/-- shapes of a conversion that reads or makes memory -/
def loudC (T : Tab) (s t : TypeId) : Bool :=
  match look T s, look T t with
  | some ⟨a, _, _, _⟩, some ⟨b, _, _, _⟩ => match a, b with
    | .str, .slice _ => true
    | .slice _, .str => true
    | .slice _, .slice _ => true
    | _, _ => false
  | _, _ => false

/-- a new block -/
structure Nw (w : World) (o : Obj) (K : Nat → World → Prop) : Prop where
  i ::
  o : K w.heap.size (w.alloc o)
theorem Nw.out {w : World} {o : Obj} {K : Nat → World → Prop} (h : Nw w o K) : K w.heap.size (w.alloc o) := h.o
theorem Nw.mk {w : World} {o : Obj} {K : Nat → World → Prop} (h : K w.heap.size (w.alloc o)) : Nw w o K := ⟨h⟩

def opV (P : Program) (T : Tab) (o : Oper) (e : Env) (w : World) (K : Value → World → Prop) : Prop :=
  match o.op with
  | .alloc t => match look T t with
    | some ⟨_, _, _, z⟩ => Nw w (.cells (cellsL z).toArray t) fun b w' => K (.pointer (some ⟨b, 0, none⟩)) w'
    | none => False
  | .box t x => match ov e x with
    | some v => Nw w (.cells (cellsL v).toArray t) fun b w' => K (.pointer (some ⟨b, 0, none⟩)) w'
    | none => False
  | .buildSlice t len parts => match look T t, ovs e (parts.toList.map (·.2)) with
    | some ⟨sh, _, _, _⟩, some vs => match sh with
      | .slice el => Rv P (Instr.buildSlice t len ((parts.toList.map (·.1)).zip vs).toArray) w K
      | _ => False
    | _, _ => False
  | .load t x => match ov e x with
    | some (.pointer (some a)) => Ld P w t a fun v => K v w
    | _ => False
  | .store t x y => match ov e x, ov e y with
    | some (.pointer (some a)), some v => St P w t a v fun w' => K undef w'
    | _, _ => False
  | .makeSlice t l c => match ov e l, ov e c with
    | some l, some c => Rv P (Instr.makeSlice t l c) w K
    | _, _ => False
  | .makeMap t none => Nw w (.map #[] 0) fun b w' => K (.map (some b)) w'
  | .makeMap t (some x) => match ov e x with
    | some v => Rv P (Instr.makeMap t (some v)) w K
    | none => False
  | .lookup t x i ok => match ov e x, ov e i with
    | some u, some v => Rv P (Instr.lookup t u v ok) w K
    | _, _ => False
  | .mapUpdate t m k x | .insert t m k x => match ov e m, ov e k, ov e x with
    | some m, some k, some v => Ru P (Instr.mapUpdate t m k v) w fun w' => K undef w'
    | _, _, _ => False
  | .mapEntry t m k => match ov e m, ov e k with
    | some m, some k => Rv P (Instr.mapEntry t m k) w K
    | _, _ => False
  | .entryStore t m s x => match ov e m, ov e s, ov e x with
    | some m, some s, some v => Ru P (Instr.entryStore t m s v) w fun w' => K undef w'
    | _, _, _ => False
  | .range t x => match ov e x with
    | some v => Rv P (Instr.range t v) w K
    | none => False
  | .next it s => match ov e it with
    | some v => Rv P (Instr.next v s o.type) w K
    | none => False
  | .entry it => match ov e it with
    | some v => Rv P (Instr.entry v) w K
    | none => False
  | .convert s t x => match loudC T s t with
    | true => match ov e x with
      | some v => Rv P (convert s t v) w K
      | none => False
    | false => pureV P T (.convert s t x) e fun v => K v w
  | .call c => match c.callee with
    | .builtin b => match ovs e c.args.toList with
      | some vs => match loudB b vs with
        | some s => Rv P (s c.argTypes o.type vs.toArray) w K
        | none => bpureV T b c.argTypes.toList vs fun v => K v w
      | none => False
    | .value f => match ov e f, ovs e c.args.toList with
      | some (.func (.func id) fs cs), some vs => Fn P id (callArgs fs.toList vs cs.toList).toArray w K
      | _, _ => False
    | .invoke _ _ => False
  | op => pureV P T op e fun v => K v w

theorem Next1.wp {P : Program} {o : Oper} {a : Act} {w : World} {K : Value → World → Prop} {Q : Exit → Act → World → Prop} (h : Next1 P (execOp a.eval o) fun v => K v w) :
    o.wp P a w (fun a' w' => ∃ v, a' = a.put o.dst v ∧ K v w') Q := by
  obtain ⟨v, hv, hk⟩ := h
  unfold Oper.wp
  rw [hv w]
  exact ⟨v, rfl, hk⟩

theorem Rv.wp {P : Program} {o : Oper} {a : Act} {w : World} {K : Value → World → Prop} {Q : Exit → Act → World → Prop} {s : Sem Value} (he : execOp a.eval o = (do pure (.value (← s)))) (h : Rv P s w K) :
    o.wp P a w (fun a' w' => ∃ v, a' = a.put o.dst v ∧ K v w') Q := by
  replace h := h.o
  obtain ⟨v, w', hv, hk⟩ := h
  unfold Oper.wp
  rw [he]
  simp only [Sem.run_bind, hv, Result.andThen_ok, Sem.run_pure]
  exact ⟨v, rfl, hk⟩

theorem Ru.wp {P : Program} {o : Oper} {a : Act} {w : World} {K : Value → World → Prop} {Q : Exit → Act → World → Prop} {s : Sem Unit} (he : execOp a.eval o = (do s; pure .skip)) (h : Ru P s w fun w' => K undef w') :
    o.wp P a w (fun a' w' => ∃ v, a' = a.put o.dst v ∧ K v w') Q := by
  replace h := h.o
  obtain ⟨w', hv, hk⟩ := h
  unfold Oper.wp
  rw [he]
  simp only [Sem.run_bind, hv, Result.andThen_ok, Sem.run_pure]
  exact ⟨undef, rfl, hk⟩

theorem Fn.wp {P : Program} {o : Oper} {a : Act} {w : World} {K : Value → World → Prop} {Q : Exit → Act → World → Prop} {f : FuncId} {args : Array Value} (he : execOp a.eval o = callFunc f args) (h : Fn P f args w K) :
    o.wp P a w (fun a' w' => ∃ v, a' = a.put o.dst v ∧ K v w') Q := by
  replace h := h.o
  obtain ⟨⟨fn, hf, hn, hb⟩, hc⟩ := h
  unfold Oper.wp
  have : (execOp a.eval o).run P w = .ok (.enter f args) w := by
    rw [he]
    simp only [callFunc, Sem.run_bind, run_program, Result.andThen_ok, hf, hn, hb, Bool.false_eq_true, if_false, Sem.run_pure]
  rw [this]
  refine hc.mono fun e w' ⟨v, he, hk⟩ => ?_
  subst he
  exact ⟨v, rfl, hk⟩

set_option maxHeartbeats 1000000 in
theorem opV_wp {P : Program} {T : Tab} (hT : TabOk P T) {N : Nat} {e : Env} {a : Act} (ha : Fits N e a) (o : Oper) {w : World} {K : Value → World → Prop} {Q : Exit → Act → World → Prop}
    (h : opV P T o e w K) : o.wp P a w (fun a' w' => ∃ v, a' = a.put o.dst v ∧ K v w') Q := by
  obtain ⟨dst, op, ty, pos, after, guard⟩ := o
  unfold opV at h
  split at h
  case h_1 =>
    rename_i t hx
    simp only at hx; subst hx
    split at h
    · rename_i _ _ _ z hl
      have hz := (hT _ _ hl).run_zero w
      refine Rv.wp (s := Instr.alloc t true (.tuple #[])) rfl (Rv.mk ?_ h.out)
      simp [Instr.alloc, hz, newVar, newRow, cellsL_eq]
    · exact h.elim
  case h_2 =>
    rename_i t x hx
    simp only at hx; subst hx
    split at h
    · rename_i v hv
      refine Rv.wp (s := Instr.box t (a.eval x)) rfl (Rv.mk ?_ h.out)
      rw [ha.ov hv]
      simp [Instr.box, newVar, newRow, cellsL_eq]
    · exact h.elim
  case h_3 =>
    rename_i t len parts hx
    simp only at hx; subst hx
    split at h
    · rename_i sh _ _ _ vs hl hvs
      have e1 : parts.map (fun p => (p.1, a.eval p.2)) = ((parts.toList.map (·.1)).zip vs).toArray := by
        apply Array.ext'
        simpa using parts_zip ha parts.toList hvs
      split at h
      · exact Rv.wp (by rw [← e1]; rfl) h
      · exact h.elim
    · exact h.elim
  case h_4 =>
    rename_i t x hx
    simp only at hx; subst hx
    split at h
    · rename_i ad hv
      replace h := h.o
      obtain ⟨v, hr, hk⟩ := h
      refine Rv.wp (s := Instr.loadAt t (a.eval x)) rfl (Rv.mk ?_ hk)
      rw [ha.ov hv]
      simp [Instr.loadAt, Instr.sureAddr, hr]
    · exact h.elim
  case h_5 =>
    rename_i t x y hx
    simp only at hx; subst hx
    split at h
    · rename_i ad v hu hv
      replace h := h.o
      obtain ⟨w', hr, hk⟩ := h
      refine Ru.wp (s := Instr.storeAt t (a.eval x) (a.eval y)) rfl (Ru.mk ?_ hk)
      rw [ha.ov hu, ha.ov hv]
      simp [Instr.storeAt, Instr.sureAddr, hr]
    · exact h.elim
  case h_6 =>
    rename_i t l c hx
    simp only at hx; subst hx
    split at h
    · rename_i l' c' hu hv
      exact Rv.wp (by rw [← ha.ov hu, ← ha.ov hv]; rfl) h
    · exact h.elim
  case h_7 =>
    rename_i t hx
    simp only at hx; subst hx
    refine Rv.wp (s := Instr.makeMap t none) rfl (Rv.mk ?_ h.out)
    simp [Instr.makeMap]
  case h_8 =>
    rename_i t x hx
    simp only at hx; subst hx
    split at h
    · rename_i v hv
      exact Rv.wp (by rw [← ha.ov hv]; rfl) h
    · exact h.elim
  case h_9 =>
    rename_i t x i ok hx
    simp only at hx; subst hx
    split at h
    · rename_i u v hu hv
      exact Rv.wp (by rw [← ha.ov hu, ← ha.ov hv]; rfl) h
    · exact h.elim
  case h_10 =>
    rename_i t m k x hx
    simp only at hx; subst hx
    split at h
    · rename_i m' k' v hm hk hv
      exact Ru.wp (by rw [← ha.ov hm, ← ha.ov hk, ← ha.ov hv]; rfl) h
    · exact h.elim
  case h_11 =>
    rename_i t m k x hx
    simp only at hx; subst hx
    split at h
    · rename_i m' k' v hm hk hv
      exact Ru.wp (by rw [← ha.ov hm, ← ha.ov hk, ← ha.ov hv]; rfl) h
    · exact h.elim
  case h_12 =>
    rename_i t m k hx
    simp only at hx; subst hx
    split at h
    · rename_i m' k' hm hk
      exact Rv.wp (by rw [← ha.ov hm, ← ha.ov hk]; rfl) h
    · exact h.elim
  case h_13 =>
    rename_i t m s x hx
    simp only at hx; subst hx
    split at h
    · rename_i m' k' v hm hk hv
      exact Ru.wp (by rw [← ha.ov hm, ← ha.ov hk, ← ha.ov hv]; rfl) h
    · exact h.elim
  case h_14 =>
    rename_i t x hx
    simp only at hx; subst hx
    split at h
    · rename_i v hv
      exact Rv.wp (by rw [← ha.ov hv]; rfl) h
    · exact h.elim
  case h_15 =>
    rename_i it s hx
    simp only at hx; subst hx
    split at h
    · rename_i v hv
      exact Rv.wp (by rw [← ha.ov hv]; rfl) h
    · exact h.elim
  case h_16 =>
    rename_i it hx
    simp only at hx; subst hx
    split at h
    · rename_i v hv
      exact Rv.wp (by rw [← ha.ov hv]; rfl) h
    · exact h.elim
  case h_17 =>
    rename_i s t x hx
    simp only at hx; subst hx
    split at h
    · split at h
      · rename_i v hv
        exact Rv.wp (by rw [← ha.ov hv]; rfl) h
      · exact h.elim
    · exact Next1.wp (pureV_next hT ha ⟨dst, .convert s t x, ty, pos, after, guard⟩ h)
  case h_18 =>
    rename_i c hx
    simp only at hx; subst hx
    obtain ⟨callee, args, ats⟩ := c
    split at h
    · rename_i b hb
      simp only at hb; subst hb
      split at h
      · rename_i vs hvs
        have e1 : args.map a.eval = vs.toArray := by apply Array.ext'; simpa using ha.ovs hvs
        split at h
        · rename_i s hs
          refine Rv.wp ?_ h
          rw [BigFrame.execOp_builtin, e1, loudB_run (P := P) hs]
        · obtain ⟨v, hv, hk⟩ := bpureV_gives hT (ty := ty) (cs := args.map fun | .const _ => true | _ => false) h
          refine Next1.wp ⟨v, fun w => ?_, hk⟩
          rw [BigFrame.execOp_builtin, e1]
          exact hv w
      · exact h.elim
    · rename_i f hb
      simp only at hb; subst hb
      split at h
      · rename_i id fs cs vs hf hvs
        have e1 : args.map a.eval = vs.toArray := by apply Array.ext'; simpa using ha.ovs hvs
        refine Fn.wp ?_ h
        have e2 : (callArgs fs.toList vs cs.toList).toArray = fs ++ args.map a.eval ++ cs := by
          rw [callArgs_eq, e1]
          apply Array.ext'
          simp
        rw [e2]
        simp only [execOp, resolve, ha.ov hf, Deferred.ofValue, invoke, pure_bind]
      · exact h.elim
    · exact h.elim
  case h_19 => exact Next1.wp (pureV_next hT ha ⟨dst, op, ty, pos, after, guard⟩ h)

end Go.Proofs.YtjafamiaahabgaaGreatDoor

namespace Go.Proofs.YtjafamiaahabgaaGreatDoor
set_option linter.unusedVariables false
set_option linter.unusedSimpArgs false

/-! ### A region in the order of the text -/
def putV (N : Nat) (dst : Option Nat) (v : Value) (e : Env) (K : Env → Prop) : Prop := match dst with
  | none => K e
  | some d => match Nat.blt d N with
    | true => K ((d, v) :: e)
    | false => False

def guardSlot (all : List Oper) (j : Nat) : Option Nat := match lget all j with
  | some o => o.dst
  | none => none

/-- what is done where the guard says yes, what where it says no -/
def guardV (all : List Oper) (g : Option (Nat × Bool)) (e : Env) (yes no : Env → Prop) : Prop :=
  match g with
  | none => yes e
  | some (j, want) => match guardSlot all j with
    | some d => match look e d with
      | some (.bool b) => match want with
        | true => Br b (yes ((d, .bool true) :: e)) (no ((d, .bool false) :: e))
        | false => Br b (no ((d, .bool true) :: e)) (yes ((d, .bool false) :: e))
      | some (.tuple _) => no e
      | _ => False
    | none => False

def stepV (P : Program) (T : Tab) (N : Nat) (all : List Oper) (o : Oper) (e : Env) (w : World) (K : Env → World → Prop) : Prop :=
  guardV all o.guard e (fun e => opV P T o e w fun v w' => putV N o.dst v e fun e' => K e' w') (fun e => putV N o.dst undef e fun e' => K e' w)

def runV (P : Program) (T : Tab) (N : Nat) (all : List Oper) : List Oper → Env → World → (Env → World → Prop) → Prop
  | [], e, w, K => K e w
  | o :: rest, e, w, K => stepV P T N all o e w fun e' w' => runV P T N all rest e' w' K

theorem putV_fits {N : Nat} {dst : Option Nat} {v : Value} {e : Env} {K : Env → Prop} {a : Act} (ha : Fits N e a) (h : putV N dst v e K) : ∃ e', Fits N e' (a.put dst v) ∧ K e' := by
  unfold putV at h
  split at h
  · exact ⟨e, ha, h⟩
  · rename_i d
    split at h
    · rename_i hd
      exact ⟨_, ha.put (show d < N from by simpa using hd) v, h⟩
    · exact h.elim

theorem Fits.again {N : Nat} {e : Env} {a : Act} (ha : Fits N e a) {d : Nat} {v : Value} (h : look e d = some v) : Fits N ((d, v) :: e) a :=
  ⟨ha.defers, ha.size, fun j u hj => by
    rw [look_cons] at hj
    by_cases hdj : d = j
    · subst hdj
      rw [if_pos rfl] at hj
      injection hj with hj
      subst hj
      exact ha.get _ _ h
    · rw [if_neg hdj] at hj
      exact ha.get j u hj⟩

theorem guardV_wanted {all : List Oper} {o : Oper} {e : Env} {N : Nat} {a : Act} (ha : Fits N e a) {yes no : Env → Prop} (h : guardV all o.guard e yes no) :
    (Region.wanted o (yielded all.toArray a.tmps) = true ∧ ∃ e', Fits N e' a ∧ yes e') ∨ (Region.wanted o (yielded all.toArray a.tmps) = false ∧ ∃ e', Fits N e' a ∧ no e') := by
  unfold guardV at h
  split at h
  · rename_i hg
    exact .inl ⟨by simp [Region.wanted, hg], e, ha, h⟩
  · rename_i j want hg
    split at h
    case h_2 => exact h.elim
    rename_i d hd
    unfold guardSlot at hd
    split at hd
    case h_2 => cases hd
    rename_i oj hoj
    rw [lget_eq] at hoj
    have hop : ((all.toArray[j]?).bind (·.dst)) = some d := by simp [hoj, hd]
    split at h
    · rename_i b hb
      have hv := ha.get _ _ hb
      have hy : yielded all.toArray a.tmps j = some b := by
        unfold yielded
        rw [hop]
        simp only [Option.bind_some]
        cases ht : a.tmps[d]? with
        | none => simp [ht, undef] at hv
        | some u =>
          have : u = .bool b := by simpa [ht] using hv
          simp [this]
      have yesT : b = true → Fits N ((d, .bool true) :: e) a := fun hbt => ha.again (by rw [hb, hbt])
      have noT : b = false → Fits N ((d, .bool false) :: e) a := fun hbf => ha.again (by rw [hb, hbf])
      split at h
      · have h' := h.out
        cases hbv : b with
        | true => exact .inl ⟨by simp [Region.wanted, hg, hy, hbv], _, yesT hbv, h'.1 hbv⟩
        | false => exact .inr ⟨by simp [Region.wanted, hg, hy, hbv], _, noT hbv, h'.2 hbv⟩
      · have h' := h.out
        cases hbv : b with
        | true => exact .inr ⟨by simp [Region.wanted, hg, hy, hbv], _, yesT hbv, h'.1 hbv⟩
        | false => exact .inl ⟨by simp [Region.wanted, hg, hy, hbv], _, noT hbv, h'.2 hbv⟩
    · rename_i vs hb
      have hv := ha.get _ _ hb
      refine .inr ⟨?_, e, ha, h⟩
      have hy : yielded all.toArray a.tmps j = none := by
        unfold yielded
        rw [hop]
        simp only [Option.bind_some]
        cases ht : a.tmps[d]? with
        | none => rfl
        | some u =>
          have : u = .tuple vs := by simpa [ht] using hv
          simp [this]
      simp [Region.wanted, hg, hy]
    · exact h.elim

theorem runV_list {P : Program} {T : Tab} (hT : TabOk P T) {N : Nat} {all : List Oper} {Q : Exit → Act → World → Prop} {K : Env → World → Prop}
    (hQ : ∀ e a w, Fits N e a → K e w → Q .normal a w) : ∀ (l : List Oper) (e : Env) (a : Act) (w : World), Fits N e a → runV P T N all l e w K → wpList P all.toArray Q l a w
  | [], e, a, w, ha, h => hQ e a w ha h
  | o :: l, e, a, w, ha, h => by
    simp only [runV, stepV] at h
    unfold wpList
    rcases guardV_wanted ha h with ⟨hw, e', ha', h'⟩ | ⟨hw, e', ha', h'⟩
    · rw [if_pos hw]
      refine .inl ?_
      refine Oper.wp_mono (fun a' w' ⟨v, he, hk⟩ => ?_) (opV_wp hT ha' o h')
      subst he
      obtain ⟨e2, ha2, hk2⟩ := putV_fits ha' hk
      exact runV_list hT hQ l e2 _ w' ha2 hk2
    · rw [if_neg (by simp [hw])]
      obtain ⟨e2, ha2, hk2⟩ := putV_fits ha' h'
      exact runV_list hT hQ l e2 _ w ha2 hk2

/-! ### Code -/
structure V (P : Program) (N : Nat) (c : Code) (Q : Exit → Env → World → Prop) (e : Env) (w : World) : Prop where
  i ::
  o :
  ∀ a, Fits N e a → c.wp P (fun x a' w' => ∃ e', Fits N e' a' ∧ Q x e' w') a w

theorem V.mk {P : Program} {N : Nat} {c : Code} {Q : Exit → Env → World → Prop} {e : Env} {w : World} (h : ∀ a, Fits N e a → c.wp P (fun x a' w' => ∃ e', Fits N e' a' ∧ Q x e' w') a w) : V P N c Q e w := ⟨h⟩
theorem V.out {P : Program} {N : Nat} {c : Code} {Q : Exit → Env → World → Prop} {e : Env} {w : World} (h : V P N c Q e w) : ∀ a, Fits N e a → c.wp P (fun x a' w' => ∃ e', Fits N e' a' ∧ Q x e' w') a w := h.o
theorem V.mono {P : Program} {N : Nat} {c : Code} {Q Q' : Exit → Env → World → Prop} {e : Env} {w : World} (h : V P N c Q e w) (hq : ∀ x e w, Q x e w → Q' x e w) : V P N c Q' e w :=
  .mk fun a ha => wp_mono (h.out a ha) fun x a' w' ⟨e', hf, hx⟩ => ⟨e', hf, hq _ _ _ hx⟩
/-- what is known of the frame may be forgotten -/
theorem V.sub {P : Program} {N : Nat} {c : Code} {Q : Exit → Env → World → Prop} {e e' : Env} {w : World} (h : V P N c Q e' w) (hs : Sub e' e) : V P N c Q e w :=
  .mk fun a ha => h.out a (ha.sub hs)

def sq (P : Program) (N : Nat) (b : Code) (Q : Exit → Env → World → Prop) : Exit → Env → World → Prop := fun x e w => match x with
  | .normal => V P N b Q e w
  | x => Q x e w
def bq (id : Nat) (Q : Exit → Env → World → Prop) : Exit → Env → World → Prop := fun x e w => match x with
  | .exit id' => match Nat.beq id' id with
    | true => Q .normal e w
    | false => Q (.exit id') e w
  | x => Q x e w

/-- one statement -/
def W (P : Program) (T : Tab) (N : Nat) (c : Code) (Q : Exit → Env → World → Prop) (e : Env) (w : World) : Prop :=
  match c with
  | .skip => Q .normal e w
  | .region _ ops draw => match draw with
    | false => runV P T N ops.toList ops.toList e w fun e' w' => Q .normal e' w'
    | true => False
  | .seq a b => V P N a (sq P N b Q) e w
  | .cond c x y => match ov e c with
    | some (.bool b) => Br b (V P N x Q e w) (V P N y Q e w)
    | _ => False
  | .block id c => V P N c (bq id Q) e w
  | .exit id => Q (.exit id) e w
  | .ret => Q .ret e w
  | .label _ => Q .normal e w
  | _ => False

theorem V.step {P : Program} {T : Tab} (hT : TabOk P T) {N : Nat} {c : Code} {Q : Exit → Env → World → Prop} {e : Env} {w : World} (h : W P T N c Q e w) : V P N c Q e w := by
  refine .mk fun a ha => ?_
  unfold W at h
  split at h
  · exact wp_skip ⟨e, ha, h⟩
  · rename_i id ops draw
    split at h
    · refine wp_region_list ?_
      have := runV_list hT (N := N) (all := ops.toList) (Q := fun x a' w' => ∃ e', Fits N e' a' ∧ Q x e' w') (K := fun e' w' => Q .normal e' w') (fun e a w hf hk => ⟨e, hf, hk⟩) ops.toList e a w ha h
      simpa using this
    · exact h.elim
  · refine wp_seq (wp_mono (h.out a ha) fun x a' w' ⟨e', hf, hx⟩ => ?_)
    cases x <;> first
      | exact hx.out _ hf
      | exact ⟨e', hf, hx⟩
  · split at h
    · rename_i b hb
      have h' := h.out
      exact wp_cond_split (ha.ov hb) (fun ht => (h'.1 ht).out a ha) (fun hf => (h'.2 hf).out a ha)
    · exact h.elim
  · rename_i id c
    refine wp_block (wp_mono (h.out a ha) fun x a' w' ⟨e', hf, hx⟩ => ?_)
    cases x with
    | exit id' =>
      simp only [bq] at hx
      simp only [Exit.inBlock]
      by_cases hid : id' = id
      · subst hid
        rw [if_pos rfl]
        simp only [Nat.beq_refl] at hx
        exact ⟨e', hf, hx⟩
      · rw [if_neg hid]
        have : Nat.beq id' id = false := by
          cases hb : Nat.beq id' id
          · rfl
          · exact absurd (Nat.eq_of_beq_eq_true hb) hid
        rw [this] at hx
        exact ⟨e', hf, hx⟩
    | _ => exact ⟨e', hf, hx⟩
  · exact wp_exit ⟨e, ha, h⟩
  · exact wp_ret ⟨e, ha, h⟩
  · exact wp_label ⟨e, ha, h⟩
  · exact h.elim

section
variable {P : Program} {T : Tab} {N : Nat} {Q : Exit → Env → World → Prop} {e : Env} {w : World}
theorem V.seq {a b : Code} (h : V P N a (sq P N b Q) e w) : V P N (.seq a b) Q e w :=
  .mk fun x hx => wp_seq (wp_mono (h.out x hx) fun x a' w' ⟨e', hf, hx⟩ => by
    cases x <;> first
      | exact hx.out _ hf
      | exact ⟨e', hf, hx⟩)
theorem V.reg (hT : TabOk P T) {id : Nat} {ops : Array Oper} (h : runV P T N ops.toList ops.toList e w fun e' w' => Q .normal e' w') : V P N (.region id ops false) Q e w := V.step hT h
theorem V.cnd {c : Operand} {x y : Code} {b : Bool} (hc : ov e c = some (.bool b)) (h : Br b (V P N x Q e w) (V P N y Q e w)) : V P N (.cond c x y) Q e w :=
  V.step (T := []) tabOk_nil (by unfold W; simp only [hc]; exact h)
theorem V.blk {id : Nat} {c : Code} (h : V P N c (bq id Q) e w) : V P N (.block id c) Q e w := V.step (T := []) tabOk_nil h
theorem V.ext {id : Nat} (h : Q (.exit id) e w) : V P N (.exit id) Q e w := V.step (T := []) tabOk_nil h
theorem V.rt (h : Q .ret e w) : V P N .ret Q e w := V.step (T := []) tabOk_nil h
theorem V.skp (h : Q .normal e w) : V P N .skip Q e w := V.step (T := []) tabOk_nil h
theorem V.lab {l : Nat} (h : Q .normal e w) : V P N (.label l) Q e w := V.step (T := []) tabOk_nil h
end

/-! ### Loops; ways that meet again -/
def lq {α : Type} (E : α → Env) (I : α → World → Prop) (μ : α → Nat) (z : α) (Q : Exit → Env → World → Prop) : Exit → Env → World → Prop := fun x e' w' => match x with
  | .normal => ∃ z', subL (E z') e' ∧ I z' w' ∧ μ z' < μ z
  | x => Q x e' w'

/-- a loop: what holds at each round's head, with names for what the frame holds there; a number that each round lowers -/
theorem V.loop {P : Program} {N : Nat} {c : Code} {Q : Exit → Env → World → Prop} {e : Env} {w : World} {α : Type} (E : α → Env) (I : α → World → Prop) (μ : α → Nat) (z0 : α)
    (h0 : subL (E z0) e) (hI : I z0 w) (round : ∀ z w, I z w → V P N c (lq E I μ z Q) (E z) w) : V P N (.loop c) Q e w := by
  refine .mk fun a ha => ?_
  refine wp_loop_ghost (fun n a' w' => ∃ z, Fits N (E z) a' ∧ I z w' ∧ μ z = n) (μ z0) ⟨z0, ha.sub h0.sub, hI, rfl⟩ ?_
  rintro n a' w' ⟨z, hf, hz, rfl⟩
  refine wp_mono ((round z w' hz).out a' hf) fun x a2 w2 ⟨e', hf', hx⟩ => ?_
  cases x with
  | normal =>
    obtain ⟨z', hs, hI', hlt⟩ := hx
    exact ⟨_, hlt, z', hf'.sub hs.sub, hI', rfl⟩
  | _ => exact ⟨e', hf', hx⟩

def jq {α : Type} (E : α → Env) (I : α → World → Prop) (Q : Exit → Env → World → Prop) : Exit → Env → World → Prop := fun x e' w' => match x with
  | .normal => ∃ z, subL (E z) e' ∧ I z w'
  | x => Q x e' w'

/-- a statement behind which all ways meet: what is known there -/
theorem V.seqJoin {P : Program} {N : Nat} {a b : Code} {Q : Exit → Env → World → Prop} {e : Env} {w : World} {α : Type} (E : α → Env) (I : α → World → Prop)
    (h : V P N a (jq E I Q) e w) (h' : ∀ z w, I z w → V P N b Q (E z) w) : V P N (.seq a b) Q e w := by
  refine .mk fun a ha => wp_seq (wp_mono (h.out a ha) fun x a' w' ⟨e', hf, hx⟩ => ?_)
  cases x with
  | normal =>
    obtain ⟨z, hs, hI⟩ := hx
    exact (h' z w' hI).out _ (hf.sub hs.sub)
  | _ => exact ⟨e', hf, hx⟩

/-- the same at a statement that has been reached already -/
theorem V.join {P : Program} {N : Nat} {a b : Code} {Q : Exit → Env → World → Prop} {e : Env} {w : World} {α : Type} (E : α → Env) (I : α → World → Prop)
    (h : V P N a (jq E I Q) e w) (h' : ∀ z w, I z w → V P N b Q (E z) w) : V P N a (sq P N b Q) e w := by
  refine h.mono fun x e w hx => ?_
  cases x with
  | normal =>
    obtain ⟨z, hs, hI⟩ := hx
    exact (h' z w hI).sub hs.sub
  | _ => exact hx

/-! ### A function -/
/-- what is handed back -/
def resV (P : Program) (e : Env) (w : World) : List ResultVar → (List Value → Prop) → Prop
  | [], K => K []
  | .tmp t :: rs, K => match look e t with
    | some v => resV P e w rs fun vs => K (v :: vs)
    | none => False
  | .cell t ty :: rs, K => match look e t with
    | some (.pointer (some a)) => Ld P w ty a fun v => resV P e w rs fun vs => K (v :: vs)
    | _ => False

def retV (P : Program) (rs : List ResultVar) (R : Value → World → Prop) (e : Env) (w : World) : Prop :=
  resV P e w rs fun vs => match vs with
    | [v] => R v w
    | vs => R (.tuple vs.toArray) w

def rq (P : Program) (rs : List ResultVar) (R : Value → World → Prop) : Exit → Env → World → Prop := fun x e w => match x with
  | .normal => retV P rs R e w
  | .ret => retV P rs R e w
  | _ => False

def argE : Nat → List Value → Env
  | _, [] => []
  | n, v :: vs => (n, v) :: argE (n + 1) vs

theorem argE_look : ∀ (vs : List Value) (n j : Nat) (v : Value), look (argE n vs) j = some v → n ≤ j ∧ vs[j - n]? = some v
  | [], _, _, _, h => by simp [argE, look] at h
  | u :: vs, n, j, v, h => by
    simp only [argE, look_cons] at h
    by_cases hn : n = j
    · subst hn
      rw [if_pos rfl] at h
      simpa using h
    · rw [if_neg hn] at h
      have := argE_look vs (n + 1) j v h
      refine ⟨by omega, ?_⟩
      rw [show j - n = (j - (n + 1)) + 1 from by omega]
      simpa using this.2

def resOf (tmps : Array Value) : ResultVar → Sem Value
  | .tmp t => pure (tmps.getD t undef)
  | .cell c t => do loadVar t (← asAddr (tmps.getD c undef))

theorem resV_run {P : Program} {e : Env} {w : World} {N : Nat} {a : Act} (ha : Fits N e a) : ∀ (rs : List ResultVar) {K : List Value → Prop}, resV P e w rs K →
    ∃ vs, (rs.mapM (resOf a.tmps)).run P w = .ok vs w ∧ K vs
  | [], K, h => ⟨[], by simp, h⟩
  | .tmp t :: rs, K, h => by
    simp only [resV] at h
    split at h
    · rename_i v hv
      obtain ⟨vs, hr, hk⟩ := resV_run ha rs h
      refine ⟨v :: vs, ?_, hk⟩
      have h1 : (resOf a.tmps (.tmp t)).run P w = .ok v w := by rw [← ha.get _ _ hv]; rfl
      rw [List.mapM_cons]
      simp only [Sem.run_bind, h1, Sem.run_pure, Result.andThen_ok, hr]
    · exact h.elim
  | .cell t ty :: rs, K, h => by
    simp only [resV] at h
    split at h
    · rename_i ad hv
      replace h := h.o
      obtain ⟨v, hl, h⟩ := h
      obtain ⟨vs, hr, hk⟩ := resV_run ha rs h
      refine ⟨v :: vs, ?_, hk⟩
      have h1 : (resOf a.tmps (.cell t ty)).run P w = .ok v w := by
        unfold resOf
        simp only [ha.get _ _ hv]
        exact hl
      rw [List.mapM_cons]
      simp only [Sem.run_bind, h1, Sem.run_pure, Result.andThen_ok, hr]
    · exact h.elim

theorem retV_run {P : Program} {e : Env} {w : World} {N : Nat} {a : Act} (ha : Fits N e a) {fn : Func} {R : Value → World → Prop} (h : retV P fn.results.toList R e w) :
    ∃ v, (results fn a.tmps).run P w = .ok v w ∧ R v w := by
  obtain ⟨vs, hr, hk⟩ := resV_run ha _ h
  have hres : (results fn a.tmps) = (do let vs ← fn.results.mapM (resOf a.tmps); pure (if h : vs.size = 1 then vs[0] else .tuple vs)) := by
    unfold results
    congr 1
  rw [hres, Array.mapM_eq_mapM_toList]
  refine ⟨if h : vs.toArray.size = 1 then vs.toArray[0] else .tuple vs.toArray, ?_, ?_⟩
  · simp only [Sem.run_bind, Sem.run_map, hr, Result.andThen_ok, Sem.run_pure]
  · match vs, hk with
    | [], hk => simpa using hk
    | [v], hk => simpa using hk
    | v :: u :: vs, hk => simpa using hk

theorem Fn.mk {P : Program} {f : FuncId} {fn : Func} {c : Code} {args : List Value} {w : World} {R : Value → World → Prop} (hf : P.funcs[f]? = some fn) (hb : fn.body = some c)
    (hn : (fn.name == "runtime.NumGoroutine") = false) {n : Nat} (ht : fn.ntmps = n) (hl : Nat.ble (llen args) n = true) {rs : List ResultVar} (hrs : fn.results.toList = rs)
    (h : V P n c (rq P rs R) (argE 0 args) w) : Fn P f args.toArray w R := by
  refine ⟨⟨fn, hf, hn, by simp [hb]⟩, calls_of_wp hf hb ?_⟩
  have ha : Fits n (argE 0 args) { tmps := args.toArray ++ Array.replicate (fn.ntmps - args.toArray.size) undef, defers := [] } := by
    have hl' : args.length ≤ n := by rw [← llen_eq]; exact Nat.le_of_ble_eq_true hl
    refine ⟨rfl, by simp [ht]; omega, fun j v hj => ?_⟩
    have := (argE_look args 0 j v hj).2
    simp only [Nat.sub_zero] at this
    have hlt := (List.getElem?_eq_some_iff.1 this).1
    simp only [Array.getD_eq_getD_getElem?]
    rw [Array.getElem?_append_left (by simpa using hlt)]
    simp [this]
  refine wp_mono (h.out _ ha) fun x a' w' ⟨e', hf', hx⟩ => ?_
  subst hrs
  cases x with
  | normal =>
    obtain ⟨v, hr, hk⟩ := retV_run hf' hx
    exact ⟨hf'.defers, v, hr, v, rfl, hk⟩
  | ret =>
    obtain ⟨v, hr, hk⟩ := retV_run hf' hx
    exact ⟨hf'.defers, v, hr, v, rfl, hk⟩
  | _ => exact hx.elim

theorem Fn.calls {P : Program} {f : FuncId} {args : Array Value} {w : World} {R : Value → World → Prop} (h : Fn P f args w R) : Calls P f args w fun e w' => ∃ v, e = .returned v ∧ R v w' := by
  exact h.o.2
theorem Fn.mono {P : Program} {f : FuncId} {args : Array Value} {w : World} {R R' : Value → World → Prop} (h : Fn P f args w R) (hr : ∀ v w', R v w' → R' v w') : Fn P f args w R' := by
  exact ⟨h.o.1, h.o.2.mono fun e w' ⟨v, he, hk⟩ => ⟨v, he, hr _ _ hk⟩⟩

end Go.Proofs.YtjafamiaahabgaaGreatDoor

namespace Go.Proofs.YtjafamiaahabgaaGreatDoor
set_option linter.unusedVariables false
set_option linter.unusedSimpArgs false

structure Lq (P : Program) (C : World → Prop) (t : TypeId) (a : Addr) (K : Value → Prop) : Prop where
  i ::
  o : ∃ v, (∀ w, C w → (loadVar t a).run P w = .ok v w) ∧ K v
structure Rq (P : Program) (C : World → Prop) (s : Sem Value) (K : Value → Prop) : Prop where
  i ::
  o : ∃ v, (∀ w, C w → s.run P w = .ok v w) ∧ K v
structure Fq (P : Program) (C : World → Prop) (f : FuncId) (args : Array Value) (K : Value → Prop) : Prop where
  i ::
  o : ∃ v, (∀ w, C w → Fn P f args w fun u w' => u = v ∧ C w') ∧ K v
theorem Lq.mk {P : Program} {C : World → Prop} {t : TypeId} {a : Addr} {K : Value → Prop} (v : Value) (h : ∀ w, C w → (loadVar t a).run P w = .ok v w) (hk : K v) : Lq P C t a K := ⟨⟨v, h, hk⟩⟩
theorem Rq.mk {P : Program} {C : World → Prop} {s : Sem Value} {K : Value → Prop} (v : Value) (h : ∀ w, C w → s.run P w = .ok v w) (hk : K v) : Rq P C s K := ⟨⟨v, h, hk⟩⟩
theorem Fq.mk {P : Program} {C : World → Prop} {f : FuncId} {args : Array Value} {K : Value → Prop} (v : Value) (h : ∀ w, C w → Fn P f args w fun u w' => u = v ∧ C w') (hk : K v) : Fq P C f args K := ⟨⟨v, h, hk⟩⟩
theorem Lq.one {P : Program} {T : Tab} (hT : TabOk P T) {C : World → Prop} {t : TypeId} {a : Addr} {K : Value → Prop} {v : Value} {d : Td} (hl : look T t = some d) (ha : d.sh.agg = false) (hc : ∀ w, C w → w.cell? a = some v) (hk : K v) : Lq P C t a K := by
  refine Lq.mk v (fun w hw => ?_) hk
  have h1 := (hT _ _ hl).run_agg w
  rw [ha] at h1
  simp only [loadVar, Sem.run_bind, h1, Result.andThen_ok, Bool.false_eq_true, if_false, run_load, hc w hw]

def qopV (P : Program) (T : Tab) (C : World → Prop) (o : Oper) (e : Env) (K : Value → Prop) : Prop :=
  match o.op with
  | .load t x => match ov e x with
    | some (.pointer (some a)) => Lq P C t a K
    | _ => False
  | .lookup t x i ok => match ov e x, ov e i with
    | some u, some v => Rq P C (Instr.lookup t u v ok) K
    | _, _ => False
  | .convert s t x => match loudC T s t with
    | true => match ov e x with
      | some v => Rq P C (convert s t v) K
      | none => False
    | false => pureV P T (.convert s t x) e K
  | .call c => match c.callee with
    | .builtin b => match ovs e c.args.toList with
      | some vs => match loudB b vs with
        | some s => Rq P C (s c.argTypes o.type vs.toArray) K
        | none => bpureV T b c.argTypes.toList vs K
      | none => False
    | .value f => match ov e f, ovs e c.args.toList with
      | some (.func (.func id) fs cs), some vs => Fq P C id (callArgs fs.toList vs cs.toList).toArray K
      | _, _ => False
    | .invoke _ _ => False
  | op => pureV P T op e K

/-- in every world of the class one value, handed back at once or by a call -/
def Quiet1 (P : Program) (C : World → Prop) (s : Sem Next) (v : Value) : Prop :=
  ∀ w, C w → s.run P w = .ok (.value v) w ∨ ∃ f args, s.run P w = .ok (.enter f args) w ∧ Calls P f args w fun e w' => e = .returned v ∧ C w'

theorem Quiet1.of_rq {P : Program} {C : World → Prop} {a : Act} {o : Oper} {s : Sem Value} {K : Value → Prop} (he : execOp a.eval o = (do pure (.value (← s)))) (h : Rq P C s K) : ∃ v, Quiet1 P C (execOp a.eval o) v ∧ K v := by
  replace h := h.o
  obtain ⟨v, hv, hk⟩ := h
  refine ⟨v, fun w hw => .inl ?_, hk⟩
  rw [he]
  simp only [Sem.run_bind, hv w hw, Result.andThen_ok, Sem.run_pure]

theorem Quiet1.of_next {P : Program} {C : World → Prop} {s : Sem Next} {K : Value → Prop} (h : Next1 P s K) : ∃ v, Quiet1 P C s v ∧ K v := by
  obtain ⟨v, hv, hk⟩ := h
  exact ⟨v, fun w _ => .inl (hv w), hk⟩

set_option maxHeartbeats 1000000 in
theorem qopV_quiet {P : Program} {T : Tab} (hT : TabOk P T) {C : World → Prop} {N : Nat} {e : Env} {a : Act} (ha : Fits N e a) (o : Oper) {K : Value → Prop} (h : qopV P T C o e K) :
    ∃ v, Quiet1 P C (execOp a.eval o) v ∧ K v := by
  obtain ⟨dst, op, ty, pos, after, guard⟩ := o
  unfold qopV at h
  split at h
  case h_1 =>
    rename_i t x hx
    simp only at hx; subst hx
    split at h
    · rename_i ad hv
      replace h := h.o
      obtain ⟨v, hr, hk⟩ := h
      refine Quiet1.of_rq (s := Instr.loadAt t (a.eval x)) rfl (Rq.mk v (fun w hw => ?_) hk)
      rw [ha.ov hv]
      simp [Instr.loadAt, Instr.sureAddr, hr w hw]
    · exact h.elim
  case h_2 =>
    rename_i t x i ok hx
    simp only at hx; subst hx
    split at h
    · rename_i u v hu hv
      exact Quiet1.of_rq (by rw [← ha.ov hu, ← ha.ov hv]; rfl) h
    · exact h.elim
  case h_3 =>
    rename_i s t x hx
    simp only at hx; subst hx
    split at h
    · split at h
      · rename_i v hv
        exact Quiet1.of_rq (s := convert s t (a.eval x)) rfl (by rw [ha.ov hv]; exact h)
      · exact h.elim
    · exact Quiet1.of_next (pureV_next hT ha ⟨dst, .convert s t x, ty, pos, after, guard⟩ h)
  case h_4 =>
    rename_i c hx
    simp only at hx; subst hx
    obtain ⟨callee, args, ats⟩ := c
    split at h
    · rename_i b hb
      simp only at hb; subst hb
      split at h
      · rename_i vs hvs
        have e1 : args.map a.eval = vs.toArray := by apply Array.ext'; simpa using ha.ovs hvs
        split at h
        · rename_i s hs
          refine Quiet1.of_rq ?_ h
          rw [BigFrame.execOp_builtin, e1, loudB_run (P := P) hs]
        · obtain ⟨v, hv, hk⟩ := bpureV_gives hT (ty := ty) (cs := args.map fun | .const _ => true | _ => false) h
          refine Quiet1.of_next ⟨v, fun w => ?_, hk⟩
          rw [BigFrame.execOp_builtin, e1]
          exact hv w
      · exact h.elim
    · rename_i f hb
      simp only at hb; subst hb
      split at h
      · rename_i id fs cs vs hf hvs
        have e1 : args.map a.eval = vs.toArray := by apply Array.ext'; simpa using ha.ovs hvs
        have e2 : (callArgs fs.toList vs cs.toList).toArray = fs ++ args.map a.eval ++ cs := by
          rw [callArgs_eq, e1]
          apply Array.ext'
          simp
        rw [e2] at h
        replace h := h.o
        obtain ⟨v, hv, hk⟩ := h
        refine ⟨v, fun w hw => .inr ⟨id, fs ++ args.map a.eval ++ cs, ?_, ?_⟩, hk⟩
        · have h1 := hv w hw
          replace h1 := h1.o
          obtain ⟨⟨fn, hf', hn, hb⟩, hc⟩ := h1
          have : execOp a.eval { dst, op := .call { callee := .value f, args, argTypes := ats }, type := ty, pos, after, guard } = callFunc id (fs ++ args.map a.eval ++ cs) := by
            simp only [execOp, resolve, ha.ov hf, Deferred.ofValue, invoke, pure_bind]
          rw [this]
          simp only [callFunc, Sem.run_bind, run_program, Result.andThen_ok, hf', hn, hb, Bool.false_eq_true, if_false, Sem.run_pure]
        · exact (hv w hw).calls.mono fun e w' ⟨u, he, hu, hc⟩ => ⟨by rw [he, hu], hc⟩
      · exact h.elim
    · exact h.elim
  case h_5 => exact Quiet1.of_next (pureV_next hT ha ⟨dst, op, ty, pos, after, guard⟩ h)

def quietV (P : Program) (T : Tab) (N : Nat) (C : World → Prop) (all : List Oper) : List Oper → Env → (Env → Prop) → Prop
  | [], e, K => K e
  | o :: rest, e, K => guardV all o.guard e (fun e => qopV P T C o e fun v => putV N o.dst v e fun e' => quietV P T N C all rest e' K) (fun e => putV N o.dst undef e fun e' => quietV P T N C all rest e' K)

theorem quietV_quiet {P : Program} {T : Tab} (hT : TabOk P T) {C : World → Prop} {N : Nat} {all : List Oper} {Q : Act → Prop} {K : Env → Prop} (hQ : ∀ e a, Fits N e a → K e → Q a) :
    ∀ (l : List Oper) (e : Env) (a : Act), Fits N e a → quietV P T N C all l e K → wpQuiet P all.toArray C Q l a
  | [], e, a, ha, h => hQ e a ha h
  | o :: l, e, a, ha, h => by
    simp only [quietV] at h
    unfold wpQuiet
    rcases guardV_wanted ha h with ⟨hw, e', ha', h'⟩ | ⟨hw, e', ha', h'⟩
    · rw [if_pos hw]
      obtain ⟨v, hv, hk⟩ := qopV_quiet hT ha' o h'
      obtain ⟨e2, ha2, hk2⟩ := putV_fits ha' hk
      refine ⟨v, fun w hc => ?_, quietV_quiet hT hQ l e2 _ ha2 hk2⟩
      unfold Oper.quietAt
      rcases hv w hc with h1 | ⟨f, args, h1, h2⟩
      · rw [h1]; exact ⟨rfl, rfl⟩
      · rw [h1]; exact ⟨rfl, h2⟩
    · rw [if_neg (by simp [hw])]
      obtain ⟨e2, ha2, hk2⟩ := putV_fits ha' h'
      exact quietV_quiet hT hQ l e2 _ ha2 hk2

theorem quietV_still {P : Program} {T : Tab} (hT : TabOk P T) {w : World} {N : Nat} {all : List Oper} {Q : Act → Prop} {K : Env → Prop} (hQ : ∀ e a, Fits N e a → K e → Q a) :
    ∀ (l : List Oper) (e : Env) (a : Act), Fits N e a → quietV P T N (fun x => x = w) all l e K → wpStill P all.toArray w Q l a
  | [], e, a, ha, h => hQ e a ha h
  | o :: l, e, a, ha, h => by
    simp only [quietV] at h
    unfold wpStill
    rcases guardV_wanted ha h with ⟨hw, e', ha', h'⟩ | ⟨hw, e', ha', h'⟩
    · rw [if_pos hw]
      obtain ⟨v, hv, hk⟩ := qopV_quiet hT ha' o h'
      obtain ⟨e2, ha2, hk2⟩ := putV_fits ha' hk
      have hrest := quietV_still hT hQ l e2 _ ha2 hk2
      unfold Oper.still
      rcases hv w rfl with h1 | ⟨f, args, h1, h2⟩
      · rw [h1]; exact ⟨rfl, hrest⟩
      · rw [h1]; exact ⟨rfl, v, h2, hrest⟩
    · rw [if_neg (by simp [hw])]
      obtain ⟨e2, ha2, hk2⟩ := putV_fits ha' h'
      exact quietV_still hT hQ l e2 _ ha2 hk2

/-- a region whose order is open and whose operations give, in every world of a class, one value -/
theorem V.quiet {P : Program} {T : Tab} (hT : TabOk P T) {N : Nat} {Q : Exit → Env → World → Prop} {e : Env} {w : World} {id : Nat} {ops : Array Oper} (C : World → Prop) (hm : P.follows .mixedOrders = true)
    (hB : Region.lexB .any ops = true) (hC : C w.drew) (h : quietV P T N C ops.toList ops.toList e fun e' => ∀ w', C w' → Q .normal e' w') : V P N (.region id ops true) Q e w := by
  refine .mk fun a ha => wp_region_quiet (C := C) hm hB hC ?_
  have := quietV_quiet hT (N := N) (all := ops.toList) (Q := fun a' => ∀ w', C w' → ∃ e', Fits N e' a' ∧ Q .normal e' w') (fun e a hf hk w' hc => ⟨e, hf, hk w' hc⟩) ops.toList e a ha h
  simpa using this

/-- a region whose order is open: the first n operations read the world as it stands; those behind them follow one another -/
theorem V.tail {P : Program} {T : Tab} (hT : TabOk P T) {N : Nat} {Q : Exit → Env → World → Prop} {e : Env} {w : World} {id : Nat} {ops : Array Oper} (n : Nat) (hm : P.follows .mixedOrders = true)
    (hB : Region.lexTailB .any ops n = true) (h : quietV P T N (fun x => x = w.drew) ops.toList (ops.toList.take n) e fun e' => runV P T N ops.toList (ops.toList.drop n) e' w.drew fun e2 w2 => Q .normal e2 w2) : V P N (.region id ops true) Q e w := by
  refine .mk fun a ha => ?_
  have hops : ops = ops.toList.toArray := by simp
  rw [hops]
  refine wp_region_still_tail n hm (by rw [← hops]; exact hB) ?_
  refine quietV_still hT (N := N) (all := ops.toList) (fun e a hf hk => ?_) (ops.toList.take n) e a ha h
  exact runV_list hT (N := N) (all := ops.toList) (Q := fun x a' w' => ∃ e', Fits N e' a' ∧ Q x e' w') (K := fun e2 w2 => Q .normal e2 w2) (fun e a w hf hk => ⟨e, hf, hk⟩) _ _ _ _ hf hk

/-- operations that only read -/
def stillOp (T : Tab) : Op → Bool
  | .store _ _ _ | .alloc _ | .box _ _ | .buildSlice _ _ _ | .makeSlice _ _ _ | .makeMap _ _ | .mapUpdate _ _ _ _ | .insert _ _ _ _ | .mapEntry _ _ _ | .entryStore _ _ _ _ | .range _ _ | .next _ _ | .entry _ => false
  | .call c => match c.callee with
    | .builtin .append | .builtin .copy | .builtin .delete | .builtin .clear => false
    | .builtin _ => true
    | _ => false
  | _ => true
def firstLoud (T : Tab) : List Oper → Nat
  | [] => 0
  | o :: l => match stillOp T o.op with
    | true => Nat.succ (firstLoud T l)
    | false => 0
/-- V.tail, its number found -/
theorem V.tailA {P : Program} {T : Tab} (hT : TabOk P T) {N : Nat} {Q : Exit → Env → World → Prop} {e : Env} {w : World} {id : Nat} {ops : Array Oper} (hm : P.follows .mixedOrders = true)
    (hB : Region.lexTailB .any ops (firstLoud T ops.toList) = true) (h : quietV P T N (fun x => x = w.drew) ops.toList (ops.toList.take (firstLoud T ops.toList)) e fun e' => runV P T N ops.toList (ops.toList.drop (firstLoud T ops.toList)) e' w.drew fun e2 w2 => Q .normal e2 w2) : V P N (.region id ops true) Q e w :=
  V.tail hT _ hm hB h

end Go.Proofs.YtjafamiaahabgaaGreatDoor

namespace Go.Proofs.YtjafamiaahabgaaGreatDoor
set_option linter.unusedVariables false
set_option linter.unusedSimpArgs false

def schedV (P : Program) (T : Tab) (N : Nat) (all : List Oper) : List (Nat × Bool) → Env → World → (Env → World → Prop) → Prop
  | [], e, w, K => K e w
  | (i, p) :: rest, e, w, K => match lget all i with
    | none => False
    | some o => match p with
      | true => guardV all o.guard e (fun e => pureV P T o.op e fun v => putV N o.dst v e fun e' => schedV P T N all rest e' w K) (fun e => putV N o.dst undef e fun e' => schedV P T N all rest e' w K)
      | false => stepV P T N all o e w fun e' w' => schedV P T N all rest e' w' K

def schedB (ops : Array Oper) : List (Nat × Bool) → Array Bool → Bool
  | [], listed => (Region.ready .any ops listed).isEmpty
  | (i, true) :: rest, listed => (Region.ready .any ops listed).contains i && Region.free .any ops listed i && schedB ops rest (listed.setIfInBounds i true)
  | (i, false) :: rest, listed => decide (Region.ready .any ops listed = [i]) && schedB ops rest (listed.setIfInBounds i true)

theorem schedV_any {P : Program} {T : Tab} (hT : TabOk P T) {N : Nat} {all : List Oper} {Q : Exit → Act → World → Prop} {K : Env → World → Prop} (hns : Region.noSelect all.toArray = true)
    (hQ : ∀ e a w, Fits N e a → K e w → Q .normal a w) (hQp : ∀ c a w, ¬ Q (.panic c) a w) : ∀ (pl : List (Nat × Bool)) (listed : Array Bool) (e : Env) (a : Act) (w : World), Fits N e a → schedB all.toArray pl listed = true →
      schedV P T N all pl e w K → wpAny P .any all.toArray Q pl.length listed a w
  | [], listed, e, a, w, ha, hB, h => by
    refine wpAny_done (by simpa [schedB] using hB) (hQ e a w ha h) 0
  | (i, true) :: pl, listed, e, a, w, ha, hB, h => by
    simp only [schedB, Bool.and_eq_true] at hB
    obtain ⟨⟨hr, hf⟩, hB⟩ := hB
    simp only [schedV] at h
    split at h
    · exact h.elim
    rename_i o ho
    rw [lget_eq] at ho
    have ho' : all.toArray[i]? = some o := by simpa using ho
    rcases guardV_wanted ha h with ⟨hw, e', ha', h'⟩ | ⟨hw, e', ha', h'⟩
    · obtain ⟨v, hv, hk⟩ := pureV_next hT ha' o h'
      obtain ⟨e2, ha2, hk2⟩ := putV_fits ha' hk
      exact wpAny_take ho' hns hf hr (fun c a w hq => (hQp c _ w hq).elim) (.inl ⟨hw, hv⟩) (schedV_any hT hns hQ hQp pl _ e2 _ w ha2 hB hk2)
    · obtain ⟨e2, ha2, hk2⟩ := putV_fits ha' h'
      exact wpAny_take ho' hns hf hr (fun c a w hq => (hQp c _ w hq).elim) (.inr ⟨hw, rfl⟩) (schedV_any hT hns hQ hQp pl _ e2 _ w ha2 hB hk2)
  | (i, false) :: pl, listed, e, a, w, ha, hB, h => by
    simp only [schedB, Bool.and_eq_true, decide_eq_true_eq] at hB
    obtain ⟨hr, hB⟩ := hB
    simp only [schedV] at h
    split at h
    · exact h.elim
    rename_i o ho
    rw [lget_eq] at ho
    have ho' : all.toArray[i]? = some o := by simpa using ho
    refine wpAny_all hr (by simp) fun j hj => ?_
    obtain rfl : j = i := by simpa using hj
    unfold wpOp
    simp only [ho']
    simp only [stepV] at h
    rcases guardV_wanted ha h with ⟨hw, e', ha', h'⟩ | ⟨hw, e', ha', h'⟩
    · rw [if_pos hw]
      refine .inl (Oper.wp_mono (fun a' w' ⟨v, he, hk⟩ => ?_) (opV_wp hT ha' o h'))
      subst he
      obtain ⟨e2, ha2, hk2⟩ := putV_fits ha' hk
      exact schedV_any hT hns hQ hQp pl _ e2 _ w' ha2 hB hk2
    · rw [if_neg (by simp [hw])]
      obtain ⟨e2, ha2, hk2⟩ := putV_fits ha' h'
      exact schedV_any hT hns hQ hQp pl _ e2 _ w ha2 hB hk2

def planB (ops : Array Oper) (pl : List (Nat × Bool)) : Bool := Region.noSelect ops && Nat.beq pl.length ops.size && schedB ops pl (Array.replicate ops.size false)

/-- a region whose order is open, along a plan -/
theorem V.plan {P : Program} {T : Tab} (hT : TabOk P T) {N : Nat} {Q : Exit → Env → World → Prop} {e : Env} {w : World} {id : Nat} {ops : Array Oper} (pl : List (Nat × Bool)) (hm : P.follows .mixedOrders = true)
    (hB : planB ops pl = true) (h : schedV P T N ops.toList pl e w.drew fun e' w' => Q .normal e' w') : V P N (.region id ops true) Q e w := by
  simp only [planB, Bool.and_eq_true] at hB
  obtain ⟨⟨hns, hl⟩, hB⟩ := hB
  have hl' : pl.length = ops.size := Nat.eq_of_beq_eq_true hl
  refine .mk fun a ha => ?_
  refine wp_mono (Q := fun x a' w' => x = .normal ∧ ∃ e', Fits N e' a' ∧ Q .normal e' w') (wp_region_any hm ?_) fun x a' w' ⟨hx, e', hf, hq⟩ => by subst hx; exact ⟨e', hf, hq⟩
  have := schedV_any hT (N := N) (all := ops.toList) (Q := fun x a' w' => x = .normal ∧ ∃ e', Fits N e' a' ∧ Q .normal e' w') (by simpa using hns) (fun e a w hf hk => ⟨rfl, e, hf, hk⟩) (fun c a w hq => by cases hq.1) pl _ e a w.drew ha (by simpa using hB) h
  rw [hl'] at this
  simpa using this

/-- a plan: all but the ones that are named stand still; they come in their order -/
def planOf : Nat → List Nat → List (Nat × Bool)
  | n, loud => (List.range n).map fun i => (i, !(loud.contains i))

/-! ### Regions whose order is open, under a condition that holds all along: what reads comes first, what writes after it -/
/-- one operation that in every world of the class hands on one value at once -/
def holdV (P : Program) (T : Tab) (C : World → Prop) (o : Oper) (e : Env) (K : Value → Prop) : Prop :=
  match o.op with
  | .load t x => match ov e x with
    | some (.pointer (some a)) => Lq P C t a K
    | _ => False
  | .lookup t x i ok => match ov e x, ov e i with
    | some u, some v => Rq P C (Instr.lookup t u v ok) K
    | _, _ => False
  | .convert s t x => match loudC T s t with
    | true => match ov e x with
      | some v => Rq P C (convert s t v) K
      | none => False
    | false => pureV P T (.convert s t x) e K
  | .call c => match c.callee with
    | .builtin b => match ovs e c.args.toList with
      | some vs => match loudB b vs with
        | some s => Rq P C (s c.argTypes o.type vs.toArray) K
        | none => bpureV T b c.argTypes.toList vs K
      | none => False
    | _ => False
  | op => pureV P T op e K

def Held1 (P : Program) (C : World → Prop) (s : Sem Next) (v : Value) : Prop := ∀ w, C w → s.run P w = .ok (.value v) w
theorem Held1.of_rq {P : Program} {C : World → Prop} {a : Act} {o : Oper} {s : Sem Value} {K : Value → Prop} (he : execOp a.eval o = (do pure (.value (← s)))) (h : Rq P C s K) : ∃ v, Held1 P C (execOp a.eval o) v ∧ K v := by
  obtain ⟨v, hv, hk⟩ := h.o
  refine ⟨v, fun w hw => ?_, hk⟩
  rw [he]
  simp only [Sem.run_bind, hv w hw, Result.andThen_ok, Sem.run_pure]
theorem Held1.of_next {P : Program} {C : World → Prop} {s : Sem Next} {K : Value → Prop} (h : Next1 P s K) : ∃ v, Held1 P C s v ∧ K v := by
  obtain ⟨v, hv, hk⟩ := h
  exact ⟨v, fun w _ => hv w, hk⟩

set_option maxHeartbeats 1000000 in
theorem holdV_held {P : Program} {T : Tab} (hT : TabOk P T) {C : World → Prop} {N : Nat} {e : Env} {a : Act} (ha : Fits N e a) (o : Oper) {K : Value → Prop} (h : holdV P T C o e K) :
    ∃ v, Held1 P C (execOp a.eval o) v ∧ K v := by
  obtain ⟨dst, op, ty, pos, after, guard⟩ := o
  unfold holdV at h
  split at h
  case h_1 =>
    rename_i t x hx
    simp only at hx; subst hx
    split at h
    · rename_i ad hv
      obtain ⟨v, hr, hk⟩ := h.o
      refine Held1.of_rq (s := Instr.loadAt t (a.eval x)) rfl (Rq.mk v (fun w hw => ?_) hk)
      rw [ha.ov hv]
      simp [Instr.loadAt, Instr.sureAddr, hr w hw]
    · exact h.elim
  case h_2 =>
    rename_i t x i ok hx
    simp only at hx; subst hx
    split at h
    · rename_i u v hu hv
      exact Held1.of_rq (by rw [← ha.ov hu, ← ha.ov hv]; rfl) h
    · exact h.elim
  case h_3 =>
    rename_i s t x hx
    simp only at hx; subst hx
    split at h
    · split at h
      · rename_i v hv
        exact Held1.of_rq (s := convert s t (a.eval x)) rfl (by rw [ha.ov hv]; exact h)
      · exact h.elim
    · exact Held1.of_next (pureV_next hT ha ⟨dst, .convert s t x, ty, pos, after, guard⟩ h)
  case h_4 =>
    rename_i c hx
    simp only at hx; subst hx
    obtain ⟨callee, args, ats⟩ := c
    split at h
    · rename_i b hb
      simp only at hb; subst hb
      split at h
      · rename_i vs hvs
        have e1 : args.map a.eval = vs.toArray := by apply Array.ext'; simpa using ha.ovs hvs
        split at h
        · rename_i s hs
          refine Held1.of_rq ?_ h
          rw [BigFrame.execOp_builtin, e1, loudB_run (P := P) hs]
        · obtain ⟨v, hv, hk⟩ := bpureV_gives hT (ty := ty) (cs := args.map fun | .const _ => true | _ => false) h
          refine Held1.of_next ⟨v, fun w => ?_, hk⟩
          rw [BigFrame.execOp_builtin, e1]
          exact hv w
      · exact h.elim
    · exact h.elim
  case h_5 => exact Held1.of_next (pureV_next hT ha ⟨dst, op, ty, pos, after, guard⟩ h)

def heldV (P : Program) (T : Tab) (N : Nat) (C : World → Prop) (all : List Oper) : List (Nat × Bool) → Env → World → (Env → World → Prop) → Prop
  | [], e, w, K => K e w
  | (i, p) :: rest, e, w, K => match lget all i with
    | none => False
    | some o => match p with
      | true => guardV all o.guard e (fun e => holdV P T C o e fun v => putV N o.dst v e fun e' => heldV P T N C all rest e' w K) (fun e => putV N o.dst undef e fun e' => heldV P T N C all rest e' w K)
      | false => stepV P T N all o e w fun e' w' => C w' ∧ heldV P T N C all rest e' w' K

theorem heldV_any {P : Program} {T : Tab} (hT : TabOk P T) {N : Nat} {C : World → Prop} {all : List Oper} {Q : Exit → Act → World → Prop} {K : Env → World → Prop} (hns : Region.noSelect all.toArray = true)
    (hQ : ∀ e a w, Fits N e a → K e w → Q .normal a w) (hQp : ∀ c a w, ¬ Q (.panic c) a w) : ∀ (pl : List (Nat × Bool)) (listed : Array Bool) (e : Env) (a : Act) (w : World), Fits N e a → C w → schedB all.toArray pl listed = true →
      heldV P T N C all pl e w K → wpAnyH P .any all.toArray Q C pl.length listed a w
  | [], listed, e, a, w, ha, hC, hB, h => wpAnyH_done (by simpa [schedB] using hB) (hQ e a w ha h) 0
  | (i, true) :: pl, listed, e, a, w, ha, hC, hB, h => by
    simp only [schedB, Bool.and_eq_true] at hB
    obtain ⟨⟨hr, hf⟩, hB⟩ := hB
    simp only [heldV] at h
    split at h
    · exact h.elim
    rename_i o ho
    rw [lget_eq] at ho
    have ho' : all.toArray[i]? = some o := by simpa using ho
    rcases guardV_wanted ha h with ⟨hw, e', ha', h'⟩ | ⟨hw, e', ha', h'⟩
    · obtain ⟨v, hv, hk⟩ := holdV_held hT ha' o h'
      obtain ⟨e2, ha2, hk2⟩ := putV_fits ha' hk
      exact wpAnyH_take ho' hns hf hr (fun c a w hq => (hQp c _ w hq).elim) (.inl ⟨hw, hv⟩) hC (heldV_any hT hns hQ hQp pl _ e2 _ w ha2 hC hB hk2)
    · obtain ⟨e2, ha2, hk2⟩ := putV_fits ha' h'
      exact wpAnyH_take ho' hns hf hr (fun c a w hq => (hQp c _ w hq).elim) (.inr ⟨hw, rfl⟩) hC (heldV_any hT hns hQ hQp pl _ e2 _ w ha2 hC hB hk2)
  | (i, false) :: pl, listed, e, a, w, ha, hC, hB, h => by
    simp only [schedB, Bool.and_eq_true, decide_eq_true_eq] at hB
    obtain ⟨hr, hB⟩ := hB
    simp only [heldV] at h
    split at h
    · exact h.elim
    rename_i o ho
    rw [lget_eq] at ho
    have ho' : all.toArray[i]? = some o := by simpa using ho
    refine wpAnyH_all hr (by simp) fun j hj => ?_
    obtain rfl : j = i := by simpa using hj
    unfold wpOp
    simp only [ho']
    simp only [stepV] at h
    rcases guardV_wanted ha h with ⟨hw, e', ha', h'⟩ | ⟨hw, e', ha', h'⟩
    · rw [if_pos hw]
      refine .inl (Oper.wp_mono (fun a' w' ⟨v, he, hk⟩ => ?_) (opV_wp hT ha' o h'))
      subst he
      obtain ⟨e2, ha2, hC2, hk2⟩ := putV_fits ha' hk
      exact ⟨hC2, heldV_any hT hns hQ hQp pl _ e2 _ w' ha2 hC2 hB hk2⟩
    · rw [if_neg (by simp [hw])]
      obtain ⟨e2, ha2, hC2, hk2⟩ := putV_fits ha' h'
      exact ⟨hC2, heldV_any hT hns hQ hQp pl _ e2 _ w ha2 hC2 hB hk2⟩

theorem V.held {P : Program} {T : Tab} (hT : TabOk P T) {N : Nat} {Q : Exit → Env → World → Prop} {e : Env} {w : World} {id : Nat} {ops : Array Oper} (C : World → Prop) (pl : List (Nat × Bool)) (hm : P.follows .mixedOrders = true)
    (hB : planB ops pl = true) (hC : C w.drew) (h : heldV P T N C ops.toList pl e w.drew fun e' w' => Q .normal e' w') : V P N (.region id ops true) Q e w := by
  simp only [planB, Bool.and_eq_true] at hB
  obtain ⟨⟨hns, hl⟩, hB⟩ := hB
  have hl' : pl.length = ops.size := Nat.eq_of_beq_eq_true hl
  refine .mk fun a ha => ?_
  refine wp_mono (Q := fun x a' w' => x = .normal ∧ ∃ e', Fits N e' a' ∧ Q .normal e' w') (wp_region_held (S := C) hm ?_) fun x a' w' ⟨hx, e', hf, hq⟩ => by subst hx; exact ⟨e', hf, hq⟩
  have := heldV_any hT (N := N) (C := C) (all := ops.toList) (Q := fun x a' w' => x = .normal ∧ ∃ e', Fits N e' a' ∧ Q .normal e' w') (by simpa using hns) (fun e a w hf hk => ⟨rfl, e, hf, hk⟩) (fun c a w hq => by cases hq.1) pl _ e a w.drew ha hC (by simpa using hB) h
  rw [hl'] at this
  simpa using this

/-- a plan: those that only read, then the others, each in the text's order -/
def planFrom (T : Tab) (q : Bool) : Nat → List Oper → List (Nat × Bool)
  | _, [] => []
  | i, o :: l => match stillOp T o.op with
    | true => match q with
      | true => (i, true) :: planFrom T q (Nat.succ i) l
      | false => planFrom T q (Nat.succ i) l
    | false => match q with
      | true => planFrom T q (Nat.succ i) l
      | false => (i, false) :: planFrom T q (Nat.succ i) l
def planQ (T : Tab) (ops : List Oper) : List (Nat × Bool) := planFrom.app (planFrom T true 0 ops) (planFrom T false 0 ops)
where planFrom.app : List (Nat × Bool) → List (Nat × Bool) → List (Nat × Bool)
  | [], m => m
  | x :: l, m => x :: planFrom.app l m

end Go.Proofs.YtjafamiaahabgaaGreatDoor

namespace Go.Proofs.YtjafamiaahabgaaGreatDoor
set_option linter.unusedVariables false
set_option linter.unusedSimpArgs false

inductive Pl where
  | nil
  | q (i : Nat) (r : Pl)
  | alt (i : Nat) (r more : Pl)
  | stop

def Pl.len : Pl → Nat
  | .nil => 0
  | .q _ r => r.len + 1
  | .alt _ r _ => r.len + 1
  | .stop => 0
def Pl.heads : Pl → List Nat
  | .alt i _ m => i :: m.heads
  | _ => []
def Pl.isStop : Pl → Bool
  | .stop => true
  | _ => false

def schedT (ops : Array Oper) : Pl → Option Nat → Array Bool → Bool
  | .stop, md, _ => md.isSome
  | .nil, md, l => md.isNone && (Region.ready .any ops l).isEmpty
  | .q i r, md, l => md.isNone && (Region.ready .any ops l).contains i && Region.free .any ops l i && schedT ops r none (l.setIfInBounds i true)
  | .alt i r m, md, l => (match md with
    | none => decide (Region.ready .any ops l = i :: m.heads)
    | some n => Nat.beq r.len n) && schedT ops r none (l.setIfInBounds i true) && schedT ops m (some r.len) l

/-- two ways, both to be gone -/
structure Both (A B : Prop) : Prop where
  i ::
  o : A ∧ B
theorem Both.mk {A B : Prop} (h : A) (h' : B) : Both A B := ⟨⟨h, h'⟩⟩

def heldT (P : Program) (T : Tab) (N : Nat) (C : World → Prop) (all : List Oper) : Pl → Env → World → (Env → World → Prop) → Prop
  | .nil, e, w, K => K e w
  | .stop, e, w, K => True
  | .q i r, e, w, K => match lget all i with
    | none => False
    | some o => guardV all o.guard e (fun e => holdV P T C o e fun v => putV N o.dst v e fun e' => heldT P T N C all r e' w K) (fun e => putV N o.dst undef e fun e' => heldT P T N C all r e' w K)
  | .alt i r m, e, w, K => match lget all i with
    | none => False
    | some o => match m.isStop with
      | true => stepV P T N all o e w fun e' w' => C w' ∧ heldT P T N C all r e' w' K
      | false => Both (stepV P T N all o e w fun e' w' => C w' ∧ heldT P T N C all r e' w' K) (heldT P T N C all m e w K)

theorem heldT_alt {P : Program} {T : Tab} {N : Nat} {C : World → Prop} {all : List Oper} {i : Nat} {r m : Pl} {e : Env} {w : World} {K : Env → World → Prop} (h : heldT P T N C all (.alt i r m) e w K) :
    ∃ o, lget all i = some o ∧ (stepV P T N all o e w fun e' w' => C w' ∧ heldT P T N C all r e' w' K) ∧ (m.isStop = false → heldT P T N C all m e w K) := by
  unfold heldT at h
  split at h
  · exact h.elim
  · rename_i o ho
    split at h
    · rename_i hm
      exact ⟨o, ho, h, fun h' => by rw [hm] at h'; cases h'⟩
    · exact ⟨o, ho, h.o.1, fun _ => h.o.2⟩

theorem heldT_any {P : Program} {T : Tab} (hT : TabOk P T) {N : Nat} {C : World → Prop} {all : List Oper} {Q : Exit → Act → World → Prop} {K : Env → World → Prop} (hns : Region.noSelect all.toArray = true)
    (hQ : ∀ e a w, Fits N e a → K e w → Q .normal a w) (hQp : ∀ c a w, ¬ Q (.panic c) a w) : ∀ (pl : Pl) (listed : Array Bool) (e : Env) (a : Act) (w : World), Fits N e a → C w → 
      (schedT all.toArray pl none listed = true → heldT P T N C all pl e w K → wpAnyH P .any all.toArray Q C pl.len listed a w) ∧
      (∀ n, schedT all.toArray pl (some n) listed = true → (pl.isStop = false → heldT P T N C all pl e w K) → ∀ j ∈ pl.heads, wpOp P all.toArray Q j (fun a' w' => C w' ∧ wpAnyH P .any all.toArray Q C n (listed.setIfInBounds j true) a' w') a w)
  | .nil, listed, e, a, w, ha, hC => by
    refine ⟨fun hB h => ?_, fun n hB _ j hj => by simp [Pl.heads] at hj⟩
    simp only [schedT, Option.isNone_none, Bool.true_and, List.isEmpty_iff] at hB
    exact wpAnyH_done hB (hQ e a w ha h) 0
  | .stop, listed, e, a, w, ha, hC => by
    refine ⟨fun hB h => ?_, fun n hB _ j hj => by simp [Pl.heads] at hj⟩
    simp [schedT] at hB
  | .q i r, listed, e, a, w, ha, hC => by
    refine ⟨fun hB h => ?_, fun n hB _ j hj => by simp [Pl.heads] at hj⟩
    simp only [schedT, Option.isNone_none, Bool.true_and, Bool.and_eq_true] at hB
    obtain ⟨⟨hr, hf⟩, hB⟩ := hB
    simp only [heldT] at h
    split at h
    · exact h.elim
    rename_i o ho
    rw [lget_eq] at ho
    have ho' : all.toArray[i]? = some o := by simpa using ho
    rcases guardV_wanted ha h with ⟨hw, e', ha', h'⟩ | ⟨hw, e', ha', h'⟩
    · obtain ⟨v, hv, hk⟩ := holdV_held hT ha' o h'
      obtain ⟨e2, ha2, hk2⟩ := putV_fits ha' hk
      exact wpAnyH_take ho' hns hf hr (fun c a w hq => (hQp c _ w hq).elim) (.inl ⟨hw, hv⟩) hC ((heldT_any hT hns hQ hQp r _ e2 _ w ha2 hC).1 hB hk2)
    · obtain ⟨e2, ha2, hk2⟩ := putV_fits ha' h'
      exact wpAnyH_take ho' hns hf hr (fun c a w hq => (hQp c _ w hq).elim) (.inr ⟨hw, rfl⟩) hC ((heldT_any hT hns hQ hQp r _ e2 _ w ha2 hC).1 hB hk2)
  | .alt i r m, listed, e, a, w, ha, hC => by
    have one : schedT all.toArray r none (listed.setIfInBounds i true) = true → ∀ o, lget all i = some o → (stepV P T N all o e w fun e' w' => C w' ∧ heldT P T N C all r e' w' K) →
        wpOp P all.toArray Q i (fun a' w' => C w' ∧ wpAnyH P .any all.toArray Q C r.len (listed.setIfInBounds i true) a' w') a w := by
      intro hB o ho h
      rw [lget_eq] at ho
      have ho' : all.toArray[i]? = some o := by simpa using ho
      unfold wpOp
      simp only [ho']
      simp only [stepV] at h
      rcases guardV_wanted ha h with ⟨hw, e', ha', h'⟩ | ⟨hw, e', ha', h'⟩
      · rw [if_pos hw]
        refine .inl (Oper.wp_mono (fun a' w' ⟨v, he, hk⟩ => ?_) (opV_wp hT ha' o h'))
        subst he
        obtain ⟨e2, ha2, hC2, hk2⟩ := putV_fits ha' hk
        exact ⟨hC2, (heldT_any hT hns hQ hQp r _ e2 _ w' ha2 hC2).1 hB hk2⟩
      · rw [if_neg (by simp [hw])]
        obtain ⟨e2, ha2, hC2, hk2⟩ := putV_fits ha' h'
        exact ⟨hC2, (heldT_any hT hns hQ hQp r _ e2 _ w ha2 hC2).1 hB hk2⟩
    refine ⟨fun hB h => ?_, fun n hB h j hj => ?_⟩
    · simp only [schedT, Bool.and_eq_true, decide_eq_true_eq] at hB
      obtain ⟨⟨hr, hB⟩, hB2⟩ := hB
      obtain ⟨o, ho, h1, h2⟩ := heldT_alt h
      have hm := (heldT_any hT hns hQ hQp m listed e a w ha hC).2 _ hB2 h2
      refine wpAnyH_all hr (by simp) fun j hj => ?_
      rcases List.mem_cons.1 hj with rfl | hj
      · exact one hB o ho h1
      · exact hm j hj
    · simp only [schedT, Bool.and_eq_true] at hB
      obtain ⟨⟨hr, hB⟩, hB2⟩ := hB
      obtain ⟨o, ho, h1, h2⟩ := heldT_alt (h rfl)
      have hn := Nat.eq_of_beq_eq_true hr
      have hm := (heldT_any hT hns hQ hQp m listed e a w ha hC).2 _ hB2 h2
      rw [← hn]
      rcases List.mem_cons.1 hj with rfl | hj
      · exact one hB o ho h1
      · exact hm j hj

def treeB (ops : Array Oper) (pl : Pl) : Bool := Region.noSelect ops && Nat.beq pl.len ops.size && schedT ops pl none (Array.replicate ops.size false)

theorem V.tree {P : Program} {T : Tab} (hT : TabOk P T) {N : Nat} {Q : Exit → Env → World → Prop} {e : Env} {w : World} {id : Nat} {ops : Array Oper} (C : World → Prop) (pl : Pl) (hm : P.follows .mixedOrders = true)
    (hB : treeB ops pl = true) (hC : C w.drew) (h : heldT P T N C ops.toList pl e w.drew fun e' w' => Q .normal e' w') : V P N (.region id ops true) Q e w := by
  simp only [treeB, Bool.and_eq_true] at hB
  obtain ⟨⟨hns, hl⟩, hB⟩ := hB
  have hl' : pl.len = ops.size := Nat.eq_of_beq_eq_true hl
  refine .mk fun a ha => ?_
  refine wp_mono (Q := fun x a' w' => x = .normal ∧ ∃ e', Fits N e' a' ∧ Q .normal e' w') (wp_region_held (S := C) hm ?_) fun x a' w' ⟨hx, e', hf, hq⟩ => by subst hx; exact ⟨e', hf, hq⟩
  have := (heldT_any hT (N := N) (C := C) (all := ops.toList) (Q := fun x a' w' => x = .normal ∧ ∃ e', Fits N e' a' ∧ Q .normal e' w') (by simpa using hns) (fun e a w hf hk => ⟨rfl, e, hf, hk⟩) (fun c a w hq => by cases hq.1) pl _ e a w.drew ha hC).1 (by simpa using hB) h
  rw [hl'] at this
  simpa using this
end Go.Proofs.YtjafamiaahabgaaGreatDoor

namespace Go.Proofs.YtjafamiaahabgaaGreatDoor
set_option linter.unusedVariables false
set_option linter.unusedSimpArgs false

theorem ofInt_nat (n a : Nat) (ha : a < 2 ^ n) : (BitVec.ofInt n (a : Int)).toNat = a := by
  rw [BitVec.ofInt_natCast, BitVec.toNat_ofNat]; exact Nat.mod_eq_of_lt ha

theorem bits_and (k : IntKind) (a b : Nat) (ha : a < 2 ^ k.bits) (hb : b < 2 ^ k.bits) (hw : ∀ r : Nat, r ≤ a → k.wrap (r : Int) = r) : bits .and k a b = ((a &&& b : Nat) : Int) := by
  show k.wrap ((BitVec.ofInt k.bits (a : Int) &&& BitVec.ofInt k.bits (b : Int)).toNat : Int) = _
  rw [BitVec.toNat_and, ofInt_nat _ a ha, ofInt_nat _ b hb]
  exact hw _ Nat.and_le_left
theorem bits_or (k : IntKind) (a b n : Nat) (ha : a < 2 ^ n) (hb : b < 2 ^ n) (hn : n ≤ k.bits) (hw : ∀ r : Nat, r < 2 ^ n → k.wrap (r : Int) = r) : bits .or k a b = ((a ||| b : Nat) : Int) := by
  have h2 : 2 ^ n ≤ 2 ^ k.bits := Nat.pow_le_pow_right (by omega) hn
  show k.wrap ((BitVec.ofInt k.bits (a : Int) ||| BitVec.ofInt k.bits (b : Int)).toNat : Int) = _
  rw [BitVec.toNat_or, ofInt_nat _ a (by omega), ofInt_nat _ b (by omega)]
  exact hw _ (Nat.or_lt_two_pow ha hb)
theorem bits_xor (k : IntKind) (a b n : Nat) (ha : a < 2 ^ n) (hb : b < 2 ^ n) (hn : n ≤ k.bits) (hw : ∀ r : Nat, r < 2 ^ n → k.wrap (r : Int) = r) : bits .xor k a b = ((a ^^^ b : Nat) : Int) := by
  have h2 : 2 ^ n ≤ 2 ^ k.bits := Nat.pow_le_pow_right (by omega) hn
  show k.wrap ((BitVec.ofInt k.bits (a : Int) ^^^ BitVec.ofInt k.bits (b : Int)).toNat : Int) = _
  rw [BitVec.toNat_xor, ofInt_nat _ a (by omega), ofInt_nat _ b (by omega)]
  exact hw _ (Nat.xor_lt_two_pow ha hb)

theorem wrap_u8n (r : Nat) (h : r < 256) : IntKind.u8.wrap (r : Int) = r := IntWalk.u8_in _ ⟨by omega, by omega⟩
theorem wrap_u32n (r : Nat) (h : r < 4294967296) : IntKind.u32.wrap (r : Int) = r := IntWalk.u32_in _ ⟨by omega, by omega⟩
theorem wrap_u64n (r : Nat) (h : r < 18446744073709551616) : IntKind.u64.wrap (r : Int) = r := IntWalk.u64_in _ ⟨by omega, by omega⟩
theorem wrap_i64n (r : Nat) (h : r < 9223372036854775808) : IntKind.i64.wrap (r : Int) = r := IntWalk.i64_in _ ⟨by omega, by omega⟩

theorem and_u8 (a b : Nat) (ha : a < 256) (hb : b < 256) : bits .and .u8 a b = ((a &&& b : Nat) : Int) := bits_and .u8 a b ha hb fun r hr => wrap_u8n r (by omega)
theorem or_u8 (a b : Nat) (ha : a < 256) (hb : b < 256) : bits .or .u8 a b = ((a ||| b : Nat) : Int) := bits_or .u8 a b 8 ha hb (by decide) fun r hr => wrap_u8n r hr
theorem xor_u8 (a b : Nat) (ha : a < 256) (hb : b < 256) : bits .xor .u8 a b = ((a ^^^ b : Nat) : Int) := bits_xor .u8 a b 8 ha hb (by decide) fun r hr => wrap_u8n r hr
theorem and_u32 (a b : Nat) (ha : a < 4294967296) (hb : b < 4294967296) : bits .and .u32 a b = ((a &&& b : Nat) : Int) := bits_and .u32 a b ha hb fun r hr => wrap_u32n r (by omega)
theorem or_u32 (a b : Nat) (ha : a < 4294967296) (hb : b < 4294967296) : bits .or .u32 a b = ((a ||| b : Nat) : Int) := bits_or .u32 a b 32 ha hb (by decide) fun r hr => wrap_u32n r hr
theorem xor_u32 (a b : Nat) (ha : a < 4294967296) (hb : b < 4294967296) : bits .xor .u32 a b = ((a ^^^ b : Nat) : Int) := bits_xor .u32 a b 32 ha hb (by decide) fun r hr => wrap_u32n r hr
theorem and_u64 (a b : Nat) (ha : a < 18446744073709551616) (hb : b < 18446744073709551616) : bits .and .u64 a b = ((a &&& b : Nat) : Int) := bits_and .u64 a b ha hb fun r hr => wrap_u64n r (by omega)
theorem or_u64 (a b : Nat) (ha : a < 18446744073709551616) (hb : b < 18446744073709551616) : bits .or .u64 a b = ((a ||| b : Nat) : Int) := bits_or .u64 a b 64 ha hb (by decide) fun r hr => wrap_u64n r hr
theorem xor_u64 (a b : Nat) (ha : a < 18446744073709551616) (hb : b < 18446744073709551616) : bits .xor .u64 a b = ((a ^^^ b : Nat) : Int) := bits_xor .u64 a b 64 ha hb (by decide) fun r hr => wrap_u64n r hr
theorem and_i64 (a b : Nat) (ha : a < 9223372036854775808) (hb : b < 9223372036854775808) : bits .and .i64 a b = ((a &&& b : Nat) : Int) :=
  bits_and .i64 a b (Nat.lt_trans ha (by decide)) (Nat.lt_trans hb (by decide)) fun r hr => wrap_i64n r (by omega)
theorem or_i64 (a b : Nat) (ha : a < 9223372036854775808) (hb : b < 9223372036854775808) : bits .or .i64 a b = ((a ||| b : Nat) : Int) := bits_or .i64 a b 63 ha hb (by decide) fun r hr => wrap_i64n r hr
theorem xor_i64 (a b : Nat) (ha : a < 9223372036854775808) (hb : b < 9223372036854775808) : bits .xor .i64 a b = ((a ^^^ b : Nat) : Int) := bits_xor .i64 a b 63 ha hb (by decide) fun r hr => wrap_i64n r hr

/-- a shift to the right of a number that is not below nought -/
theorem shr_nat (a : Nat) (y : Int) (b : Nat) (k : IntKind) (hy : y = b) (hb : b < k.bits) : (a : Int).fdiv (2 ^ (min y.toNat k.bits)) = ((a / 2 ^ b : Nat) : Int) := by
  subst hy
  rw [Int.toNat_natCast, Nat.min_eq_left (Nat.le_of_lt hb), Int.fdiv_eq_ediv_of_nonneg _ (by exact Int.le_of_lt (Int.pow_pos (by decide)))]
  simp
theorem tdiv_nat (a b : Nat) : (a : Int).tdiv (b : Int) = ((a / b : Nat) : Int) := by
  rw [Int.tdiv_eq_ediv_of_nonneg (by omega)]; simp
theorem tmod_nat (a b : Nat) : (a : Int).tmod (b : Int) = ((a % b : Nat) : Int) := by
  rw [Int.tmod_eq_emod_of_nonneg (by omega)]; simp
theorem and15 (a : Nat) : a &&& 15 = a % 16 := Nat.and_two_pow_sub_one_eq_mod a 4

section
variable {k : IntKind} {a b : Int} {K : Int → Prop}
theorem Shl.at (n p : Nat) (hb : b = n) (hn : n ≤ k.bits) (hp : 2 ^ n = p) (h : Ar k (a * p) K) : Shl k a b K := by
  subst hb
  refine Shl.mk (by omega) ?_
  rw [Int.toNat_natCast, Nat.min_eq_left hn]
  have : (2 : Int) ^ n = (p : Int) := by rw [← hp]; simp
  rw [this]
  exact h.out
theorem Shr.at (x n p : Nat) (ha : a = x) (hb : b = n) (hn : n ≤ k.bits) (hp : 2 ^ n = p) (h : K ((x / p : Nat) : Int)) : Shr k a b K := by
  subst hb; subst ha
  refine Shr.mk (by omega) ?_
  rw [Int.toNat_natCast, Nat.min_eq_left hn, Int.fdiv_eq_ediv_of_nonneg _ (by exact Int.le_of_lt (Int.pow_pos (by decide)))]
  have : (2 : Int) ^ n = (p : Int) := by rw [← hp]; simp
  rw [this]
  exact h
theorem Shl.u8 (n p : Nat) (hb : b = n) (hn : n ≤ 8) (hp : 2 ^ n = p) (h : Ar .u8 (a * p) K) : Shl .u8 a b K := Shl.at n p hb hn hp h
theorem Shr.u8 (x n p : Nat) (ha : a = x) (hb : b = n) (hn : n ≤ 8) (hp : 2 ^ n = p) (h : K ((x / p : Nat) : Int)) : Shr .u8 a b K := Shr.at x n p ha hb hn hp h
theorem Shl.u32 (n p : Nat) (hb : b = n) (hn : n ≤ 32) (hp : 2 ^ n = p) (h : Ar .u32 (a * p) K) : Shl .u32 a b K := Shl.at n p hb hn hp h
theorem Shr.u32 (x n p : Nat) (ha : a = x) (hb : b = n) (hn : n ≤ 32) (hp : 2 ^ n = p) (h : K ((x / p : Nat) : Int)) : Shr .u32 a b K := Shr.at x n p ha hb hn hp h
theorem Shl.u64 (n p : Nat) (hb : b = n) (hn : n ≤ 64) (hp : 2 ^ n = p) (h : Ar .u64 (a * p) K) : Shl .u64 a b K := Shl.at n p hb hn hp h
theorem Shr.u64 (x n p : Nat) (ha : a = x) (hb : b = n) (hn : n ≤ 64) (hp : 2 ^ n = p) (h : K ((x / p : Nat) : Int)) : Shr .u64 a b K := Shr.at x n p ha hb hn hp h
theorem Shl.i64 (n p : Nat) (hb : b = n) (hn : n ≤ 64) (hp : 2 ^ n = p) (h : Ar .i64 (a * p) K) : Shl .i64 a b K := Shl.at n p hb hn hp h
theorem Shr.i64 (x n p : Nat) (ha : a = x) (hb : b = n) (hn : n ≤ 64) (hp : 2 ^ n = p) (h : K ((x / p : Nat) : Int)) : Shr .i64 a b K := Shr.at x n p ha hb hn hp h
theorem Quo.at (x y : Nat) (ha : a = x) (hb : b = y) (hy : 0 < y) (h : Ar k ((x / y : Nat) : Int) K) : Quo k a b K := by
  subst hb; subst ha
  exact Quo.mk (by omega) (by rw [tdiv_nat]; exact h.out)
theorem Rem.at (x y : Nat) (ha : a = x) (hb : b = y) (hy : 0 < y) (h : K ((x % y : Nat) : Int)) : Rem k a b K := by
  subst hb; subst ha
  exact Rem.mk (by omega) (by rw [tmod_nat]; exact h)
theorem Bt.and8 (x y : Nat) (ha : a = x) (hb : b = y) (hx : x < 256) (hy : y < 256) (h : K ((x &&& y : Nat) : Int)) : Bt .and .u8 a b K := by subst hb; subst ha; exact Bt.mk (by rw [and_u8 x y hx hy]; exact h)
theorem Bt.or8 (x y : Nat) (ha : a = x) (hb : b = y) (hx : x < 256) (hy : y < 256) (h : K ((x ||| y : Nat) : Int)) : Bt .or .u8 a b K := by subst hb; subst ha; exact Bt.mk (by rw [or_u8 x y hx hy]; exact h)
theorem Bt.xor8 (x y : Nat) (ha : a = x) (hb : b = y) (hx : x < 256) (hy : y < 256) (h : K ((x ^^^ y : Nat) : Int)) : Bt .xor .u8 a b K := by subst hb; subst ha; exact Bt.mk (by rw [xor_u8 x y hx hy]; exact h)
theorem Bt.and32 (x y : Nat) (ha : a = x) (hb : b = y) (hx : x < 4294967296) (hy : y < 4294967296) (h : K ((x &&& y : Nat) : Int)) : Bt .and .u32 a b K := by subst hb; subst ha; exact Bt.mk (by rw [and_u32 x y hx hy]; exact h)
theorem Bt.or32 (x y : Nat) (ha : a = x) (hb : b = y) (hx : x < 4294967296) (hy : y < 4294967296) (h : K ((x ||| y : Nat) : Int)) : Bt .or .u32 a b K := by subst hb; subst ha; exact Bt.mk (by rw [or_u32 x y hx hy]; exact h)
theorem Bt.xor32 (x y : Nat) (ha : a = x) (hb : b = y) (hx : x < 4294967296) (hy : y < 4294967296) (h : K ((x ^^^ y : Nat) : Int)) : Bt .xor .u32 a b K := by subst hb; subst ha; exact Bt.mk (by rw [xor_u32 x y hx hy]; exact h)
theorem Bt.and64 (x y : Nat) (ha : a = x) (hb : b = y) (hx : x < 18446744073709551616) (hy : y < 18446744073709551616) (h : K ((x &&& y : Nat) : Int)) : Bt .and .u64 a b K := by subst hb; subst ha; exact Bt.mk (by rw [and_u64 x y hx hy]; exact h)
theorem Bt.or64 (x y : Nat) (ha : a = x) (hb : b = y) (hx : x < 18446744073709551616) (hy : y < 18446744073709551616) (h : K ((x ||| y : Nat) : Int)) : Bt .or .u64 a b K := by subst hb; subst ha; exact Bt.mk (by rw [or_u64 x y hx hy]; exact h)
theorem Bt.xor64 (x y : Nat) (ha : a = x) (hb : b = y) (hx : x < 18446744073709551616) (hy : y < 18446744073709551616) (h : K ((x ^^^ y : Nat) : Int)) : Bt .xor .u64 a b K := by subst hb; subst ha; exact Bt.mk (by rw [xor_u64 x y hx hy]; exact h)
theorem Bt.andI (x y : Nat) (ha : a = x) (hb : b = y) (hx : x < 9223372036854775808) (hy : y < 9223372036854775808) (h : K ((x &&& y : Nat) : Int)) : Bt .and .i64 a b K := by subst hb; subst ha; exact Bt.mk (by rw [and_i64 x y hx hy]; exact h)
theorem Bt.orI (x y : Nat) (ha : a = x) (hb : b = y) (hx : x < 9223372036854775808) (hy : y < 9223372036854775808) (h : K ((x ||| y : Nat) : Int)) : Bt .or .i64 a b K := by subst hb; subst ha; exact Bt.mk (by rw [or_i64 x y hx hy]; exact h)
theorem Bt.xorI (x y : Nat) (ha : a = x) (hb : b = y) (hx : x < 9223372036854775808) (hy : y < 9223372036854775808) (h : K ((x ^^^ y : Nat) : Int)) : Bt .xor .i64 a b K := by subst hb; subst ha; exact Bt.mk (by rw [xor_i64 x y hx hy]; exact h)
end

theorem Ar.m8 {z : Int} {K : Int → Prop} (x : Nat) (hz : z = x) (h : K ((x % 256 : Nat) : Int)) : Ar .u8 z K := by
  subst hz; exact Ar.mk (by rw [IntKind.wrap_u8]; simpa using h)
theorem Ar.m32 {z : Int} {K : Int → Prop} (x : Nat) (hz : z = x) (h : K ((x % 4294967296 : Nat) : Int)) : Ar .u32 z K := by
  subst hz; exact Ar.mk (by rw [IntKind.wrap_u32]; simpa using h)
theorem Ar.m64 {z : Int} {K : Int → Prop} (x : Nat) (hz : z = x) (h : K ((x % 18446744073709551616 : Nat) : Int)) : Ar .u64 z K := by
  subst hz; exact Ar.mk (by rw [IntKind.wrap_u64]; simpa using h)
theorem neg8 (c : Nat) (h : c < 2) : IntKind.u8.wrap (-(c : Int)) = ((255 * c : Nat) : Int) := by
  rcases (by omega : c = 0 ∨ c = 1) with rfl | rfl <;> decide
theorem Ar.neg8 {z : Int} {K : Int → Prop} (c : Nat) (hc : c < 2) (hz : z = -(c : Int)) (h : K ((255 * c : Nat) : Int)) : Ar .u8 z K := by
  subst hz; exact Ar.mk (by rw [Go.Proofs.YtjafamiaahabgaaGreatDoor.neg8 c hc]; exact h)
theorem and1 (a : Nat) : a &&& 1 = a % 2 := Nat.and_two_pow_sub_one_eq_mod a 1
theorem xor_lt8 {a b : Nat} (ha : a < 256) (hb : b < 256) : a ^^^ b < 256 := Nat.xor_lt_two_pow (n := 8) ha hb
theorem Ar.mi {z : Int} {K : Int → Prop} (x : Nat) (hz : z = x) (hx : x < 9223372036854775808) (h : K (x : Int)) : Ar .i64 z K := by
  subst hz; exact Ar.mk (by rw [wrap_i64n x hx]; exact h)

end Go.Proofs.YtjafamiaahabgaaGreatDoor
namespace Go.Proofs.YtjafamiaahabgaaGreatDoor
open Go.RowKit
set_option linter.unusedVariables false
set_option linter.unusedSimpArgs false

section
variable {P : Program} {T : Tab} (hT : TabOk P T)
include hT
theorem Ld.one {w : World} {t : TypeId} {a : Addr} {K : Value → Prop} {v : Value} {d : Td} (hl : look T t = some d) (ha : d.sh.agg = false) (hc : w.cell? a = some v) (hk : K v) : Ld P w t a K := by
  refine Ld.mk ?_ hk
  have h1 := (hT _ _ hl).run_agg w
  rw [ha] at h1
  simp only [loadVar, Sem.run_bind, h1, Result.andThen_ok, Bool.false_eq_true, if_false, run_load, hc]

omit hT in
theorem loadCellsFrom_run {w : World} {a : Addr} : ∀ (vs : List Value) (i : Nat) (acc : Array Value), (∀ j x, vs[j]? = some x → w.cell? (a.add (i + j)) = some x) →
    (loadCellsFrom a i vs.length acc).run P w = .ok (acc ++ vs.toArray) w
  | [], _, _, _ => by simp [loadCellsFrom]
  | v :: vs, i, acc, h => by
    have h0 := h 0 v (by simp)
    simp only [Nat.add_zero] at h0
    have := loadCellsFrom_run vs (i + 1) (acc.push v) (fun j x hj => by have := h (j + 1) x (by simpa using hj); rwa [show i + (j + 1) = i + 1 + j from by omega] at this)
    simp only [List.length_cons, loadCellsFrom, Sem.run_bind, run_load, h0, Result.andThen_ok, this]
    simp

theorem Ld.agg {w : World} {t : TypeId} {b o : Nat} {K : Value → Prop} {vs : List Value} {d : Td} (hl : look T t = some d) (ha : d.sh.agg = true) (hn : vs.length = d.size)
    (hc : ∀ j x, vs[j]? = some x → w.cell? ⟨b, o + j, none⟩ = some x) (hk : K (.agg vs.toArray)) : Ld P w t ⟨b, o, none⟩ K := by
  refine Ld.mk ?_ hk
  have h1 := (hT _ _ hl).run_agg w
  rw [ha] at h1
  have h2 := (hT _ _ hl).run_size w
  have h3 := loadCellsFrom_run (P := P) (w := w) (a := ⟨b, o, none⟩) vs 0 #[] (fun j x hj => by rw [Addr.add_lit, Nat.zero_add]; exact hc j x hj)
  rw [hn] at h3
  simp only [loadVar, Sem.run_bind, h1, Result.andThen_ok, if_true, h2, loadCells, h3, Sem.run_pure]
  simp

theorem St.one {w : World} {t : TypeId} {a : Addr} {K : World → Prop} {v u : Value} {d : Td} (hl : look T t = some d) (hs : d.size = 1) (hv : cellsL v = [v]) (h1 : v.oneCell' = true) (hc : w.cell? a = some u) (hf : w.frozen? a = false) (hk : K (w.setCell a v)) : St P w t a v K := by
  refine St.mk ?_ hk
  have hz := (hT _ _ hl).run_size w
  rw [hs] at hz
  have hcs : v.cells = #[v] := by rw [cellsL_eq, hv]
  have hst : (store (a.add 0) v).run P w = .ok () (w.setCell a v) := by
    rw [run_store P w _ v _ h1]
    simp [Addr.add, hc, hf]
  simp [storeVar, hz, hcs, storeCells, hst]

/-- a store of several cells -/
theorem St.agg {w : World} {t : TypeId} {b o : Nat} {K : World → Prop} {vs : List Value} {e : TypeId} {cur : Array Value} {d : Td} (hl : look T t = some d) (hn : vs.length = d.size) (h1 : ∀ u ∈ vs, u.oneCell' = true)
    (hg : w.heap[b]? = some (.cells cur e (0, 0))) (hfit : o + vs.length ≤ cur.size)
    (hk : K (w.setRow b (cur.toList.take o ++ vs ++ cur.toList.drop (o + vs.length)).toArray)) : St P w t ⟨b, o, none⟩ (.agg vs.toArray) K := by
  refine St.mk ?_ hk
  have hz := (hT _ _ hl).run_size w
  have := run_storeCells_at P b o e vs 0 cur w hg (by simpa using hfit) h1
  simp only [Nat.add_zero] at this
  simp [storeVar, hz, Value.cells, hn, this]
end

/-! ### A row of cells; a slice that is read -/
/-- block b holds these from o on -/
def Row (w : World) (b o : Nat) (xs : List Value) : Prop := ∀ i x, xs[i]? = some x → w.cell? ⟨b, o + i, none⟩ = some x

theorem Row.at {w : World} {b o : Nat} {xs : List Value} (h : Row w b o xs) {i : Nat} {x : Value} (hx : xs[i]? = some x) {o' : Nat} (ho : o' = o + i) : w.cell? ⟨b, o', none⟩ = some x := by
  subst ho; exact h i x hx
theorem Row.drop {w : World} {b o : Nat} {xs : List Value} (h : Row w b o xs) (k : Nat) : Row w b (o + k) (xs.drop k) := fun i x hx => by
  rw [Nat.add_assoc]
  exact h (k + i) x (by simpa using hx)
theorem Row.take {w : World} {b o : Nat} {xs : List Value} (h : Row w b o xs) (k : Nat) : Row w b o (xs.take k) := fun i x hx => by
  rw [List.getElem?_take] at hx
  split at hx
  · exact h i x hx
  · cases hx
theorem Row.left {w : World} {b o : Nat} {xs ys : List Value} (h : Row w b o (xs ++ ys)) : Row w b o xs := fun i x hx => by
  have := (List.getElem?_eq_some_iff.1 hx).1
  exact h i x (by rw [List.getElem?_append_left this]; exact hx)
theorem Row.of_block {w w' : World} {b o : Nat} {xs : List Value} (h : Row w b o xs) (hb : w'.heap[b]? = w.heap[b]?) : Row w' b o xs := fun i x hx => by
  have := h i x hx
  rwa [World.cell?_of_block (w := w) (w' := w') (a := ⟨b, o + i, none⟩) hb]
theorem Row.lt {w : World} {b o : Nat} {xs : List Value} (h : Row w b o xs) (hx : xs ≠ []) : b < w.heap.size := by
  cases xs with
  | nil => exact absurd rfl hx
  | cons x xs => exact World.block_lt_of_cell? w _ (h 0 x (by simp))

/-- a slice of one-cell elements that may be read -/
structure Sl (w : World) (v : Value) (xs : List Value) : Prop where
  of : ∃ a c, v = .slice a xs.length c ∧ xs.length ≤ c ∧ c ≤ maxLen ∧ (a = none → c = 0) ∧ (∀ ad, a = some ad → xs ≠ [] → ad.spot = none ∧ Row w ad.block ad.off xs)

theorem Row.cells {w : World} {ad : Addr} {xs : List Value} (h : xs ≠ [] → ad.spot = none ∧ Row w ad.block ad.off xs) : ∀ j u, xs[j]? = some u → w.cell? (ad.add j) = some u := fun j u hj => by
  obtain ⟨h1, h2⟩ := h (fun e => by subst e; simp at hj)
  obtain ⟨b, o, s⟩ := ad
  simp only at h1; subst h1
  rw [Addr.add_lit]
  exact h2 j u hj
theorem Row.of_cells {w : World} {b o : Nat} {xs : List Value} (h : ∀ j u, xs[j]? = some u → w.cell? ((⟨b, o, none⟩ : Addr).add j) = some u) : Row w b o xs := fun j u hj => by
  have := h j u hj
  rwa [Addr.add_lit] at this
/-- an empty one may lie anywhere -/
theorem Sl.cases {w : World} {v : Value} {xs : List Value} (h : Sl w v xs) : (v = .slice none 0 0 ∧ xs = []) ∨ ∃ ad c, v = .slice (some ad) xs.length c ∧ xs.length ≤ c ∧ c ≤ maxLen ∧ (∀ j u, xs[j]? = some u → w.cell? (ad.add j) = some u) := by
  obtain ⟨a, c, rfl, h1, h2, h3, h4⟩ := h.of
  cases a with
  | none =>
    have hc := h3 rfl
    subst hc
    have hx : xs = [] := List.eq_nil_of_length_eq_zero (by omega)
    subst hx
    exact .inl ⟨rfl, rfl⟩
  | some ad => exact .inr ⟨ad, c, rfl, h1, h2, Row.cells (h4 _ rfl)⟩
theorem Sl.shape {w : World} {v : Value} {xs : List Value} (h : Sl w v xs) : ∃ a c, v = .slice a xs.length c := by
  obtain ⟨a, c, he, _⟩ := h.of
  exact ⟨a, c, he⟩
theorem Sl.nil (w : World) : Sl w (.slice none 0 0) [] := ⟨none, 0, rfl, Nat.le_refl _, by simp [maxLen], fun _ => rfl, fun _ h => by cases h⟩
theorem Sl.some' {w : World} {b o n c : Nat} {xs : List Value} (hn : n = xs.length) (hc : xs.length ≤ c) (hm : c ≤ maxLen) (h : Row w b o xs) : Sl w (.slice (some ⟨b, o, none⟩) n c) xs := by
  subst hn
  exact ⟨_, c, rfl, hc, hm, nofun, (fun ad had _ => by injection had with had; subst had; exact ⟨rfl, h⟩)⟩
theorem Sl.len {w : World} {a : Option Addr} {n c : Nat} {xs : List Value} (h : Sl w (.slice a n c) xs) : n = xs.length ∧ n ≤ c ∧ c ≤ maxLen := by
  obtain ⟨a', c', he, h1, h2, _⟩ := h.of
  injection he with _ e2 e3
  subst e3
  exact ⟨e2, by omega, h2⟩
theorem Sl.le {w : World} {v : Value} {xs : List Value} (h : Sl w v xs) : xs.length ≤ 9223372036854775807 := by
  obtain ⟨a, c, _, h1, h2, _⟩ := h.of
  simp only [maxLen] at h2
  omega
/-- where there is an element there is an address -/
theorem Sl.addr {w : World} {a : Option Addr} {n c : Nat} {xs : List Value} (h : Sl w (.slice a n c) xs) (hx : 0 < n) : ∃ b o, a = some ⟨b, o, none⟩ ∧ Row w b o xs := by
  obtain ⟨a', c', he, h1, h2, h3, h4⟩ := h.of
  injection he with e1 e2 e3
  subst e1; subst e3
  cases a with
  | none => have := h3 rfl; omega
  | some ad =>
    obtain ⟨b, o, s⟩ := ad
    obtain ⟨hs, hr⟩ := h4 _ rfl (fun e => by subst e; simp at e2; omega)
    simp only at hs; subst hs
    exact ⟨b, o, rfl, hr⟩
/-- its block, if it has one, lies below B -/
def Value.under (v : Value) (B : Nat) : Prop := ∀ k, v.ownBlock = some k → k < B
theorem Sl.keep {w w' : World} {v : Value} {xs : List Value} (h : Sl w v xs) (hb : ∀ k, v.ownBlock = some k → xs ≠ [] → w'.heap[k]? = w.heap[k]?) : Sl w' v xs := by
  obtain ⟨a, c, rfl, h1, h2, h3, h4⟩ := h.of
  exact ⟨a, c, rfl, h1, h2, h3, fun ad had hx => ⟨(h4 ad had hx).1, ((h4 ad had hx).2).of_block (hb _ (by subst had; rfl) hx)⟩⟩
/-- below B the world has stayed: what is read there is read still -/
theorem Sl.below {w w' : World} {v : Value} {xs : List Value} (h : Sl w v xs) (hb : Below w.heap.size w w') : Sl w' v xs := by
  obtain ⟨a, c, rfl, h1, h2, h3, h4⟩ := h.of
  exact ⟨a, c, rfl, h1, h2, h3, fun ad had hx => ⟨(h4 ad had hx).1, ((h4 ad had hx).2).of_block (hb.block _ ((h4 ad had hx).2.lt hx))⟩⟩
theorem Sl.of_own {w : World} {base : Nat} {e : TypeId} {v : Value} {n : Nat} {xs : List Value} (h : w.ownsRow base e 1 v n xs) : Sl w v xs := by
  have hn : xs.length = n := by simpa using h.1
  rcases h.2 with ⟨rfl, rfl⟩ | ⟨g, cap, cur, rfl, _, hg, hc, hm, hs, ht⟩
  · have : xs = [] := List.eq_nil_of_length_eq_zero hn
    subst this
    exact Sl.nil _
  · subst hn
    refine Sl.some' rfl hc hm (fun i x hx => ?_)
    have := h.cells (g := g) rfl i x hx
    rwa [Addr.add_lit] at this
theorem own_len {w : World} {base : Nat} {e : TypeId} {v : Value} {n : Nat} {xs : List Value} (h : w.ownsRow base e 1 v n xs) : n = xs.length := by simpa using h.1.symm

theorem Sl.take {w : World} {b o n c : Nat} {xs : List Value} (h : Sl w (.slice (some ⟨b, o, none⟩) n c) xs) {k : Nat} (hk : k ≤ xs.length) {c' : Nat} (h1 : k ≤ c') (h2 : c' ≤ c) : Sl w (.slice (some ⟨b, o, none⟩) k c') (xs.take k) := by
  obtain ⟨a', c0, he, e1, e2, _, e4⟩ := h.of
  injection he with he1 he2 he3
  subst he1; subst he3
  exact Sl.some' (by simp; omega) (by simp; omega) (by omega) ((Row.of_cells (Row.cells (e4 _ rfl))).take k)
theorem Sl.drop {w : World} {b o n c : Nat} {xs : List Value} (h : Sl w (.slice (some ⟨b, o, none⟩) n c) xs) {k : Nat} (hk : k ≤ xs.length) {o' n' c' : Nat} (ho : k < c → o' = o + k) (hn : n' = n - k) (hc : c' = c - k) : Sl w (.slice (some ⟨b, o', none⟩) n' c') (xs.drop k) := by
  obtain ⟨hl, hnc, hcm⟩ := h.len
  obtain ⟨a', c0, he, e1, e2, _, e4⟩ := h.of
  injection he with he1 he2 he3
  subst he1; subst he3
  by_cases hkc : k < c
  · rw [ho hkc]
    exact Sl.some' (by simp; omega) (by simp; omega) (by omega) ((Row.of_cells (Row.cells (e4 _ rfl))).drop k)
  · have : xs.drop k = [] := List.drop_eq_nil_of_le (by omega)
    rw [this]
    exact Sl.some' (by simp; omega) (by simp) (by omega) (fun i x hx => by simp at hx)

/-! ### A block that is known whole -/
def Blk (w : World) (b : Nat) (cs : List Value) (e : TypeId) : Prop := w.heap[b]? = some (.cells cs.toArray e (0, 0))
theorem Blk.cell {w : World} {b : Nat} {cs : List Value} {e : TypeId} (h : Blk w b cs e) {i : Nat} {v : Value} (hv : cs[i]? = some v) : w.cell? ⟨b, i, none⟩ = some v := by
  rw [cell_of_row w b i _ e (0, 0) h]; simpa using hv
theorem Blk.row {w : World} {b : Nat} {cs : List Value} {e : TypeId} (h : Blk w b cs e) : Row w b 0 cs := fun i x hx => by rw [Nat.zero_add]; exact h.cell hx
theorem Blk.nofz {w : World} {b : Nat} {cs : List Value} {e : TypeId} (h : Blk w b cs e) (i : Nat) : w.frozen? ⟨b, i, none⟩ = false := by
  simp only [World.frozen?, show w.heap[b]? = _ from h]
  simp
theorem Blk.lt {w : World} {b : Nat} {cs : List Value} {e : TypeId} (h : Blk w b cs e) : b < w.heap.size := (Array.getElem?_eq_some_iff.1 h).1
theorem Blk.keep {w w' : World} {b : Nat} {cs : List Value} {e : TypeId} (h : Blk w b cs e) (hb : w'.heap[b]? = w.heap[b]?) : Blk w' b cs e := hb.trans h
theorem Blk.grown {w w' : World} {b : Nat} {cs : List Value} {e : TypeId} {row : Option Nat} (h : Blk w b cs e) (hg : w.grownBy w' row) (hr : some b ≠ row) : Blk w' b cs e := h.keep (hg.block b h.lt hr)
theorem Blk.below {w w' : World} {b B : Nat} {cs : List Value} {e : TypeId} (h : Blk w b cs e) (hb : Below B w w') (hB : b < B) : Blk w' b cs e := h.keep (hb.block b hB)
theorem Blk.set {w : World} {b : Nat} {cs : List Value} {e : TypeId} (h : Blk w b cs e) (i : Nat) (v : Value) : Blk (w.setCell ⟨b, i, none⟩ v) b (cs.set i v) e := by
  have h' : w.heap[b]? = some (.cells cs.toArray e (0, 0)) := h
  unfold Blk
  simp only [World.setCell, Array.getElem?_modify, if_true, h', Option.map_some]
  simp
theorem grownBy_set (w : World) (b i : Nat) (v : Value) : w.grownBy (w.setCell ⟨b, i, none⟩ v) (some b) :=
  ⟨rfl, rfl, rfl, by simp [World.setCell], fun k hk hne => Below.heap_setCell _ _ _ _ (fun e => hne (by rw [e]))⟩
theorem grownBy_setRow (w : World) (b : Nat) (cs : Array Value) : w.grownBy (w.setRow b cs) (some b) :=
  ⟨rfl, rfl, rfl, by simp [World.setRow], fun k _ hk => setRow_other w b k _ (fun e => hk (by rw [e]))⟩

theorem Nw.cells {w : World} {K : Nat → World → Prop} {cs : List Value} {e : TypeId} (h : ∀ b w', b = w.heap.size → Blk w' b cs e → w.grownBy w' none → b < w'.heap.size → K b w') : Nw w (.cells cs.toArray e) K :=
  Nw.mk (h _ _ rfl (heap_alloc_new w _) (World.grownBy_alloc w _ none) (by simp))

section
variable {P : Program} {T : Tab} (hT : TabOk P T)
include hT
theorem Ld.blk {w : World} {t e : TypeId} {b i : Nat} {cs : List Value} {K : Value → Prop} {v : Value} {d : Td} (hl : look T t = some d) (ha : d.sh.agg = false) (hb : Blk w b cs e) (hv : cs[i]? = some v) (hk : K v) : Ld P w t ⟨b, i, none⟩ K :=
  Ld.one hT hl ha (hb.cell hv) hk
theorem St.blk {w : World} {t e : TypeId} {b i : Nat} {cs : List Value} {K : World → Prop} {v : Value} {d : Td} (hl : look T t = some d) (hs : d.size = 1) (hb : Blk w b cs e) (hi : i < cs.length) (hv : cellsL v = [v]) (h1 : v.oneCell' = true)
    (hk : ∀ w', Blk w' b (cs.set i v) e → w.grownBy w' (some b) → K w') : St P w t ⟨b, i, none⟩ v K :=
  St.one hT hl hs hv h1 (hb.cell (List.getElem?_eq_getElem hi)) (hb.nofz i) (hk _ (hb.set i v) (grownBy_set w b i v))
theorem St.blks {w : World} {t e : TypeId} {b i : Nat} {cs vs : List Value} {K : World → Prop} {d : Td} (hl : look T t = some d) (hs : vs.length = d.size) (hb : Blk w b cs e) (hi : i + vs.length ≤ cs.length) (h1 : ∀ u ∈ vs, u.oneCell' = true)
    (hk : ∀ w', Blk w' b (cs.take i ++ vs ++ cs.drop (i + vs.length)) e → w.grownBy w' (some b) → K w') : St P w t ⟨b, i, none⟩ (.agg vs.toArray) K :=
  St.agg hT hl hs h1 (show w.heap[b]? = some (.cells cs.toArray e (0, 0)) from hb) (by simpa using hi) (hk _ (by
    have := setRow_heap w b cs.toArray (cs.take i ++ vs ++ cs.drop (i + vs.length)).toArray e (0, 0) hb
    simpa [Blk] using this) (by simpa using grownBy_setRow w b _))
theorem Ld.blks {w : World} {t e : TypeId} {b i : Nat} {cs : List Value} (vs : List Value) {K : Value → Prop} {d : Td} (hl : look T t = some d) (ha : d.sh.agg = true) (hb : Blk w b cs e) (hn : vs.length = d.size) (hv : ∀ j x, vs[j]? = some x → cs[i + j]? = some x) (hk : K (.agg vs.toArray)) : Ld P w t ⟨b, i, none⟩ K :=
  Ld.agg hT hl ha hn (fun j x hx => hb.cell (hv j x hx)) hk
end

/-! ### Bytes -/
def u8 (b : UInt8) : Value := .int .u8 (b.toNat : Int)
def bv (l : List UInt8) : List Value := l.map u8
@[simp] theorem bv_length (l : List UInt8) : (bv l).length = l.length := by simp [bv]
@[simp] theorem bv_nil : bv [] = [] := rfl
theorem bv_append (l m : List UInt8) : bv (l ++ m) = bv l ++ bv m := by simp [bv]
theorem bv_take (l : List UInt8) (k : Nat) : bv (l.take k) = (bv l).take k := by simp [bv]
theorem bv_drop (l : List UInt8) (k : Nat) : bv (l.drop k) = (bv l).drop k := by simp [bv]
theorem bv_get {l : List UInt8} {i : Nat} {b : UInt8} (h : l[i]? = some b) : (bv l)[i]? = some (.int .u8 (b.toNat : Int)) := by simp [bv, h, u8]
theorem bv_one (l : List UInt8) : ∀ u ∈ bv l, u.oneCell' = true := by
  intro u hu
  obtain ⟨b, _, rfl⟩ := List.mem_map.1 hu
  rfl
theorem u8_mk (n : Int) (h0 : 0 ≤ n) (h1 : n < 256) : (.int .u8 n : Value) = u8 (UInt8.ofNat n.toNat) := by
  unfold u8
  congr 1
  simp only [UInt8.toNat_ofNat']
  omega
theorem u8_lt (b : UInt8) : (b.toNat : Int) < 256 := by have := b.toNat_lt; omega

end Go.Proofs.YtjafamiaahabgaaGreatDoor

namespace Go.Proofs.YtjafamiaahabgaaGreatDoor
open Go.RowKit
set_option linter.unusedVariables false
set_option linter.unusedSimpArgs false

/-- a slice of n elements of sz cells each that may be read -/
structure SlN (w : World) (sz : Nat) (v : Value) (n : Nat) (xs : List Value) : Prop where
  len : xs.length = n * sz
  of : ∃ a c, v = .slice a n c ∧ n ≤ c ∧ c ≤ maxLen ∧ (a = none → c = 0) ∧ (∀ ad, a = some ad → xs ≠ [] → ad.spot = none ∧ Row w ad.block ad.off xs)
theorem Sl.toN {w : World} {v : Value} {xs : List Value} (h : Sl w v xs) : SlN w 1 v xs.length xs := ⟨by simp, h.of⟩
theorem SlN.to1 {w : World} {v : Value} {n : Nat} {xs : List Value} (h : SlN w 1 v n xs) : Sl w v xs := by
  have : n = xs.length := by simpa using h.len.symm
  subst this
  exact ⟨h.of⟩
theorem SlN.cases {w : World} {sz : Nat} {v : Value} {n : Nat} {xs : List Value} (h : SlN w sz v n xs) : (v = .slice none 0 0 ∧ n = 0 ∧ xs = []) ∨ ∃ ad c, v = .slice (some ad) n c ∧ n ≤ c ∧ c ≤ maxLen ∧ (∀ j u, xs[j]? = some u → w.cell? (ad.add j) = some u) := by
  obtain ⟨a, c, rfl, h1, h2, h3, h4⟩ := h.of
  cases a with
  | none =>
    have hc := h3 rfl
    subst hc
    have hn : n = 0 := by omega
    subst hn
    exact .inl ⟨rfl, rfl, List.eq_nil_of_length_eq_zero (by simpa using h.len)⟩
  | some ad => exact .inr ⟨ad, c, rfl, h1, h2, Row.cells (h4 _ rfl)⟩
theorem SlN.nil (w : World) (sz : Nat) : SlN w sz (.slice none 0 0) 0 [] := ⟨by simp, none, 0, rfl, Nat.le_refl _, by simp [maxLen], fun _ => rfl, fun _ h => by cases h⟩
theorem SlN.some' {w : World} {sz b o n c : Nat} {xs : List Value} (hl : xs.length = n * sz) (hc : n ≤ c) (hm : c ≤ maxLen) (h : Row w b o xs) : SlN w sz (.slice (some ⟨b, o, none⟩) n c) n xs :=
  ⟨hl, _, c, rfl, hc, hm, nofun, (fun ad had _ => by injection had with had; subst had; exact ⟨rfl, h⟩)⟩
theorem SlN.keep {w w' : World} {sz n : Nat} {v : Value} {xs : List Value} (h : SlN w sz v n xs) (hb : ∀ k, v.ownBlock = some k → xs ≠ [] → w'.heap[k]? = w.heap[k]?) : SlN w' sz v n xs := by
  obtain ⟨hl, a, c, rfl, h1, h2, h3, h4⟩ := h
  exact ⟨hl, a, c, rfl, h1, h2, h3, fun ad had hx => ⟨(h4 ad had hx).1, ((h4 ad had hx).2).of_block (hb _ (by subst had; rfl) hx)⟩⟩
theorem SlN.lt {w : World} {sz n : Nat} {v : Value} {xs : List Value} (h : SlN w sz v n xs) {k : Nat} (hk : v.ownBlock = some k) (hx : xs ≠ []) : k < w.heap.size := by
  obtain ⟨hl, a, c, rfl, h1, h2, h3, h4⟩ := h
  cases a with
  | none => cases hk
  | some ad =>
    injection hk with hk
    subst hk
    exact (h4 ad rfl hx).2.lt hx
theorem SlN.below {w w' : World} {sz n : Nat} {v : Value} {xs : List Value} (h : SlN w sz v n xs) (hb : Below w.heap.size w w') : SlN w' sz v n xs :=
  h.keep fun k hk hx => hb.block _ (h.lt hk hx)
theorem SlN.of_own {w : World} {base sz : Nat} {e : TypeId} {v : Value} {n : Nat} {xs : List Value} (h : w.ownsRow base e sz v n xs) : SlN w sz v n xs := by
  rcases h.2 with ⟨rfl, rfl⟩ | ⟨g, cap, cur, rfl, _, hg, hc, hm, hs, ht⟩
  · have : xs = [] := List.eq_nil_of_length_eq_zero (by simpa using h.1)
    subst this
    exact SlN.nil _ _
  · refine SlN.some' h.1 hc hm (fun i x hx => ?_)
    have := h.cells (g := g) rfl i x hx
    rwa [Addr.add_lit] at this

theorem own_keep0 {w w' : World} {base : Nat} {e : TypeId} {sz : Nat} {v : Value} {n : Nat} {xs : List Value} (h : w.ownsRow base e sz v n xs) (hg : w.grownBy w' none) : w'.ownsRow base e sz v n xs :=
  h.kept hg (by cases hv : v.ownBlock <;> simp)
theorem own_below {w w' : World} {base B : Nat} {e : TypeId} {sz : Nat} {v : Value} {n : Nat} {xs : List Value} (h : w.ownsRow base e sz v n xs) (hb : Below B w w') (hB : w.heap.size ≤ B) : w'.ownsRow base e sz v n xs := by
  refine h.kept (row := none) ⟨hb.os, hb.tape, hb.output, hb.size, fun k hk _ => hb.block k (by omega)⟩ (by cases hv : v.ownBlock <;> simp)
theorem own_mono {w : World} {base base' : Nat} {e : TypeId} {sz : Nat} {v : Value} {n : Nat} {xs : List Value} (h : w.ownsRow base e sz v n xs) (hb : base' ≤ base) : w.ownsRow base' e sz v n xs := by
  refine ⟨h.1, ?_⟩
  rcases h.2 with h2 | ⟨g, cap, cur, hv, hbg, r⟩
  · exact .inl h2
  · exact .inr ⟨g, cap, cur, hv, Nat.le_trans hb hbg, r⟩
theorem below_of_grown0 {w w' : World} {B : Nat} (hg : w.grownBy w' none) (hB : B ≤ w.heap.size) : Below B w w' := (Below.refl B w).grown hg hB (by simp)
theorem below_of_own {w w' : World} {base B : Nat} {e : TypeId} {sz : Nat} {v : Value} {n : Nat} {xs : List Value} (h : w.ownsRow base e sz v n xs) (hg : w.grownBy w' v.ownBlock) (hB : B ≤ w.heap.size) (hb : B ≤ base) : Below B w w' :=
  (Below.refl B w).grown hg hB (fun k hk => Nat.le_trans hb (h.lt k hk).1)
/-- what is read elsewhere is read still behind a write to an owned row -/
theorem SlN.grown {w w' : World} {sz n : Nat} {v : Value} {xs : List Value} {row : Option Nat} (h : SlN w sz v n xs) (hg : w.grownBy w' row) (hne : xs ≠ [] → v.ownBlock ≠ row) : SlN w' sz v n xs :=
  h.keep fun k hk hx => hg.block _ (h.lt hk hx) (by rw [← hk]; exact hne hx)
theorem Sl.grown {w w' : World} {v : Value} {xs : List Value} {row : Option Nat} (h : Sl w v xs) (hg : w.grownBy w' row) (hne : xs ≠ [] → v.ownBlock ≠ row) : Sl w' v xs := (h.toN.grown hg hne).to1

section
variable {P : Program} {T : Tab} (hT : TabOk P T)
include hT

theorem und_slice {t e : TypeId} {s b : Nat} {z : Value} (ht : look T t = some ⟨.slice e, s, b, z⟩) : P.underlying t = some (.slice e) := by
  obtain ⟨u, hu, hs⟩ := shOf_cases hT ht
  cases u <;> simp only [shOf, reduceCtorEq, Sh.slice.injEq] at hs
  subst hs
  exact hu

theorem Rv.append {w : World} {K : Value → World → Prop} {t e ty : TypeId} {s b sz by' : Nat} {z ez : Value} {sh : Sh} (ht : look T t = some ⟨.slice e, s, b, z⟩) (he : look T e = some ⟨sh, sz, by', ez⟩) (hz : llen (cellsL ez) = sz) (hsz : 0 < sz)
    {base n : Nat} {v : Value} {xs : List Value} (hown : w.ownsRow base e sz v n xs) {x : Value} {m : Nat} {news : List Value} (hs : SlN w sz x m news) (h1 : ∀ u ∈ news, u.oneCell' = true)
    (h63 : n + m ≤ maxLen) (hby : (n + m) * by' ≤ 140737488355328) (hbase : base ≤ w.heap.size)
    (hk : ∀ v' w', w'.ownsRow base e sz v' (n + m) (xs ++ news) → w.grownBy w' v.ownBlock → (v' = .slice none 0 0 ↔ v = .slice none 0 0 ∧ m = 0) → K v' w') :
    Rv P (Builtin.append_ #[t, t] ty #[v, x]) w K := by
  have hu := und_slice hT ht
  obtain ⟨i, hi, hiz, his, hib⟩ := (hT _ _ he).inf
  have hzs : ez.cells.size = sz := by rw [cellsL_eq, List.size_toArray, ← llen_eq]; exact hz
  rcases hs.cases with ⟨rfl, rfl, rfl⟩ | ⟨ad, c, rfl, e1, e2, hr⟩
  · have := run_append_owned_none (P := P) w base t ty e i sz hu hi v n xs hown
    refine Rv.mk this (hk v w (by simpa using hown) ⟨rfl, rfl, rfl, Nat.le_refl _, fun _ _ _ => rfl⟩ (by simp))
  · obtain ⟨v', w', hrun, q1, q2, q3⟩ := run_append_own (P := P) w base t ty e i ez sz by' hu hi hiz his hib hzs hsz v n xs hown ad m c news hs.len hr h1 h63 hby hbase
    exact Rv.mk hrun (hk v' w' q1 q2 q3)

omit hT in
theorem splice_step (A : List Value) (n : Nat) (c : Value) (l : List Value) (h : n < A.length) :
    (A.set n c).take (n + 1) ++ l ++ (A.set n c).drop (n + 1 + l.length) = A.take n ++ (c :: l) ++ A.drop (n + (l.length + 1)) := by
  rw [List.drop_set, if_pos (by omega), show n + 1 + l.length = n + (l.length + 1) from by omega]
  have h1 : (A.set n c).take (n + 1) = A.take n ++ [c] := by
    rw [List.take_succ_eq_append_getElem (by simpa using h), List.take_set, List.set_eq_of_length_le (by simp; omega)]
    simp
  rw [h1]
  simp

omit hT in
theorem foldl_set (off : Nat) : ∀ (l : List Value) (k : Nat) (A : List Value), off + k + l.length ≤ A.length →
    List.foldl (fun (cs : Array Value) (x : Value × Nat) => cs.setIfInBounds (off + x.2) x.1) A.toArray (l.zipIdx k) = (A.take (off + k) ++ l ++ A.drop (off + k + l.length)).toArray
  | [], k, A, h => by simp
  | c :: l, k, A, h => by
    simp only [List.length_cons] at h
    simp only [List.zipIdx_cons, List.foldl_cons]
    have : A.toArray.setIfInBounds (off + k) c = (A.set (off + k) c).toArray := by simp
    rw [this, foldl_set off l (k + 1) (A.set (off + k) c) (by simp; omega)]
    have := splice_step A (off + k) c l (by omega)
    rw [show off + (k + 1) = off + k + 1 from by omega, this]
    simp

omit hT in
theorem fill_seq (sz : Nat) : ∀ (us : List Value) (n : Nat) (cells : List Value), (∀ u ∈ us, (cellsL u).length = sz) → (n + us.length) * sz ≤ cells.length →
    Instr.fill (fun i => some (i * sz, sz)) cells.toArray ((List.range' n us.length).zip us) = some ((cells.take (n * sz) ++ us.flatMap cellsL ++ cells.drop ((n + us.length) * sz)).toArray)
  | [], n, cells, _, _ => by simp [Instr.fill]
  | u :: us, n, cells, h1, hle => by
    have hu : (cellsL u).length = sz := h1 u (by simp)
    have hu1 : u.cells = (cellsL u).toArray := cellsL_eq u
    simp only [List.length_cons] at hle
    have hmul : (n + (us.length + 1)) * sz = n * sz + sz + us.length * sz := by rw [Nat.add_mul, Nat.add_mul, Nat.one_mul]; omega
    simp only [List.length_cons, List.range'_succ, List.zip_cons_cons, Instr.fill, hu1]
    rw [if_neg (by simp only [List.size_toArray, hu, Bool.or_eq_true, decide_eq_true_eq]; simp; omega)]
    have e1 : (Array.foldl (fun (cs : Array Value) (x : Value × Nat) => match x with | (c, j) => cs.setIfInBounds (n * sz + j) c) cells.toArray ((cellsL u).toArray.zipIdx)) = (cells.take (n * sz) ++ cellsL u ++ cells.drop (n * sz + sz)).toArray := by
      have := foldl_set (n * sz) (cellsL u) 0 cells (by omega)
      simp only [Nat.add_zero, hu] at this
      rw [← this, ← Array.foldl_toList]
      simp only [Array.toList_zipIdx]
    rw [e1, fill_seq sz us (n + 1) _ (fun x hx => h1 x (by simp [hx])) (by simp [hu, Nat.add_mul]; omega)]
    congr 2
    have hA : (cells.take (n * sz) ++ cellsL u).length = (n + 1) * sz := by simp [hu, Nat.add_mul]; omega
    rw [List.take_append_of_le_length (by omega), List.take_of_length_le (by omega)]
    rw [List.drop_append, List.drop_eq_nil_of_le (by rw [hA, Nat.add_mul (n + 1)]; omega)]
    simp only [List.flatMap_cons, List.nil_append, List.drop_drop, List.append_assoc]
    congr 4
    rw [List.length_append, hu] at *
    simp only [List.length_take] at *
    rw [Nat.min_eq_left (by omega)] at *
    rw [hmul]
    simp only [Nat.add_mul, Nat.one_mul]
    omega

/-- a literal '[]T{..}' -/
theorem Rv.build {w : World} {K : Value → World → Prop} {t e : TypeId} {s b sz by' : Nat} {z ez : Value} {sh : Sh} {len : Nat} {vs : List Value} {ps : Array (Nat × Value)} (ht : look T t = some ⟨.slice e, s, b, z⟩) (he : look T e = some ⟨sh, sz, by', ez⟩)
    (hps : ps = ((List.range' 0 len).zip vs).toArray) (hl : vs.length = len) (h1 : ∀ u ∈ vs, (cellsL u).length = sz) (hlen : len * sz ≤ 16777216) (hlen0 : len ≤ 16777216)
    (hk : ∀ w', w'.ownsRow w.heap.size e sz (.slice (some ⟨w.heap.size, 0, none⟩) len len) len (vs.flatMap cellsL) → w.grownBy w' none → w' = w.alloc (.cells (vs.flatMap cellsL).toArray e) → K (.slice (some ⟨w.heap.size, 0, none⟩) len len) w') :
    Rv P (Instr.buildSlice t len ps) w K := by
  have hu := und_slice hT ht
  have hsz := (hT _ _ he).run_size w
  have hzz := (hT _ _ he).run_zero w
  subst hl; subst hps
  have hflat : (vs.flatMap cellsL).length = vs.length * sz := by
    clear hlen hlen0 hk
    induction vs with
    | nil => simp
    | cons v vs ih =>
      simp only [List.flatMap_cons, List.length_append, List.length_cons, Nat.add_mul, Nat.one_mul]
      rw [ih (fun u hu => h1 u (by simp [hu])), h1 v (by simp)]
      omega
  have hrun : (Instr.buildSlice t vs.length ((List.range' 0 vs.length).zip vs).toArray).run P w = .ok (.slice (some ⟨w.heap.size, 0, none⟩) vs.length vs.length) (w.alloc (.cells (vs.flatMap cellsL).toArray e)) := by
    have hf : ∀ zc : Array Value, Instr.fill (fun i => some (i * sz, sz)) (Array.map (fun x => zc[x % zc.size]!) (Array.range (vs.length * sz))) ((List.range' 0 vs.length).zip vs) = some (vs.flatMap cellsL).toArray := by
      intro zc
      have hl2 : (Array.map (fun x => zc[x % zc.size]!) (Array.range (vs.length * sz))).toList.length = vs.length * sz := by simp
      have := fill_seq sz vs 0 (Array.map (fun x => zc[x % zc.size]!) (Array.range (vs.length * sz))).toList h1 (by simp)
      simp only [Array.toArray_toList, Nat.zero_mul, List.take_zero, List.nil_append, Nat.zero_add] at this
      rw [this, List.drop_of_length_le (by omega)]
      simp
    have hcap : ¬ vs.length * sz > 2 ^ 24 := by omega
    obtain ⟨Z, hZ⟩ : ∃ Z, ((if vs.length * sz = 0 then pure #[] else do pure (← zeroValue e).cells : Sem (Array Value))).run P w = .ok Z w := by
      by_cases h0 : vs.length * sz = 0
      · exact ⟨#[], by simp only [h0, if_true]; rfl⟩
      · exact ⟨ez.cells, by simp only [h0, if_false, Sem.run_bind, hzz, Result.andThen_ok, Sem.run_pure]⟩
    unfold Instr.buildSlice
    simp only [Sem.run_bind, run_underlying hu, Result.andThen_ok, hsz, if_neg hcap, Sem.run_pure, hZ, hf]
    simp [newRow, hzz]
  refine Rv.mk hrun (hk _ ⟨hflat, .inr ⟨w.heap.size, _, _, rfl, Nat.le_refl _, heap_alloc_new w _, Nat.le_refl _, ?_, by simp [hflat], ?_⟩⟩ (World.grownBy_alloc _ _ _) rfl)
  · simp only [maxLen]; omega
  · rw [List.take_of_length_le (by simp [hflat])]

/-- make, the elements of one cell -/
theorem Rv.make {w : World} {K : Value → World → Prop} {t e : TypeId} {s b by' : Nat} {z ez : Value} {sh : Sh} {kl kc : IntKind} {li ci : Int} (n c : Nat) (ht : look T t = some ⟨.slice e, s, b, z⟩) (he : look T e = some ⟨sh, 1, by', ez⟩)
    (hz : cellsL ez = [ez]) (hl : li = n) (hc : ci = c) (hnc : n ≤ c) (hb : by' * c ≤ 281474976710656) (h63 : c ≤ maxLen)
    (hk : ∀ w', w'.ownsRow w.heap.size e 1 (.slice (some ⟨w.heap.size, 0, none⟩) n c) n (List.replicate n ez) → w.grownBy w' none → K (.slice (some ⟨w.heap.size, 0, none⟩) n c) w') :
    Rv P (Instr.makeSlice t (.int kl li) (.int kc ci)) w K := by
  subst hl; subst hc
  have hu := und_slice hT ht
  obtain ⟨i, hi, hiz, his, hib⟩ := (hT _ _ he).inf
  have h63' := h63
  simp only [maxLen] at h63'
  have hb' : (i.bytes : Int) * (c : Int) ≤ 281474976710656 := by
    rw [hib]
    have h : ((by' * c : Nat) : Int) ≤ 281474976710656 := by omega
    rwa [Int.natCast_mul] at h
  have hr := run_make (P := P) w t e i ez hu hi hiz kl kc n c (by omega) (by omega) hb' (by omega)
  simp only [Int.toNat_natCast, his, Nat.mul_one] at hr
  have hez : ez.cells = #[ez] := by rw [cellsL_eq, hz]
  rw [hez] at hr
  refine Rv.mk hr (hk _ ⟨by simp, .inr ⟨w.heap.size, c, _, rfl, Nat.le_refl _, heap_alloc_new w _, hnc, h63, by simp [size_madeCells], ?_⟩⟩ (World.grownBy_alloc w _ none))
  rw [toList_madeCells_one, List.take_replicate, Nat.mul_one, Nat.min_eq_left hnc]
end
end Go.Proofs.YtjafamiaahabgaaGreatDoor

namespace Go.Proofs.YtjafamiaahabgaaGreatDoor
open Go.RowKit
set_option linter.unusedVariables false
set_option linter.unusedSimpArgs false

theorem vint {k : IntKind} {x y : Int} (h : x = y) : some (Value.int k x) = some (Value.int k y) := by rw [h]
theorem vintv {k : IntKind} {x y : Int} (h : x = y) : Value.int k x = Value.int k y := by rw [h]

section
variable {P : Program} {T : Tab}
theorem St.own {w : World} {t e : TypeId} {base g i n cap : Nat} {xs : List Value} {K : World → Prop} {v : Value} {d : Td} (hl : look T t = some d) (hs : d.size = 1) (ho : w.ownsRow base e 1 (.slice (some ⟨g, 0, none⟩) n cap) n xs) (hi : i < n)
    (hv : cellsL v = [v]) (h1 : v.oneCell' = true) (hT : TabOk P T) (hk : ∀ w', w'.ownsRow base e 1 (.slice (some ⟨g, 0, none⟩) n cap) n (xs.set i v) → w.grownBy w' (some g) → K w') : St P w t ⟨g, i, none⟩ v K := by
  have hc := ho.cellAt i (by omega)
  have hl1 := own_len ho
  rw [List.getElem?_eq_getElem (by omega)] at hc
  exact St.one hT hl hs hv h1 hc (ho.frozenAt i) (hk _ (ho.stored i v).1 (ho.stored i v).2)
theorem Ld.own {w : World} {t e : TypeId} {base g i n cap : Nat} {xs : List Value} {K : Value → Prop} {v : Value} {d : Td} (hT : TabOk P T) (hl : look T t = some d) (ha : d.sh.agg = false) (ho : w.ownsRow base e 1 (.slice (some ⟨g, 0, none⟩) n cap) n xs) (hi : i < n)
    (hx : xs[i]? = some v) (hk : K v) : Ld P w t ⟨g, i, none⟩ K :=
  Ld.one hT hl ha (by rw [ho.cellAt i (by omega)]; exact hx) hk
end

section
variable {P : Program} {T : Tab} (hT : TabOk P T)
include hT
/-- append, and where the row then lies -/
theorem Rv.append' {w : World} {K : Value → World → Prop} {t e ty : TypeId} {s b sz by' : Nat} {z ez : Value} {sh : Sh} (ht : look T t = some ⟨.slice e, s, b, z⟩) (he : look T e = some ⟨sh, sz, by', ez⟩) (hz : llen (cellsL ez) = sz) (hsz : 0 < sz)
    {base n : Nat} {v : Value} {xs : List Value} (hown : w.ownsRow base e sz v n xs) {x : Value} {m : Nat} {news : List Value} (hs : SlN w sz x m news) (h1 : ∀ u ∈ news, u.oneCell' = true)
    (h63 : n + m ≤ maxLen) (hby : (n + m) * by' ≤ 140737488355328) (hbase : base ≤ w.heap.size)
    (hk : ∀ v' w', w'.ownsRow base e sz v' (n + m) (xs ++ news) → w.grownBy w' v.ownBlock → (v'.ownBlock = v.ownBlock ∨ v'.ownBlock = some w.heap.size) → K v' w') :
    Rv P (Builtin.append_ #[t, t] ty #[v, x]) w K := by
  have hu := und_slice hT ht
  obtain ⟨i, hi, hiz, his, hib⟩ := (hT _ _ he).inf
  have hzs : ez.cells.size = sz := by rw [cellsL_eq, List.size_toArray, ← llen_eq]; exact hz
  rcases hs.cases with ⟨rfl, rfl, rfl⟩ | ⟨ad, c, rfl, e1, e2, hr⟩
  · have := run_append_owned_none (P := P) w base t ty e i sz hu hi v n xs hown
    refine Rv.mk this (hk v w (by simpa using hown) ⟨rfl, rfl, rfl, Nat.le_refl _, fun _ _ _ => rfl⟩ (.inl rfl))
  · have hn := hr
    obtain ⟨v', w', hrun, q1, q2, q3⟩ := run_append_own (P := P) w base t ty e i ez sz by' hu hi hiz his hib hzs hsz v n xs hown ad m c news hs.len hn h1 h63 hby hbase
    refine Rv.mk hrun (hk v' w' q1 q2 ?_)
    subst his; subst hib
    simp only [maxLen] at h63
    rcases hown.2 with ⟨rfl, rfl⟩ | ⟨g, cap, cur, rfl, hbg, hg, hnc, hcm, hcs, htake⟩
    · by_cases hm : m = 0
      · exact .inl (by rw [q3.2 ⟨rfl, hm⟩])
      · have hr2 := run_append_nil (P := P) w t ty e i ez hu hi hiz ad m c news hs.len hn (by omega) (by omega) (by rw [Nat.zero_add] at hby; omega)
        rw [hr2] at hrun
        injection hrun with hv _
        exact .inr (by rw [← hv]; rfl)
    · by_cases hroom : n + m ≤ cap
      · have hfit : n * i.size + news.length ≤ cur.size := by rw [hs.len, hcs, ← Nat.add_mul]; exact Nat.mul_le_mul_right _ hroom
        have hr2 := run_append_room (P := P) w t ty e i hu hi g n cap cur hg ad m c news hs.len hn h1 hroom hfit
        rw [hr2] at hrun
        injection hrun with hv _
        exact .inl (by rw [← hv]; rfl)
      · have holds : ∀ j u, xs[j]? = some u → w.cell? ((⟨g, 0, none⟩ : Addr).add j) = some u := hown.cells (g := g) rfl
        have hr2 := run_append_grow (P := P) w t ty e i ez hu hi hiz ⟨g, 0, none⟩ n cap xs hown.1 holds ad m c news hs.len hn (by omega) (by omega) (growslice_fits (by omega) hby)
        rw [hr2] at hrun
        injection hrun with hv _
        exact .inr (by rw [← hv]; rfl)
end

theorem fill_set {α : Type} (A : List α) (m : Nat) (z x : α) {k : Nat} (hk : k = A.length) : (A ++ List.replicate (m + 1) z).set k x = (A ++ [x]) ++ List.replicate m z := by
  subst hk
  simp [List.replicate_succ]

/-- rows, each readable -/
structure Ins (w : World) (us : List Value) (ls : List (List UInt8)) : Prop where
  len : us.length = ls.length
  at' : ∀ (i : Nat) (u : Value) (l : List UInt8), us[i]? = some u → ls[i]? = some l → Sl w u (bv l)
theorem Ins.nil (w : World) : Ins w [] [] := ⟨rfl, fun i u l h => by simp at h⟩
theorem Ins.get {w : World} {us : List Value} {ls : List (List UInt8)} (h : Ins w us ls) {i : Nat} {l : List UInt8} (hl : ls[i]? = some l) : ∃ u, us[i]? = some u ∧ Sl w u (bv l) := by
  have : i < us.length := by rw [h.len]; exact (List.getElem?_eq_some_iff.1 hl).1
  exact ⟨us[i], List.getElem?_eq_getElem this, h.at' i _ l (List.getElem?_eq_getElem this) hl⟩
theorem Ins.snoc {w : World} {us : List Value} {ls : List (List UInt8)} {u : Value} {l : List UInt8} (h : Ins w us ls) (hu : Sl w u (bv l)) : Ins w (us ++ [u]) (ls ++ [l]) := by
  refine ⟨by simp [h.len], fun i u' l' h1 h2 => ?_⟩
  have hl := h.len
  rw [List.getElem?_append] at h1 h2
  split at h1
  · rw [if_pos (by omega)] at h2
    exact h.at' i u' l' h1 h2
  · rw [if_neg (by omega)] at h2
    have : i = us.length := by
      have := (List.getElem?_eq_some_iff.1 h1).1
      simp at this; omega
    subst this
    simp [hl] at h1 h2
    subst h1; subst h2; exact hu
theorem Ins.append {w : World} {us us' : List Value} {ls ls' : List (List UInt8)} (h : Ins w us ls) (h' : Ins w us' ls') : Ins w (us ++ us') (ls ++ ls') := by
  refine ⟨by simp [h.len, h'.len], fun i u l h1 h2 => ?_⟩
  have hl := h.len
  rw [List.getElem?_append] at h1 h2
  split at h1
  · rw [if_pos (by omega)] at h2
    exact h.at' i u l h1 h2
  · rw [if_neg (by omega)] at h2
    rw [hl] at h1
    exact h'.at' _ u l h1 h2
theorem Ins.take {w : World} {us : List Value} {ls : List (List UInt8)} (h : Ins w us ls) (k : Nat) : Ins w (us.take k) (ls.take k) := by
  refine ⟨by simp [h.len], fun i u l h1 h2 => ?_⟩
  rw [List.getElem?_take] at h1 h2
  split at h1
  · rename_i hi; rw [if_pos hi] at h2; exact h.at' i u l h1 h2
  · simp at h1
theorem Ins.drop {w : World} {us : List Value} {ls : List (List UInt8)} (h : Ins w us ls) (k : Nat) : Ins w (us.drop k) (ls.drop k) := by
  refine ⟨by simp [h.len], fun i u l h1 h2 => ?_⟩
  rw [List.getElem?_drop] at h1 h2
  exact h.at' _ u l h1 h2
theorem Ins.below {w w' : World} {us : List Value} {ls : List (List UInt8)} (h : Ins w us ls) (hb : Below w.heap.size w w') : Ins w' us ls := ⟨h.len, fun i u l h1 h2 => (h.at' i u l h1 h2).below hb⟩
theorem Ins.grown {w w' : World} {us : List Value} {ls : List (List UInt8)} {row : Option Nat} (h : Ins w us ls) (hg : w.grownBy w' row) (hne : ∀ u ∈ us, row ≠ none → u.ownBlock ≠ row) : Ins w' us ls := by
  refine ⟨h.len, fun i u l h1 h2 => ?_⟩
  have hs := h.at' i u l h1 h2
  cases row with
  | none => exact hs.below (below_of_grown0 hg (Nat.le_refl _))
  | some r => exact hs.grown hg fun _ => hne u (List.mem_of_getElem? h1) (by simp)
theorem Ins.grown0 {w w' : World} {us : List Value} {ls : List (List UInt8)} (h : Ins w us ls) (hg : w.grownBy w' none) : Ins w' us ls := h.grown hg fun _ _ h => absurd rfl h
theorem Ins.set {w : World} {us : List Value} {ls : List (List UInt8)} {u : Value} {l : List UInt8} (h : Ins w us ls) (i : Nat) (hu : Sl w u (bv l)) : Ins w (us.set i u) (ls.set i l) := by
  refine ⟨by simp [h.len], fun j u' l' h1 h2 => ?_⟩
  rw [List.getElem?_set] at h1 h2
  split at h1
  · rename_i hi; subst hi
    rw [if_pos rfl] at h2
    split at h1
    · rename_i hi
      rw [if_pos (by rw [← h.len]; exact hi)] at h2
      simp at h1 h2; subst h1; subst h2; exact hu
    · simp at h1
  · rename_i hi
    rw [if_neg hi] at h2
    exact h.at' j u' l' h1 h2
theorem Ins.one {w : World} {us : List Value} {ls : List (List UInt8)} (h : Ins w us ls) : ∀ u ∈ us, u.oneCell' = true := by
  intro u hu
  obtain ⟨i, hi⟩ := List.getElem?_of_mem hu
  have hlt := (List.getElem?_eq_some_iff.1 hi).1
  obtain ⟨a, c, rfl⟩ := (h.at' i u _ hi (List.getElem?_eq_getElem (by rw [← h.len]; exact hlt))).shape
  rfl

/-- a slice of slices of bytes -/
structure SS (w : World) (v : Value) (ls : List (List UInt8)) : Prop where
  of : ∃ us, Sl w v us ∧ Ins w us ls
theorem SS.nil (w : World) : SS w (.slice none 0 0) [] := ⟨[], Sl.nil w, Ins.nil w⟩
theorem SS.below {w w' : World} {v : Value} {ls : List (List UInt8)} (h : SS w v ls) (hb : Below w.heap.size w w') : SS w' v ls := by
  obtain ⟨us, h1, h2⟩ := h.of
  exact ⟨us, h1.below hb, h2.below hb⟩

/-- a row of one's own that is read behind a write beside it -/
theorem below_own_store {w w' : World} {B g : Nat} (hg : w.grownBy w' (some g)) (hB : B ≤ w.heap.size) (hb : B ≤ g) : Below B w w' := (Below.refl B w).grown hg hB (by rintro k ⟨⟩; exact hb)

/-- rows of one's own, each in a block of its own, of another type than the row that holds them -/
structure InsO (w : World) (base : Nat) (e : TypeId) (us : List Value) (ls : List (List UInt8)) : Prop where
  len : us.length = ls.length
  own : ∀ (i : Nat) (u : Value) (l : List UInt8), us[i]? = some u → ls[i]? = some l → w.ownsRow base e 1 u l.length (bv l)
  sep : ∀ (i j : Nat) (u u' : Value), i ≠ j → us[i]? = some u → us[j]? = some u' → u.ownBlock = none ∨ u.ownBlock ≠ u'.ownBlock
theorem InsO.ins {w : World} {base : Nat} {e : TypeId} {us : List Value} {ls : List (List UInt8)} (h : InsO w base e us ls) : Ins w us ls := ⟨h.len, fun i u l h1 h2 => Sl.of_own (h.own i u l h1 h2)⟩
theorem InsO.nil (w : World) (base : Nat) (e : TypeId) : InsO w base e [] [] := ⟨rfl, fun i u l h => by simp at h, fun i j u u' _ h => by simp at h⟩
theorem InsO.get {w : World} {base : Nat} {e : TypeId} {us : List Value} {ls : List (List UInt8)} (h : InsO w base e us ls) {i : Nat} {l : List UInt8} (hl : ls[i]? = some l) : ∃ u, us[i]? = some u ∧ w.ownsRow base e 1 u l.length (bv l) := by
  have : i < us.length := by rw [h.len]; exact (List.getElem?_eq_some_iff.1 hl).1
  exact ⟨us[i], List.getElem?_eq_getElem this, h.own i _ l (List.getElem?_eq_getElem this) hl⟩
theorem InsO.lt {w : World} {base : Nat} {e : TypeId} {us : List Value} {ls : List (List UInt8)} (h : InsO w base e us ls) {i : Nat} {u : Value} (hu : us[i]? = some u) : ∀ k, u.ownBlock = some k → base ≤ k ∧ k < w.heap.size := by
  have hlt := (List.getElem?_eq_some_iff.1 hu).1
  exact (h.own i u _ hu (List.getElem?_eq_getElem (by rw [← h.len]; exact hlt))).lt
/-- a block of another type was written, or none of these -/
theorem InsO.grown {w w' : World} {base : Nat} {e : TypeId} {us : List Value} {ls : List (List UInt8)} {row : Option Nat} (h : InsO w base e us ls) (hg : w.grownBy w' row) (hr : ∀ u ∈ us, u.ownBlock = none ∨ u.ownBlock ≠ row) : InsO w' base e us ls :=
  ⟨h.len, fun i u l h1 h2 => (h.own i u l h1 h2).kept hg (hr u (List.mem_of_getElem? h1)), h.sep⟩
theorem InsO.grown0 {w w' : World} {base : Nat} {e : TypeId} {us : List Value} {ls : List (List UInt8)} (h : InsO w base e us ls) (hg : w.grownBy w' none) : InsO w' base e us ls :=
  h.grown hg fun u _ => by cases hu : u.ownBlock <;> simp
theorem InsO.apart {w : World} {base base' : Nat} {e e' : TypeId} {us : List Value} {ls : List (List UInt8)} (h : InsO w base e us ls) {v : Value} {sz n : Nat} {xs : List Value} (ho : w.ownsRow base' e' sz v n xs) (hne : e ≠ e') : ∀ u ∈ us, u.ownBlock = none ∨ u.ownBlock ≠ v.ownBlock := by
  intro u hu
  obtain ⟨i, hi⟩ := List.getElem?_of_mem hu
  have hlt := (List.getElem?_eq_some_iff.1 hi).1
  have h1 := h.own i u _ hi (List.getElem?_eq_getElem (by rw [← h.len]; exact hlt))
  cases hb : u.ownBlock with
  | none => exact .inl rfl
  | some k =>
    refine .inr fun hv => ?_
    obtain ⟨c1, f1, e1⟩ := Lib.ownsRow_kind h1 k hb
    obtain ⟨c2, f2, e2⟩ := Lib.ownsRow_kind ho k hv.symm
    rw [e1] at e2
    simp only [Option.some.injEq, Obj.cells.injEq] at e2
    exact hne e2.2.1
theorem InsO.below {w w' : World} {base : Nat} {e : TypeId} {us : List Value} {ls : List (List UInt8)} (h : InsO w base e us ls) (hb : Below w.heap.size w w') : InsO w' base e us ls :=
  ⟨h.len, fun i u l h1 h2 => own_below (h.own i u l h1 h2) hb (Nat.le_refl _), h.sep⟩
theorem InsO.drew {w : World} {base : Nat} {e : TypeId} {us : List Value} {ls : List (List UInt8)} (h : InsO w base e us ls) : InsO w.drew base e us ls := ⟨h.len, h.own, h.sep⟩
theorem InsO.snoc {w : World} {base : Nat} {e : TypeId} {us : List Value} {ls : List (List UInt8)} {u : Value} {l : List UInt8} (h : InsO w base e us ls) (hu : w.ownsRow base e 1 u l.length (bv l)) (hs : ∀ u' ∈ us, u'.ownBlock = none ∨ u'.ownBlock ≠ u.ownBlock) :
    InsO w base e (us ++ [u]) (ls ++ [l]) := by
  have hl := h.len
  refine ⟨by simp [hl], fun i u' l' h1 h2 => ?_, fun i j a b hij h1 h2 => ?_⟩
  · rw [List.getElem?_append] at h1 h2
    split at h1
    · rw [if_pos (by omega)] at h2
      exact h.own i u' l' h1 h2
    · rw [if_neg (by omega)] at h2
      have : i = us.length := by
        have := (List.getElem?_eq_some_iff.1 h1).1
        simp at this; omega
      subst this
      simp [hl] at h1 h2
      subst h1; subst h2; exact hu
  · rw [List.getElem?_append] at h1 h2
    split at h1 <;> split at h2
    · exact h.sep i j a b hij h1 h2
    · have : b = u := by
        have h3 := (List.getElem?_eq_some_iff.1 h2).1
        simp at h3
        have h4 : j - us.length = 0 := by omega
        rw [h4] at h2; simpa using h2.symm
      subst this
      exact hs a (List.mem_of_getElem? h1)
    · have : a = u := by
        have h3 := (List.getElem?_eq_some_iff.1 h1).1
        simp at h3
        have h4 : i - us.length = 0 := by omega
        rw [h4] at h1; simpa using h1.symm
      subst this
      rcases hs b (List.mem_of_getElem? h2) with h5 | h5
      · by_cases hn : a.ownBlock = none
        · exact .inl hn
        · exact .inr fun h6 => hn (h6.trans h5)
      · exact .inr fun h6 => h5 h6.symm
    · have h3 := (List.getElem?_eq_some_iff.1 h1).1
      have h4 := (List.getElem?_eq_some_iff.1 h2).1
      simp at h3 h4
      omega
/-- the i-th row has grown: in its block, or in a new one -/
theorem InsO.set {w w' : World} {base : Nat} {e : TypeId} {us : List Value} {ls : List (List UInt8)} {u u' : Value} {l : List UInt8} (h : InsO w base e us ls) {i : Nat} (hi : us[i]? = some u) (hg : w.grownBy w' u.ownBlock) (hu : w'.ownsRow base e 1 u' l.length (bv l))
    (hb : u'.ownBlock = u.ownBlock ∨ u'.ownBlock = some w.heap.size ∨ u'.ownBlock = none) : InsO w' base e (us.set i u') (ls.set i l) := by
  have hl := h.len
  have hap : ∀ (j : Nat) (a : Value), j ≠ i → us[j]? = some a → a.ownBlock = none ∨ (a.ownBlock ≠ u.ownBlock ∧ a.ownBlock ≠ u'.ownBlock) := by
    intro j a hj ha
    rcases h.sep j i a u hj ha hi with h1 | h1
    · exact .inl h1
    · rcases hb with h2 | h2 | h2
      · exact .inr ⟨h1, by rw [h2]; exact h1⟩
      · refine .inr ⟨h1, fun h3 => ?_⟩
        have := (h.lt ha _ (h3.trans h2)).2
        omega
      · cases ha' : a.ownBlock with
        | none => exact .inl rfl
        | some k => exact .inr ⟨by rw [← ha']; exact h1, by rw [h2]; simp⟩
  refine ⟨by simp [hl], fun j a l' h1 h2 => ?_, fun j k a b hjk h1 h2 => ?_⟩
  · rw [List.getElem?_set] at h1 h2
    by_cases hij : i = j
    · subst hij
      have hlt := (List.getElem?_eq_some_iff.1 hi).1
      rw [if_pos rfl, if_pos hlt] at h1
      rw [if_pos rfl, if_pos (by omega)] at h2
      simp at h1 h2; subst h1; subst h2; exact hu
    · rw [if_neg hij] at h1 h2
      exact (h.own j a l' h1 h2).kept hg ((hap j a (Ne.symm hij) h1).imp id (·.1))
  · rw [List.getElem?_set] at h1 h2
    by_cases hij : i = j
    · subst hij
      have hlt := (List.getElem?_eq_some_iff.1 hi).1
      rw [if_pos rfl, if_pos hlt] at h1
      rw [if_neg hjk] at h2
      simp at h1; subst h1
      rcases hap k b (Ne.symm hjk) h2 with h3 | h3
      · by_cases hn : u'.ownBlock = none
        · exact .inl hn
        · exact .inr fun h6 => hn (h6.trans h3)
      · exact .inr fun h6 => h3.2 h6.symm
    · rw [if_neg hij] at h1
      by_cases hik : i = k
      · subst hik
        have hlt := (List.getElem?_eq_some_iff.1 hi).1
        rw [if_pos rfl, if_pos hlt] at h2
        simp at h2; subst h2
        exact (hap j a (Ne.symm hij) h1).imp id (·.2)
      · rw [if_neg hik] at h2
        exact h.sep j k a b hjk h1 h2
theorem InsO.one {w : World} {base : Nat} {e : TypeId} {us : List Value} {ls : List (List UInt8)} (h : InsO w base e us ls) : ∀ u ∈ us, u.oneCell' = true := h.ins.one

end Go.Proofs.YtjafamiaahabgaaGreatDoor

namespace Go.Proofs.YtjafamiaahabgaaGreatDoor
open Go.RowKit
set_option linter.unusedVariables false
set_option linter.unusedSimpArgs false

section
variable {P : Program} {T : Tab} (hT : TabOk P T)
include hT
theorem Rv.copy {w : World} {K : Value → World → Prop} {t e ty : TypeId} {s b by' : Nat} {z ez : Value} {sh : Sh} (ht : look T t = some ⟨.slice e, s, b, z⟩) (he : look T e = some ⟨sh, 1, by', ez⟩)
    {base g n cap : Nat} {xs : List Value} (hown : w.ownsRow base e 1 (.slice (some ⟨g, 0, none⟩) n cap) n xs) {x : Value} {cs : List Value} (hs : Sl w x cs) (h1 : ∀ u ∈ cs, u.oneCell' = true) (hle : cs.length ≤ n)
    (hk : ∀ w', w'.ownsRow base e 1 (.slice (some ⟨g, 0, none⟩) n cap) n (cs ++ xs.drop cs.length) → w.grownBy w' (some g) → K (.int .i64 cs.length) w') :
    Rv P (Builtin.copy_ #[t, t] ty #[.slice (some ⟨g, 0, none⟩) n cap, x]) w K := by
  have hu := und_slice hT ht
  obtain ⟨i, hi, hiz, his, hib⟩ := (hT _ _ he).inf
  have hsz : (P.info? e).map (·.size) = some 1 := by rw [hi]; simp [his]
  rcases hs.cases with ⟨rfl, rfl⟩ | ⟨ad, c, rfl, e1, e2, hr⟩
  · refine Rv.mk (run_copy_nil (P := P) w t t ty e ⟨g, 0, none⟩ n cap hu (by rw [hi]; rfl)) (hk w (by simpa using hown) ⟨rfl, rfl, rfl, Nat.le_refl _, fun _ _ _ => rfl⟩)
  · rcases hown.2 with ⟨h', _⟩ | ⟨g', cap', cur, h', hb, hg, hnc, hcm, hcs, htake⟩
    · simp at h'
    simp only [Value.slice.injEq, Option.some.injEq, Addr.mk.injEq, and_true, true_and] at h'
    obtain ⟨rfl, rfl⟩ := h'
    have hn : cs.length = Nat.min cs.length n := (Nat.min_eq_left hle).symm
    have hr2 := run_copy_row (P := P) w t t ty e g 0 n cap ad cs.length c cur e cs hu hsz hg hn hr (by omega) h1
    simp only [List.take_zero, List.nil_append, Nat.zero_add] at hr2
    refine Rv.mk hr2 (hk _ ⟨?_, .inr ⟨g, cap, _, rfl, hb, setRow_heap w g cur _ e _ hg, hnc, hcm, ?_, ?_⟩⟩ ⟨rfl, rfl, rfl, by simp, fun k _ hk => setRow_other w g k _ (fun e => hk (by simp [e]))⟩)
    · have := hown.1; simp; omega
    · simp only [List.size_toArray, List.length_append, List.length_drop, Array.length_toList]; omega
    · rw [← htake, List.drop_take, List.take_append, List.take_of_length_le (by omega)]

theorem Rv.appendZ {w : World} {K : Value → World → Prop} {t e ty tn : TypeId} {s b by' : Nat} {z ez : Value} {sh : Sh} {kn kq : IntKind} (ht : look T t = some ⟨.slice e, s, b, z⟩) (he : look T e = some ⟨sh, 1, by', ez⟩) (htn : P.underlying tn = some (.int kn)) (hz : cellsL ez = [ez]) (hz1 : ez.oneCell' = true)
    {base n : Nat} {v : Value} {xs : List Value} (hown : w.ownsRow base e 1 v n xs) {m : Nat} {mi : Int} (hm : mi = m)
    (h63 : n + m ≤ maxLen) (hby : (n + m) * by' ≤ 140737488355328) (hbase : base ≤ w.heap.size)
    (hk : ∀ v' w', w'.ownsRow base e 1 v' (n + m) (xs ++ List.replicate m ez) → w.grownBy w' v.ownBlock → (v'.ownBlock = v.ownBlock ∨ v'.ownBlock = some w.heap.size) → K v' w') :
    Rv P (Builtin.append_ #[t, tn] ty #[v, .int kq mi]) w K := by
  subst hm
  have hu := und_slice hT ht
  obtain ⟨i, hi, hiz, his, hib⟩ := (hT _ _ he).inf
  dsimp only at his hib
  have hez : ez.cells = #[ez] := by rw [cellsL_eq, hz]
  have hzc : ∀ q, Builtin.zeroCells ez.cells q = (List.replicate q ez).toArray := by
    intro q
    rw [hez]
    apply Array.ext'
    simp only [Builtin.zeroCells, List.size_toArray, List.length_singleton, Nat.mul_one]
    apply List.ext_getElem?
    intro j
    by_cases hj : j < q
    · simp [hj, Nat.mod_one]
    · simp [hj]
  have hby2 : m * i.bytes ≤ 140737488355328 := Nat.le_trans (Nat.mul_le_mul_right _ (Nat.le_add_left m n)) (by rw [hib]; exact hby)
  have hw : IntKind.i64.wrap (m : Int) = m := by rw [IntKind.wrap_i64]; simp only [maxLen] at h63; omega
  have h48i : ¬ (281474976710656 < (m : Int) * (i.bytes : Int)) := by rw [← Int.natCast_mul]; omega
  have hneg : ¬ ((m : Int) < 0) := by omega
  have grown : ∀ (cap : Nat), n + m ≤ cap → cap ≤ maxLen → ∀ (row : Option Nat),
      (w.drew.alloc (.cells ((xs ++ List.replicate m ez).toArray ++ Builtin.zeroCells ez.cells (cap - (n + m))) e)).ownsRow base e 1 (.slice (some ⟨w.heap.size, 0, none⟩) (n + m) cap) (n + m) (xs ++ List.replicate m ez) ∧
      w.grownBy (w.drew.alloc (.cells ((xs ++ List.replicate m ez).toArray ++ Builtin.zeroCells ez.cells (cap - (n + m))) e)) row := by
    intro cap h1 h2 row
    have hl := hown.1
    refine ⟨⟨by simp; omega, .inr ⟨w.heap.size, _, _, rfl, hbase, heap_alloc_new w.drew _, h1, h2, ?_, ?_⟩⟩, ⟨rfl, rfl, rfl, by simp, fun k hk _ => Below.heap_alloc w.drew _ k hk⟩⟩
    · rw [hzc]; simp; omega
    · rw [hzc]
      simp only [List.append_toArray]
      rw [List.take_left' (by simp; omega)]
  simp only [maxLen] at h63
  by_cases hm0 : m = 0
  · subst hm0
    have hl := hown.1
    refine Rv.mk (w' := w) (v := v) ?_ (hk v w (by simpa using hown) ⟨rfl, rfl, rfl, Nat.le_refl _, fun _ _ _ => rfl⟩ (.inl rfl))
    rcases hown.2 with ⟨rfl, rfl⟩ | ⟨g, cap, cur, rfl, hbg, hg, hnc, hcm, hcs, htake⟩
    · have hw0 : IntKind.i64.wrap 0 = 0 := by decide
      simp [Builtin.append_, run_underlying hu, run_underlying htn, sizeOf, typeInfo, hi, asInt, asIntOf, hw0]
    · have hw0 : IntKind.i64.wrap 0 = 0 := by decide
      simp [Builtin.append_, run_underlying hu, run_underlying htn, sizeOf, typeInfo, hi, asInt, asIntOf, hw0, hnc, storeCells]
  · rcases hown.2 with ⟨rfl, rfl⟩ | ⟨g, cap, cur, rfl, hbg, hg, hnc, hcm, hcs, htake⟩
    · have hx : xs = [] := List.eq_nil_of_length_eq_zero (by simpa using hown.1)
      subst hx
      have hr := Lib.run_append_nil_zeros (P := P) w t tn ty e i ez kq kn hu htn hi hiz m (by omega) (by omega) (by omega) (by omega)
      have hge := grownCap_ge w m 0 e
      have hcm := grownCap_le_maxLen w m 0 e (by simp only [maxLen]; omega)
      have hgr := grown (grownCap w m 0 e) (by omega) hcm (Value.ownBlock (.slice none 0 0))
      rw [hzc m] at hr
      simp only [Nat.zero_add, List.nil_append] at hgr
      refine Rv.mk hr (hk _ _ ?_ ?_ (.inr rfl))
      · simpa using hgr.1
      · simpa using hgr.2
    · by_cases hroom : n + m ≤ cap
      · have hst := run_storeCells_at P g (n * 1) e (List.replicate m ez) 0 cur w hg (by simp; omega) (by intro u hu; rw [List.eq_of_mem_replicate hu]; exact hz1)
        simp only [Nat.add_zero, List.length_replicate] at hst
        have hr : (Builtin.append_ #[t, tn] ty #[.slice (some ⟨g, 0, none⟩) n cap, .int kq m]).run P w = .ok (.slice (some ⟨g, 0, none⟩) (n + m) cap) (w.setRow g (cur.toList.take (n * 1) ++ List.replicate m ez ++ cur.toList.drop (n * 1 + m)).toArray) := by
          simp only [Nat.mul_one] at hst
          simp [Builtin.append_, run_underlying hu, run_underlying htn, sizeOf, typeInfo, zeroValue, hi, hiz, asInt, asIntOf, hw, hneg, h48i, hroom, his, hm0, hzc, Addr.add_lit, hst]
        have hl := hown.1
        refine Rv.mk hr (hk _ _ ⟨by simp; omega, .inr ⟨g, cap, _, rfl, hbg, setRow_heap w g cur _ e _ hg, hroom, hcm, ?_, ?_⟩⟩ ⟨rfl, rfl, rfl, by simp, fun k _ hk => setRow_other w g k _ (fun e => hk (by simp [Value.ownBlock, e]))⟩ (.inl rfl))
        · simp only [List.size_toArray, List.length_append, List.length_take, List.length_drop, Array.length_toList, List.length_replicate]; omega
        · simp only [Nat.mul_one] at htake ⊢
          rw [htake, List.take_left' (by simp; omega)]
      · have holds : ∀ j u, xs[j]? = some u → w.cell? ((⟨g, 0, none⟩ : Addr).add j) = some u := hown.cells (g := g) rfl
        have hf := run_firstCells_some (P := P) w.drew i.size n ⟨g, 0, none⟩ n cap xs (by rw [his]; exact hown.1) (fun j u hj => holds j u hj)
        have hr := Lib.run_append_grow_zeros (P := P) w t tn ty e i ez kq kn hu htn hi hiz (some ⟨g, 0, none⟩) n cap xs hf m (by omega) (by omega) (by omega) (by omega) (by omega) (growslice_fits (by omega) (by rw [hib]; exact hby))
        have hge := grownCap_ge w (n + m) cap e
        have hcm2 := grownCap_le_maxLen w (n + m) cap e (by simp only [maxLen]; omega)
        have hgr := grown (grownCap w (n + m) cap e) hge hcm2 (Value.ownBlock (.slice (some ⟨g, 0, none⟩) n cap))
        rw [hzc m, show xs.toArray ++ (List.replicate m ez).toArray = (xs ++ List.replicate m ez).toArray from List.append_toArray xs _] at hr
        exact Rv.mk hr (hk _ _ hgr.1 hgr.2 (.inr rfl))
end
end Go.Proofs.YtjafamiaahabgaaGreatDoor

namespace Go.Proofs.YtjafamiaahabgaaGreatDoor
set_option linter.unusedVariables false
set_option linter.unusedSimpArgs false

def mkB (l : List UInt8) : ByteArray := ⟨l.toArray⟩

section
variable {P : Program} {T : Tab} (hT : TabOk P T)
include hT
theorem Qv.arr {K : Value → Prop} {t e : TypeId} {n s b sz by' : Nat} {z ez : Value} {sh : Sh} {ps : Array (Nat × Value)} {cells : Array Value} (ht : look T t = some ⟨.array n e, s, b, z⟩) (he : look T e = some ⟨sh, sz, by', ez⟩)
    (hf : Instr.fill (fun i => some (i * sz, sz)) z.cells ps.toList = some cells) (hk : K (.agg cells)) : Qv P (Instr.build t ps) K := by
  refine Qv.mk (.agg cells) (fun w => ?_) hk
  obtain ⟨u, hu, hs⟩ := shOf_cases hT ht
  cases u <;> simp only [shOf, reduceCtorEq, Sh.array.injEq] at hs
  obtain ⟨rfl, rfl⟩ := hs
  have hzz := (hT _ _ ht).run_zero w
  have hsz := (hT _ _ he).run_size w
  simp only [Instr.build, Sem.run_bind, hzz, run_underlying hu, Result.andThen_ok, hsz, hf, Sem.run_pure]

/-- bytes as a text -/
theorem toStr_run {w : World} {t u e : TypeId} {s b s1 b1 s2 b2 : Nat} {z z1 z2 : Value} (ht : look T t = some ⟨.slice e, s, b, z⟩) (he : look T e = some ⟨.int .u8, s1, b1, z1⟩) (hu : look T u = some ⟨.str, s2, b2, z2⟩) {v : Value} {l : List UInt8} (h : Sl w v (bv l)) :
    (convert t u v).run P w = .ok (.string (mkB l)) w := by
  have ht' := und_slice hT ht
  obtain ⟨x, hx, hs⟩ := shOf_cases hT he
  cases x <;> simp only [shOf, reduceCtorEq, Sh.int.injEq] at hs
  subst hs
  obtain ⟨y, hy, hs⟩ := shOf_cases hT hu
  cases y <;> simp only [shOf, reduceCtorEq] at hs
  by_cases hle : l = []
  · subst hle
    obtain ⟨a, c, rfl, h1, h2, h3, h4⟩ := h.of
    cases a with
    | none =>
      obtain rfl := h3 rfl
      have := run_convert_bytes_nil (P := P) w t e ht' hx 0 0 u hy
      rw [show (bv []).length = 0 from rfl, this]; rfl
    | some ad =>
      rw [show (bv []).length = 0 from rfl, run_convert_bytes_string w t u e _ 0 c ht' hx hy, run_bytesToString w ad 0 c [] (by simp [loadCells, loadCellsFrom])]
      rfl
  obtain ⟨b, o, c, rfl, h1, h2, h3⟩ : ∃ b o c, v = .slice (some ⟨b, o, none⟩) (bv l).length c ∧ (bv l).length ≤ c ∧ c ≤ maxLen ∧ Row w b o (bv l) := by
    obtain ⟨a, c, rfl, h1, h2, h3, h4⟩ := h.of
    have h0 : 0 < l.length := List.length_pos_iff.2 hle
    obtain ⟨b, o, rfl, hr⟩ := h.addr (by simpa using h0)
    exact ⟨b, o, c, rfl, h1, h2, hr⟩
  · have := run_convert_bytes_arg (P := P) w t e ht' hx b o l.length c (l.map fun b => (b.toNat : Int)) (by simp) (fun i hi => by
      have := h3 i (u8 l[i]) (by simp [bv, hi])
      rw [this]
      simp [u8, hi]) u hy
    simp only [bv_length]
    rw [this]
    congr 1
    simp only [strOfNums, mkB, List.map_map, Value.string.injEq, ByteArray.mk.injEq, Array.mk.injEq]
    conv => rhs; rw [← List.map_id l]
    refine List.map_congr_left fun b _ => ?_
    simp
theorem Rv.toStr {w : World} {K : Value → World → Prop} {t u e : TypeId} {s b s1 b1 s2 b2 : Nat} {z z1 z2 : Value} (ht : look T t = some ⟨.slice e, s, b, z⟩) (he : look T e = some ⟨.int .u8, s1, b1, z1⟩) (hu : look T u = some ⟨.str, s2, b2, z2⟩) {v : Value} {l : List UInt8} (h : Sl w v (bv l))
    (hk : K (.string (mkB l)) w) : Rv P (convert t u v) w K := Rv.mk (toStr_run hT ht he hu h) hk
theorem Rq.toStr {C : World → Prop} {K : Value → Prop} {t u e : TypeId} {s b s1 b1 s2 b2 : Nat} {z z1 z2 : Value} (ht : look T t = some ⟨.slice e, s, b, z⟩) (he : look T e = some ⟨.int .u8, s1, b1, z1⟩) (hu : look T u = some ⟨.str, s2, b2, z2⟩) {v : Value} {l : List UInt8} (h : ∀ w, C w → Sl w v (bv l))
    (hk : K (.string (mkB l))) : Rq P C (convert t u v) K := Rq.mk _ (fun w' hw => toStr_run hT ht he hu (h w' hw)) hk
end
end Go.Proofs.YtjafamiaahabgaaGreatDoor

namespace Go.Proofs.YtjafamiaahabgaaGreatDoor
open Go.RowKit
set_option linter.unusedVariables false

theorem spot_of_ok {P : Program} {w : World} {base : Nat} {t e : TypeId} (ht : P.underlying t = some (.slice e)) {a : Addr} {n c : Nat} (h : Value.okWide P w .any base t (.slice (some a) n c)) : a.spot = none := by
  simp only [Value.okWide, ht, Cell.okWide, Cell.ok, World.has] at h
  exact h.2.2.2.1

theorem sl_of_open {P : Program} {w : World} {base : Nat} {t e : TypeId} (ht : P.underlying t = some (.slice e)) {a : Option Addr} {n c : Nat} {zs : List Int} (hok : Value.okWide P w .any base t (.slice a n c))
    (hrow : (a = none ∧ n = 0 ∧ c = 0 ∧ zs = []) ∨ ∃ x, a = some x ∧ n ≤ c ∧ c ≤ maxLen ∧ zs.length = c ∧ (∀ i, i < zs.length → w.cell? (x.add i) = some (.int .u8 (zs.getD i 0))) ∧ ∀ k ∈ zs, (Lit.int .u8 k).wf = true) :
    ∃ l : List UInt8, Sl w (.slice a n c) (bv l) := by
  rcases hrow with ⟨rfl, rfl, rfl, rfl⟩ | ⟨x, rfl, h1, h2, h3, h4, h5⟩
  · exact ⟨[], Sl.nil w⟩
  · have hs := spot_of_ok ht hok
    obtain ⟨b, o, s⟩ := x
    simp only at hs; subst hs
    refine ⟨(zs.take n).map fun k => UInt8.ofNat k.toNat, ?_⟩
    have e : bv ((zs.take n).map fun k => UInt8.ofNat k.toNat) = (zs.take n).map (Value.int .u8) := by
      unfold bv
      rw [List.map_map]
      refine List.map_congr_left fun k hk => ?_
      have hw := h5 k (List.mem_of_mem_take hk)
      have hb : 0 ≤ k ∧ k < 256 := by
        simp only [Lit.wf, IntKind.min, IntKind.max, IntKind.bits, IntKind.signed] at hw
        simp at hw
        omega
      exact (u8_mk k hb.1 hb.2).symm
    rw [e]
    refine Sl.some' (by simp; omega) (by simp; omega) h2 fun i v hv => ?_
    rw [List.getElem?_map, List.getElem?_take] at hv
    split at hv
    · rename_i hi
      have hz : i < zs.length := by omega
      have := h4 i hz
      rw [Addr.add_lit] at this
      rw [this]
      rw [List.getElem?_eq_getElem hz] at hv
      rw [← hv, List.getD_eq_getElem?_getD, List.getElem?_eq_getElem hz]
      rfl
    · simp at hv

theorem Sl.lq {w : World} {b o : Nat} {xs : List Value} (h : Row w b o xs) {i o' : Nat} {x : Value} (hx : xs[i]? = some x) (ho : o' = o + i) : ∀ w', w' = w.drew → w'.cell? ⟨b, o', none⟩ = some x := by
  rintro _ rfl
  exact h.at hx ho

end Go.Proofs.YtjafamiaahabgaaGreatDoor
