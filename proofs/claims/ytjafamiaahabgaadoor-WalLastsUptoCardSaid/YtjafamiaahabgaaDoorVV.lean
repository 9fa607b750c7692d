/- A partial environment: the code of a region is run by reduction; loops, drawn regions, numbers. Nothing is claimed here. -/
import Derived.WalkKit
import Derived.Orders
import Derived.Deep.Quiet
import Derived.KernelRfl
import Derived.Deep.LoopGhost
import Derived.StillTail
import Derived.OrdersHeld
namespace Go.Proofs.YtjafamiaahabgaaDoor

set_option linter.unusedVariables false
set_option linter.unusedSimpArgs false

/-! ### Partial frames -/
abbrev Env := List (Nat × Value)

def look {α : Type} : List (Nat × α) → Nat → Option α
  | [], _ => none
  | (i, v) :: e, j => match Nat.beq i j with
    | true => some v
    | false => look e j

def ov (e : Env) : Operand → Option Value
  | .tmp t => look e t
  | .const v => some v
  | .global g => some (.pointer (some ⟨g, 0, none⟩))
  | .func f => some (.func (.func f) #[] #[])

def ovs (e : Env) : List Operand → Option (List Value)
  | [] => some []
  | x :: xs => match ov e x with
    | some v => match ovs e xs with
      | some vs => some (v :: vs)
      | none => none
    | none => none

structure Fits (N : Nat) (e : Env) (a : Act) : Prop where
  defers : a.defers = []
  size : a.tmps.size = N
  get : ∀ j v, look e j = some v → a.tmps.getD j undef = v

theorem look_cons {α : Type} (i : Nat) (v : α) (e : List (Nat × α)) (j : Nat) : look ((i, v) :: e) j = if i = j then some v else look e j := by
  simp only [look]
  by_cases h : i = j
  · subst h; simp
  · cases hb : Nat.beq i j
    · simp [h]
    · exact absurd (Nat.eq_of_beq_eq_true hb) h

theorem Fits.ov {N : Nat} {e : Env} {a : Act} (h : Fits N e a) {x : Operand} {v : Value} (hx : ov e x = some v) : a.eval x = v := by
  cases x with
  | tmp t => exact h.get t v hx
  | const c => simpa [Go.Proofs.YtjafamiaahabgaaDoor.ov, Act.eval] using hx
  | global g => simpa [Go.Proofs.YtjafamiaahabgaaDoor.ov, Act.eval] using hx
  | func f => simpa [Go.Proofs.YtjafamiaahabgaaDoor.ov, Act.eval] using hx

theorem Fits.ovs {N : Nat} {e : Env} {a : Act} (h : Fits N e a) : ∀ {xs : List Operand} {vs : List Value}, ovs e xs = some vs → xs.map a.eval = vs := by
  intro xs
  induction xs with
  | nil => intro vs hx; simpa [Go.Proofs.YtjafamiaahabgaaDoor.ovs, eq_comm] using hx
  | cons x xs ih =>
    intro vs hx
    simp only [Go.Proofs.YtjafamiaahabgaaDoor.ovs] at hx
    cases h1 : Go.Proofs.YtjafamiaahabgaaDoor.ov e x with
    | none => simp [h1] at hx
    | some v =>
      cases h2 : Go.Proofs.YtjafamiaahabgaaDoor.ovs e xs with
      | none => simp [h1, h2] at hx
      | some us =>
        simp [h1, h2] at hx
        subst hx
        simp [h.ov h1, ih h2]

theorem Fits.put {N : Nat} {e : Env} {a : Act} (h : Fits N e a) {d : Nat} (hd : d < N) (v : Value) : Fits N ((d, v) :: e) (a.put (some d) v) := by
  refine ⟨h.defers, by simp [Act.put, h.size], fun j u hj => ?_⟩
  rw [look_cons] at hj
  by_cases hdj : d = j
  · subst hdj
    rw [if_pos rfl] at hj
    injection hj with hj
    subst hj
    simp [Act.put, h.size, hd]
  · rw [if_neg hdj] at hj
    have := h.get j u hj
    simpa [Act.put, Array.getElem?_setIfInBounds_ne hdj] using this

def Sub (e e' : Env) : Prop := ∀ j v, look e j = some v → look e' j = some v
theorem Fits.sub {N : Nat} {e e' : Env} {a : Act} (h : Fits N e' a) (hs : Sub e e') : Fits N e a := ⟨h.defers, h.size, fun j v hj => h.get j v (hs j v hj)⟩

def subL : Env → Env → Prop
  | [], _ => True
  | (i, v) :: l, e => look e i = some v ∧ subL l e
theorem subL.sub : ∀ {l e : Env}, subL l e → Sub l e
  | [], _, _ => fun j v h => by simp [look] at h
  | (i, u) :: l, e, h => fun j v hj => by
    rw [look_cons] at hj
    by_cases hij : i = j
    · subst hij
      rw [if_pos rfl] at hj
      rw [h.1]; exact hj
    · rw [if_neg hij] at hj
      exact subL.sub h.2 j v hj

/-! ### The table of types -/
inductive Sh where
  | bool | int (k : IntKind) | str | ptr (e : TypeId) | slice (e : TypeId) | array (n : Nat) (e : TypeId) | map (k e : TypeId)
  | struct (fs : List (Nat × TypeId)) | func | iface | other

structure Td where
  sh : Sh
  size : Nat
  bytes : Nat
  zero : Value

def shOf : TypeDesc → Sh
  | .bool => .bool
  | .int k => .int k
  | .string => .str
  | .pointer e => .ptr e
  | .slice e => .slice e
  | .array n e => .array n e
  | .map k e => .map k e
  | .struct fs => .struct (fs.toList.map fun f => (f.offset, f.type))
  | .func .. => .func
  | .interface _ => .iface
  | _ => .other

structure TdOk (P : Program) (t : TypeId) (d : Td) : Prop where
  sh : (P.underlying t).map shOf = some d.sh
  info : (P.info? t).map (fun i => (i.zero, i.size, i.bytes)) = some (some d.zero, d.size, d.bytes)

abbrev Tab := List (Nat × Td)
def TabOk (P : Program) (T : Tab) : Prop := ∀ t d, look T t = some d → TdOk P t d
theorem tabOk_nil {P : Program} : TabOk P [] := fun _ _ h => by simp [look] at h
theorem tabOk_cons {P : Program} {t : TypeId} {d : Td} {T : Tab} (h : TdOk P t d) (h' : TabOk P T) : TabOk P ((t, d) :: T) := fun u c hu => by
  rw [look_cons] at hu
  by_cases htu : t = u
  · subst htu
    rw [if_pos rfl] at hu
    injection hu with hu
    subst hu; exact h
  · rw [if_neg htu] at hu
    exact h' u c hu

def Sh.agg : Sh → Bool
  | .struct _ | .array _ _ => true
  | _ => false

section
variable {P : Program} {t : TypeId} {d : Td} (h : TdOk P t d) (w : World)
include h
theorem TdOk.und : ∃ x, P.underlying t = some x ∧ shOf x = d.sh := by
  have := h.sh
  cases hx : P.underlying t with
  | none => simp [hx] at this
  | some x => exact ⟨x, rfl, by simpa [hx] using this⟩
theorem TdOk.inf : ∃ i, P.info? t = some i ∧ i.zero = some d.zero ∧ i.size = d.size ∧ i.bytes = d.bytes := info_parts h.info
theorem TdOk.run_und : ∃ x, (underlying t).run P w = .ok x w ∧ shOf x = d.sh := by
  obtain ⟨x, hx, hs⟩ := h.und
  exact ⟨x, by simp [underlying, hx], hs⟩
theorem TdOk.run_size : (sizeOf t).run P w = .ok d.size w := by
  obtain ⟨i, hi, _, hs, _⟩ := h.inf
  simp [sizeOf, typeInfo, hi, hs]
theorem TdOk.run_zero : (zeroValue t).run P w = .ok d.zero w := by
  obtain ⟨i, hi, hz, _, _⟩ := h.inf
  simp [zeroValue, typeInfo, hi, hz]
theorem TdOk.run_agg : (isAgg t).run P w = .ok d.sh.agg w := by
  obtain ⟨x, hx, hs⟩ := h.run_und w
  rw [← hs]
  cases x <;> simp [isAgg, hx, shOf, Sh.agg]
end

/-! ### What stops a reduction -/
structure Ar (k : IntKind) (z : Int) (K : Int → Prop) : Prop where
  i ::
  o : K (k.wrap z)
structure Bt (op : BinOp) (k : IntKind) (a b : Int) (K : Int → Prop) : Prop where
  i ::
  o : K (bits op k a b)
structure Shl (k : IntKind) (a b : Int) (K : Int → Prop) : Prop where
  i ::
  o : 0 ≤ b ∧ K (k.wrap (a * 2 ^ (min b.toNat k.bits)))
structure Shr (k : IntKind) (a b : Int) (K : Int → Prop) : Prop where
  i ::
  o : 0 ≤ b ∧ K (a.fdiv (2 ^ (min b.toNat k.bits)))
structure Quo (k : IntKind) (a b : Int) (K : Int → Prop) : Prop where
  i ::
  o : b ≠ 0 ∧ K (k.wrap (a.tdiv b))
structure Rem (k : IntKind) (a b : Int) (K : Int → Prop) : Prop where
  i ::
  o : b ≠ 0 ∧ K (a.tmod b)
/-- a bound, then what follows -/
structure Chk (A B : Prop) : Prop where
  i ::
  o : A ∧ B
structure Br (b : Bool) (A B : Prop) : Prop where
  i ::
  o : (b = true → A) ∧ (b = false → B)
/-- a computation that hands on a value and leaves every world alone -/
structure Qv (P : Program) (s : Sem Value) (K : Value → Prop) : Prop where
  i ::
  o : ∃ v, (∀ w, s.run P w = .ok v w) ∧ K v
structure Rv (P : Program) (s : Sem Value) (w : World) (K : Value → World → Prop) : Prop where
  i ::
  o : ∃ v w', s.run P w = .ok v w' ∧ K v w'
structure Ru (P : Program) (s : Sem Unit) (w : World) (K : World → Prop) : Prop where
  i ::
  o : ∃ w', s.run P w = .ok () w' ∧ K w'
structure Ld (P : Program) (w : World) (t : TypeId) (a : Addr) (K : Value → Prop) : Prop where
  i ::
  o : ∃ v, (loadVar t a).run P w = .ok v w ∧ K v
structure St (P : Program) (w : World) (t : TypeId) (a : Addr) (v : Value) (K : World → Prop) : Prop where
  i ::
  o : ∃ w', (storeVar t a v).run P w = .ok () w' ∧ K w'
/-- a call of function f that returns -/
structure Fn (P : Program) (f : FuncId) (args : Array Value) (w : World) (K : Value → World → Prop) : Prop where
  i ::
  o : (∃ fn, P.funcs[f]? = some fn ∧ (fn.name == "runtime.NumGoroutine") = false ∧ fn.body.isNone = false) ∧
  Calls P f args w fun e w' => ∃ v, e = .returned v ∧ K v w'

/-- whether two structs or arrays are alike -/
structure Eg (P : Program) (t : TypeId) (a b : Array Value) (K : Bool → Prop) : Prop where
  i ::
  o : ∃ r : Bool, (∀ w, (Op.equal t (.agg a) (.agg b)).run P w = .ok r w) ∧ P.eqGuardType P.depth t = false ∧ K r
theorem Eg.mk {P : Program} {t : TypeId} {a b : Array Value} {K : Bool → Prop} (r : Bool) (h : ∀ w, (Op.equal t (.agg a) (.agg b)).run P w = .ok r w) (hg : P.eqGuardType P.depth t = false) (hk : K r) : Eg P t a b K := ⟨⟨r, h, hg, hk⟩⟩

theorem Ar.mk {k : IntKind} {z : Int} {K : Int → Prop} (h : K (k.wrap z)) : Ar k z K := ⟨h⟩
theorem Bt.mk {op : BinOp} {k : IntKind} {a b : Int} {K : Int → Prop} (h : K (bits op k a b)) : Bt op k a b K := ⟨h⟩
theorem Bt.out {op : BinOp} {k : IntKind} {a b : Int} {K : Int → Prop} (h : Bt op k a b K) : K (bits op k a b) := h.o
theorem Shl.out {k : IntKind} {a b : Int} {K : Int → Prop} (h : Shl k a b K) : 0 ≤ b ∧ K (k.wrap (a * 2 ^ (min b.toNat k.bits))) := h.o
theorem Shr.out {k : IntKind} {a b : Int} {K : Int → Prop} (h : Shr k a b K) : 0 ≤ b ∧ K (a.fdiv (2 ^ (min b.toNat k.bits))) := h.o
theorem Quo.out {k : IntKind} {a b : Int} {K : Int → Prop} (h : Quo k a b K) : b ≠ 0 ∧ K (k.wrap (a.tdiv b)) := h.o
theorem Rem.out {k : IntKind} {a b : Int} {K : Int → Prop} (h : Rem k a b K) : b ≠ 0 ∧ K (a.tmod b) := h.o
theorem Chk.mk {A B : Prop} (h : A) (h' : B) : Chk A B := ⟨⟨h, h'⟩⟩
theorem Chk.out {A B : Prop} (h : Chk A B) : A ∧ B := h.o
theorem Shl.mk {k : IntKind} {a b : Int} {K : Int → Prop} (hb : 0 ≤ b) (h : K (k.wrap (a * 2 ^ (min b.toNat k.bits)))) : Shl k a b K := ⟨⟨hb, h⟩⟩
theorem Shr.mk {k : IntKind} {a b : Int} {K : Int → Prop} (hb : 0 ≤ b) (h : K (a.fdiv (2 ^ (min b.toNat k.bits)))) : Shr k a b K := ⟨⟨hb, h⟩⟩
theorem Quo.mk {k : IntKind} {a b : Int} {K : Int → Prop} (hb : b ≠ 0) (h : K (k.wrap (a.tdiv b))) : Quo k a b K := ⟨⟨hb, h⟩⟩
theorem Rem.mk {k : IntKind} {a b : Int} {K : Int → Prop} (hb : b ≠ 0) (h : K (a.tmod b)) : Rem k a b K := ⟨⟨hb, h⟩⟩
theorem Ar.out {k : IntKind} {z : Int} {K : Int → Prop} (h : Ar k z K) : K (k.wrap z) := h.o
theorem Ar.i64 {z : Int} {K : Int → Prop} (h0 : -9223372036854775808 ≤ z) (h1 : z ≤ 9223372036854775807) (h : K z) : Ar .i64 z K := .mk (by rw [IntWalk.i64_in z ⟨h0, h1⟩]; exact h)
theorem Ar.u64 {z : Int} {K : Int → Prop} (h0 : 0 ≤ z) (h1 : z ≤ 18446744073709551615) (h : K z) : Ar .u64 z K := .mk (by rw [IntWalk.u64_in z ⟨h0, h1⟩]; exact h)
theorem Ar.u32 {z : Int} {K : Int → Prop} (h0 : 0 ≤ z) (h1 : z ≤ 4294967295) (h : K z) : Ar .u32 z K := .mk (by rw [IntWalk.u32_in z ⟨h0, h1⟩]; exact h)
theorem Ar.u8 {z : Int} {K : Int → Prop} (h0 : 0 ≤ z) (h1 : z ≤ 255) (h : K z) : Ar .u8 z K := .mk (by rw [IntWalk.u8_in z ⟨h0, h1⟩]; exact h)
theorem Br.mk {b : Bool} {A B : Prop} (h : b = true → A) (h' : b = false → B) : Br b A B := ⟨⟨h, h'⟩⟩
theorem Br.out {b : Bool} {A B : Prop} (h : Br b A B) : (b = true → A) ∧ (b = false → B) := h.o
theorem Br.tt {A B : Prop} (h : A) : Br true A B := .mk (fun _ => h) nofun
theorem Br.ff {A B : Prop} (h : B) : Br false A B := .mk nofun (fun _ => h)
theorem Br.dec {p : Prop} [Decidable p] {A B : Prop} (h : p → A) (h' : ¬p → B) : Br (decide p) A B := .mk (fun e => h (of_decide_eq_true e)) (fun e => h' (of_decide_eq_false e))
theorem Br.dec_t {p : Prop} [Decidable p] {A B : Prop} (hp : p) (h : A) : Br (decide p) A B := .dec (fun _ => h) (fun n => absurd hp n)
theorem Br.dec_f {p : Prop} [Decidable p] {A B : Prop} (hp : ¬p) (h : B) : Br (decide p) A B := .dec (fun y => absurd y hp) (fun _ => h)
theorem Br.not {b : Bool} {A B : Prop} (h : Br b B A) : Br (!b) A B := .mk (fun e => h.out.2 (by simpa using e)) (fun e => h.out.1 (by simpa using e))
theorem Qv.mk {P : Program} {s : Sem Value} {K : Value → Prop} (v : Value) (h : ∀ w, s.run P w = .ok v w) (hk : K v) : Qv P s K := ⟨⟨v, h, hk⟩⟩
theorem Rv.mk {P : Program} {s : Sem Value} {w : World} {K : Value → World → Prop} {v : Value} {w' : World} (h : s.run P w = .ok v w') (hk : K v w') : Rv P s w K := ⟨⟨v, w', h, hk⟩⟩
theorem Ru.mk {P : Program} {s : Sem Unit} {w : World} {K : World → Prop} {w' : World} (h : s.run P w = .ok () w') (hk : K w') : Ru P s w K := ⟨⟨w', h, hk⟩⟩
theorem Ld.mk {P : Program} {w : World} {t : TypeId} {a : Addr} {K : Value → Prop} {v : Value} (h : (loadVar t a).run P w = .ok v w) (hk : K v) : Ld P w t a K := ⟨⟨v, h, hk⟩⟩
theorem St.mk {P : Program} {w : World} {t : TypeId} {a : Addr} {v : Value} {K : World → Prop} {w' : World} (h : (storeVar t a v).run P w = .ok () w') (hk : K w') : St P w t a v K := ⟨⟨w', h, hk⟩⟩

/-! ### Operations that leave the world alone -/
def ikEq : IntKind → IntKind → Bool
  | .i8, .i8 | .i16, .i16 | .i32, .i32 | .i64, .i64 | .u8, .u8 | .u16, .u16 | .u32, .u32 | .u64, .u64 => true
  | _, _ => false
theorem ikEq_eq {a b : IntKind} (h : ikEq a b = true) : a = b := by cases a <;> cases b <;> first | rfl | (simp [ikEq] at h)

def whenT (b : Bool) (A : Prop) : Prop := match b with
  | true => A
  | false => False
theorem whenT_out {b : Bool} {A : Prop} (h : whenT b A) : b = true ∧ A := by cases b <;> first | exact h.elim | exact ⟨rfl, h⟩

/-- a binary operator on two values of a type of that shape -/
def binV (op : BinOp) (sh : Sh) (x y : Value) (K : Value → Prop) : Prop :=
  match x, y with
  | .int k a, .int k' b => match op with
    | .shl => Shl k a b fun z => K (.int k z)
    | .shr => Shr k a b fun z => K (.int k z)
    | .add => whenT (ikEq k k') (Ar k (a + b) fun z => K (.int k z))
    | .sub => whenT (ikEq k k') (Ar k (a - b) fun z => K (.int k z))
    | .mul => whenT (ikEq k k') (Ar k (a * b) fun z => K (.int k z))
    | .quo => whenT (ikEq k k') (Quo k a b fun z => K (.int k z))
    | .rem => whenT (ikEq k k') (Rem k a b fun z => K (.int k z))
    | .and => whenT (ikEq k k') (Bt .and k a b fun z => K (.int k z))
    | .or => whenT (ikEq k k') (Bt .or k a b fun z => K (.int k z))
    | .xor => whenT (ikEq k k') (Bt .xor k a b fun z => K (.int k z))
    | .andNot => whenT (ikEq k k') (Bt .andNot k a b fun z => K (.int k z))
    | .eql => whenT (ikEq k k') (K (.bool (decide (a = b))))
    | .neq => whenT (ikEq k k') (K (.bool (!decide (a = b))))
    | .lss => whenT (ikEq k k') (K (.bool (decide (a < b))))
    | .leq => whenT (ikEq k k') (K (.bool (decide (a ≤ b))))
    | .gtr => whenT (ikEq k k') (K (.bool (decide (b < a))))
    | .geq => whenT (ikEq k k') (K (.bool (decide (b ≤ a))))
  | .string a, .string b => match op with
    | .add => Chk (a.size + b.size ≤ 9223372036854775807) (K (.string (a ++ b)))
    | .eql => K (.bool (decide (a = b)))
    | .neq => K (.bool (!decide (a = b)))
    | .lss => K (.bool (Op.bytesLess a.toList b.toList))
    | .gtr => K (.bool (!(Op.bytesLess a.toList b.toList || decide (a = b))))
    | .leq => K (.bool (Op.bytesLess a.toList b.toList || decide (a = b)))
    | .geq => K (.bool (!Op.bytesLess a.toList b.toList))
    | _ => False
  | .bool a, .bool b => match op, sh with
    | .eql, .bool => K (.bool (a == b))
    | .neq, .bool => K (.bool (!(a == b)))
    | _, _ => False
  | .pointer none, .pointer b => match op, sh with
    | .eql, .ptr _ => K (.bool b.isNone)
    | .neq, .ptr _ => K (.bool (!b.isNone))
    | _, _ => False
  | .pointer (some a), .pointer b => match op, sh with
    | .eql, .ptr _ => match b with
      | none => K (.bool false)
      | some _ => False
    | .neq, .ptr _ => match b with
      | none => K (.bool true)
      | some _ => False
    | _, _ => False
  | .slice a _ _, .slice none _ _ => match op, sh with
    | .eql, .slice _ => K (.bool a.isNone)
    | .neq, .slice _ => K (.bool (!a.isNone))
    | _, _ => False
  | .map a, .map none => match op, sh with
    | .eql, .map _ _ => K (.bool a.isNone)
    | .neq, .map _ _ => K (.bool (!a.isNone))
    | _, _ => False
  | _, _ => False

theorem toList_beq (a b : ByteArray) : (a.toList == b.toList) = decide (a = b) := by
  rw [ByteArray.toList_eq, ByteArray.toList_eq]
  by_cases h : a = b
  · simp [h]
  · have : ¬ a.data.toList = b.data.toList := fun e => h (by
      cases a; cases b
      simp only [ByteArray.mk.injEq]
      exact Array.toList_inj.1 e)
    simp only [h, decide_false]
    exact beq_eq_false_iff_ne.2 this

/-- what an operation on values gives in every world -/
def Gives (P : Program) (s : Sem Value) (K : Value → Prop) : Prop := ∃ v, (∀ w, s.run P w = .ok v w) ∧ K v
theorem Gives.pure {P : Program} {v : Value} {K : Value → Prop} (h : K v) : Gives P (Pure.pure v) K := ⟨v, fun _ => rfl, h⟩
theorem Gives.of_eq {P : Program} {s : Sem Value} {v : Value} {K : Value → Prop} (hs : s = Pure.pure v) (h : K v) : Gives P s K := ⟨v, fun _ => by rw [hs]; rfl, h⟩

section
variable {P : Program} {t : TypeId} (w : World)
theorem eqRun {x y : Value} {b : Bool} (h : (Op.equalIn (9999 + 1) t x y).run P w = .ok b w) :
    ((do let r ← Op.equal t x y; pure (Value.bool r)) : Sem Value).run P w = .ok (.bool b) w := by
  have h' : (Op.equal t x y).run P w = .ok b w := h
  simp [h']
theorem neqRun {x y : Value} {b : Bool} (h : (Op.equalIn (9999 + 1) t x y).run P w = .ok b w) :
    ((do let r ← Op.equal t x y; pure (Value.bool (!r))) : Sem Value).run P w = .ok (.bool (!b)) w := by
  have h' : (Op.equal t x y).run P w = .ok b w := h
  simp [h']
theorem eqIn_bool (hu : P.underlying t = some .bool) (d : Nat) (a b : Bool) : (Op.equalIn (d + 1) t (.bool a) (.bool b)).run P w = .ok (a == b) w := by
  rw [Op.equalIn]; simp [run_underlying hu]
theorem eqIn_ptrN {e : TypeId} (hu : P.underlying t = some (.pointer e)) (d : Nat) (b : Option Addr) : (Op.equalIn (d + 1) t (.pointer none) (.pointer b)).run P w = .ok b.isNone w := by
  rw [Op.equalIn]; simp [run_underlying hu]
theorem eqIn_ptrS {e : TypeId} (hu : P.underlying t = some (.pointer e)) (d : Nat) (a : Addr) : (Op.equalIn (d + 1) t (.pointer (some a)) (.pointer none)).run P w = .ok false w := by
  rw [Op.equalIn]; simp [run_underlying hu]
theorem eqIn_slice {e : TypeId} (hu : P.underlying t = some (.slice e)) (d : Nat) (a : Option Addr) (n c n' c' : Nat) : (Op.equalIn (d + 1) t (.slice a n c) (.slice none n' c')).run P w = .ok a.isNone w := by
  rw [Op.equalIn]; cases a <;> simp [run_underlying hu]
theorem eqIn_map {k e : TypeId} (hu : P.underlying t = some (.map k e)) (d : Nat) (a : Option Nat) : (Op.equalIn (d + 1) t (.map a) (.map none)).run P w = .ok a.isNone w := by
  rw [Op.equalIn]; cases a <;> simp [run_underlying hu]
end

set_option maxHeartbeats 1000000 in
theorem binV_gives {P : Program} {op : BinOp} {t : TypeId} {sh : Sh} {x y : Value} {K : Value → Prop} (hu : (P.underlying t).map shOf = some sh) (ox oy : Operand)
    (h : binV op sh x y K) : Gives P (do eqGuard op t ox oy x y; binOp op t x y) K := by
  obtain ⟨u, hu, hs⟩ : ∃ u, P.underlying t = some u ∧ shOf u = sh := by
    cases hx : P.underlying t with
    | none => simp [hx] at hu
    | some u => exact ⟨u, rfl, by simpa [hx] using hu⟩
  unfold binV at h
  split at h
  · rename_i k a k' b
    simp only [eqGuard_at_int, pure_bind]
    split at h
    · have h := h.out
      refine ⟨_, fun w => ?_, h.2⟩
      have h0 : ¬ b < 0 := by omega
      simp [binOp, Op.shift, h0]
    · have h := h.out
      refine ⟨_, fun w => ?_, h.2⟩
      have h0 : ¬ b < 0 := by omega
      simp [binOp, Op.shift, h0]
    all_goals (replace h := whenT_out h; obtain rfl := ikEq_eq h.1; replace h := h.2)
    · exact .of_eq (by simp [binOp_add, Op.intArith]) h.out
    · exact .of_eq (by simp [binOp_sub, Op.intArith]) h.out
    · exact .of_eq (by simp [binOp_mul, Op.intArith]) h.out
    · exact .of_eq (by simp [binOp_quo, Op.intDiv, h.out.1]) h.out.2
    · exact .of_eq (by simp [binOp_rem, Op.intDiv, h.out.1]) h.out.2
    · exact .of_eq (by simp [binOp_and, Op.intBits, bits]) h.out
    · exact .of_eq (by simp [binOp_or, Op.intBits, bits]) h.out
    · exact .of_eq (by simp [binOp_xor, Op.intBits, bits]) h.out
    · exact .of_eq (by simp [binOp, Op.intBits, bits]) h.out
    · exact .of_eq (by simp [binOp, Op.intCmp]; rfl) h
    · exact .of_eq (by simp [binOp, Op.intCmp]; rfl) h
    all_goals exact .of_eq (by simp [binOp, Op.intCmp]) h
  · rename_i a b
    simp only [eqGuard_at_string, pure_bind]
    split at h
    · have h := h.out
      refine .of_eq ?_ h.2
      have h0 : ¬ ((a.size + b.size : Nat) : Int) > IntKind.i64.max := by rw [IntKind.max_i64]; omega
      simp only [binOp, Op.stringOp, if_neg h0]
    all_goals first
      | exact h.elim
      | exact .of_eq (by simp [binOp, Op.stringOp, toList_beq]) h
  · simp only [eqGuard_at_bool, pure_bind]
    split at h
    · cases u <;> simp only [shOf, reduceCtorEq] at hs
      exact ⟨_, fun w => eqRun w (eqIn_bool w hu _ _ _), h⟩
    · cases u <;> simp only [shOf, reduceCtorEq] at hs
      exact ⟨_, fun w => neqRun w (eqIn_bool w hu _ _ _), h⟩
    · exact h.elim
  · simp only [eqGuard_at_pointer, pure_bind]
    split at h
    · cases u <;> simp only [shOf, reduceCtorEq] at hs
      exact ⟨_, fun w => eqRun w (eqIn_ptrN w hu _ _), h⟩
    · cases u <;> simp only [shOf, reduceCtorEq] at hs
      exact ⟨_, fun w => neqRun w (eqIn_ptrN w hu _ _), h⟩
    · exact h.elim
  · simp only [eqGuard_at_pointer, pure_bind]
    split at h
    · cases u <;> simp only [shOf, reduceCtorEq] at hs
      split at h
      · exact ⟨_, fun w => eqRun w (eqIn_ptrS w hu _ _), h⟩
      · exact h.elim
    · cases u <;> simp only [shOf, reduceCtorEq] at hs
      split at h
      · exact ⟨_, fun w => neqRun w (eqIn_ptrS w hu _ _), h⟩
      · exact h.elim
    · exact h.elim
  · simp only [eqGuard_at_slice, pure_bind]
    split at h
    · cases u <;> simp only [shOf, reduceCtorEq] at hs
      exact ⟨_, fun w => eqRun w (eqIn_slice w hu _ _ _ _ _ _), h⟩
    · cases u <;> simp only [shOf, reduceCtorEq] at hs
      exact ⟨_, fun w => neqRun w (eqIn_slice w hu _ _ _ _ _ _), h⟩
    · exact h.elim
  · simp only [eqGuard_at_map, pure_bind]
    split at h
    · cases u <;> simp only [shOf, reduceCtorEq] at hs
      exact ⟨_, fun w => eqRun w (eqIn_map w hu _ _), h⟩
    · cases u <;> simp only [shOf, reduceCtorEq] at hs
      exact ⟨_, fun w => neqRun w (eqIn_map w hu _ _), h⟩
    · exact h.elim
  · exact h.elim

end Go.Proofs.YtjafamiaahabgaaDoor

namespace Go.Proofs.YtjafamiaahabgaaDoor
set_option linter.unusedVariables false

/-- what is left, hidden from 'assumption' -/
structure Hid (A : Prop) : Prop where
  out : A
theorem RunR {A G : Prop} (k : A) (h : Hid A → G := by
  intro hA
  repeat (first | refine V.seq ?_ | (refine V.reg ttOk ?_; conv => whnf) | refine V.cnd rfl ?_ | refine V.blk ?_ | (refine V.ext ?_; conv => whnf) | (refine V.rt ?_; conv => whnf) | (refine V.skp ?_; conv => whnf) | (refine V.lab ?_; conv => whnf) | (refine Ar.i64 (by omega) (by omega) ?_; conv => whnf) | (refine Ar.u64 (by omega) (by omega) ?_; conv => whnf) | (refine Ar.u32 (by omega) (by omega) ?_; conv => whnf) | (refine Ar.u8 (by omega) (by omega) ?_; conv => whnf) | (refine Br.tt ?_; conv => whnf) | (refine Br.ff ?_; conv => whnf) | refine Br.not ?_ | (refine Br.yes (by assumption) ?_; conv => whnf) | (refine Br.no (by assumption) ?_; conv => whnf) | (refine Br.dec_t (by omega) ?_; conv => whnf) | (refine Br.dec_f (by omega) ?_; conv => whnf) | (refine Chk.mk (by omega) ?_; conv => whnf) | fail)
  exact hA.out) : G := h ⟨k⟩
theorem RunH {A G : Prop} (k : A) (h : Hid A → G := by
  intro hA
  first | (refine V.go ?_; first | ((first | refine V.reg ttOk ?_ | refine V.ext ?_ | refine V.rt ?_ | refine V.skp ?_ | refine V.lab ?_ | fail); conv => whnf) | refine V.seq ?_ | refine V.cnd rfl ?_ | refine V.blk ?_ | (refine V.tailA ttOk mixed (by decide +kernel) ?_; replace hL := hL.drew; conv => whnf) | fail) | (refine Br.go ?_; first | ((first | refine Br.tt ?_ | refine Br.ff ?_ | refine Br.y ?_ | refine Br.n ?_ | refine Br.t ?_ | refine Br.f ?_ | fail); conv => whnf) | refine Br.not ?_ | fail) | (refine Ld.go ?_; first | ((first | refine Ld.x ttOk hL ?_ | refine Ld.p ttOk hL ?_ | fail); conv => whnf) | fail) | (refine St.x ttOk hL hB (fun w hL hB => ?_); dsimp only [List.set, splice, overL, cellsL, takeL, dropL, List.drop, List.take] at hL; conv => whnf) | (refine Lq.go ?_; first | ((first | refine Lq.x ttOk hL.cls ?_ | refine Lq.x ttOk (fun _ h => h) ?_ | refine Lq.p ttOk hL.cls ?_ | refine Lq.p ttOk (fun _ h => h) ?_ | fail); conv => whnf) | fail) | (refine Ar.go ?_; first | ((first | refine Ar.s ?_ | refine Ar.u ?_ | refine Ar.h ?_ | refine Ar.b ?_ | fail); conv => whnf) | fail) | ((first | refine Chk.m ?_ | refine Qv.str ttOk rfl rfl rfl ?_ | refine An.x hL ?_ | fail); conv => whnf) | fail
  repeat (first | (refine V.go ?_; first | ((first | refine V.reg ttOk ?_ | refine V.ext ?_ | refine V.rt ?_ | refine V.skp ?_ | refine V.lab ?_ | fail); conv => whnf) | refine V.seq ?_ | refine V.cnd rfl ?_ | refine V.blk ?_ | (refine V.tailA ttOk mixed (by decide +kernel) ?_; replace hL := hL.drew; conv => whnf) | fail) | (refine Br.go ?_; first | ((first | refine Br.tt ?_ | refine Br.ff ?_ | refine Br.y ?_ | refine Br.n ?_ | refine Br.t ?_ | refine Br.f ?_ | fail); conv => whnf) | refine Br.not ?_ | fail) | (refine Ld.go ?_; first | ((first | refine Ld.x ttOk hL ?_ | refine Ld.p ttOk hL ?_ | fail); conv => whnf) | fail) | (refine St.x ttOk hL hB (fun w hL hB => ?_); dsimp only [List.set, splice, overL, cellsL, takeL, dropL, List.drop, List.take] at hL; conv => whnf) | (refine Lq.go ?_; first | ((first | refine Lq.x ttOk hL.cls ?_ | refine Lq.x ttOk (fun _ h => h) ?_ | refine Lq.p ttOk hL.cls ?_ | refine Lq.p ttOk (fun _ h => h) ?_ | fail); conv => whnf) | fail) | (refine Ar.go ?_; first | ((first | refine Ar.s ?_ | refine Ar.u ?_ | refine Ar.h ?_ | refine Ar.b ?_ | fail); conv => whnf) | fail) | ((first | refine Chk.m ?_ | refine Qv.str ttOk rfl rfl rfl ?_ | refine An.x hL ?_ | fail); conv => whnf) | fail)
  first | (have hX := (); have hZ := hL; have hY := hB; revert hX hZ hY; exact hA.out) | (revert hB; revert hL; revert w; exact hA.out)) : G := h ⟨k⟩
/-- .. without drawn regions -/
theorem RunK {A G : Prop} (k : A) (h : Hid A → G := by
  intro hA
  first | (refine V.go ?_; first | ((first | refine V.reg ttOk ?_ | refine V.ext ?_ | refine V.rt ?_ | refine V.skp ?_ | refine V.lab ?_ | fail); conv => whnf) | refine V.seq ?_ | refine V.cnd rfl ?_ | refine V.blk ?_ | fail) | (refine Br.go ?_; first | ((first | refine Br.tt ?_ | refine Br.ff ?_ | refine Br.y ?_ | refine Br.n ?_ | refine Br.t ?_ | refine Br.f ?_ | fail); conv => whnf) | refine Br.not ?_ | fail) | (refine Ld.go ?_; first | ((first | refine Ld.x ttOk hL ?_ | refine Ld.p ttOk hL ?_ | fail); conv => whnf) | fail) | (refine St.x ttOk hL hB (fun w hL hB => ?_); dsimp only [List.set, splice, overL, cellsL, takeL, dropL, List.drop, List.take] at hL; conv => whnf) | (refine Lq.go ?_; first | ((first | refine Lq.x ttOk hL.cls ?_ | refine Lq.x ttOk (fun _ h => h) ?_ | refine Lq.p ttOk hL.cls ?_ | refine Lq.p ttOk (fun _ h => h) ?_ | fail); conv => whnf) | fail) | (refine Ar.go ?_; first | ((first | refine Ar.s ?_ | refine Ar.u ?_ | refine Ar.h ?_ | refine Ar.b ?_ | fail); conv => whnf) | fail) | ((first | refine Chk.m ?_ | refine Qv.str ttOk rfl rfl rfl ?_ | refine An.x hL ?_ | fail); conv => whnf) | fail
  repeat (first | (refine V.go ?_; first | ((first | refine V.reg ttOk ?_ | refine V.ext ?_ | refine V.rt ?_ | refine V.skp ?_ | refine V.lab ?_ | fail); conv => whnf) | refine V.seq ?_ | refine V.cnd rfl ?_ | refine V.blk ?_ | fail) | (refine Br.go ?_; first | ((first | refine Br.tt ?_ | refine Br.ff ?_ | refine Br.y ?_ | refine Br.n ?_ | refine Br.t ?_ | refine Br.f ?_ | fail); conv => whnf) | refine Br.not ?_ | fail) | (refine Ld.go ?_; first | ((first | refine Ld.x ttOk hL ?_ | refine Ld.p ttOk hL ?_ | fail); conv => whnf) | fail) | (refine St.x ttOk hL hB (fun w hL hB => ?_); dsimp only [List.set, splice, overL, cellsL, takeL, dropL, List.drop, List.take] at hL; conv => whnf) | (refine Lq.go ?_; first | ((first | refine Lq.x ttOk hL.cls ?_ | refine Lq.x ttOk (fun _ h => h) ?_ | refine Lq.p ttOk hL.cls ?_ | refine Lq.p ttOk (fun _ h => h) ?_ | fail); conv => whnf) | fail) | (refine Ar.go ?_; first | ((first | refine Ar.s ?_ | refine Ar.u ?_ | refine Ar.h ?_ | refine Ar.b ?_ | fail); conv => whnf) | fail) | ((first | refine Chk.m ?_ | refine Qv.str ttOk rfl rfl rfl ?_ | refine An.x hL ?_ | fail); conv => whnf) | fail)
  first | (have hX := (); have hZ := hL; have hY := hB; revert hX hZ hY; exact hA.out) | (revert hB; revert hL; revert w; exact hA.out)) : G := h ⟨k⟩
end Go.Proofs.YtjafamiaahabgaaDoor

namespace Go.Proofs.YtjafamiaahabgaaDoor
set_option linter.unusedVariables false
set_option linter.unusedSimpArgs false

def lget {α : Type} : List α → Nat → Option α
  | [], _ => none
  | x :: _, 0 => some x
  | _ :: xs, n + 1 => lget xs n
theorem lget_eq {α : Type} : ∀ (l : List α) (n : Nat), lget l n = l[n]?
  | [], _ => by simp [lget]
  | _ :: _, 0 => by simp [lget]
  | _ :: xs, n + 1 => by simp [lget, lget_eq xs n]

/-- a part of a struct's or an array's cells -/
def partV (T : Tab) (t : TypeId) (cs : Array Value) (off : Nat) (K : Value → Prop) : Prop :=
  match look T t with
  | some ⟨sh, sz, _, _⟩ => match sh.agg with
    | true => K (.agg ((cs.toList.drop off).take sz).toArray)
    | false => match lget cs.toList off with
      | some v => K v
      | none => False
  | none => False

theorem partV_gives {P : Program} {T : Tab} (hT : TabOk P T) {t : TypeId} {cs : Array Value} {off : Nat} {K : Value → Prop} (h : partV T t cs off K) : Gives P (part t cs off) K := by
  unfold partV at h
  split at h
  · rename_i sh sz by' z hl
    have ht := hT _ _ hl
    split at h
    · rename_i hagg
      refine ⟨_, fun w => ?_, h⟩
      have ha := ht.run_agg w
      simp only [hagg] at ha
      simp only [part, Sem.run_bind, ha, Result.andThen_ok, if_true, ht.run_size w, Sem.run_pure]
      have he : cs.extract off (off + sz) = ((cs.toList.drop off).take sz).toArray := by
        apply Array.ext'
        simp [List.extract_eq_take_drop]
      rw [he]
    · rename_i hagg
      split at h
      · rename_i v hv
        refine ⟨_, fun w => ?_, h⟩
        have ha := ht.run_agg w
        simp only [hagg] at ha
        have hv' : cs[off]? = some v := by rw [lget_eq] at hv; simpa using hv
        simp [part, Sem.run_bind, ha, hv']
      · exact h.elim
  · exact h.elim

/-- the builtins that only compute -/
def bpureV (T : Tab) (b : Builtin) (ts : List TypeId) (vs : List Value) (K : Value → Prop) : Prop :=
  match b, ts, vs with
  | .len, [t], [v] => match look T t with
    | some ⟨sh, _, _, _⟩ => match sh, v with
      | .str, .string s => K (.int .i64 s.size)
      | .slice _, .slice _ n _ => K (.int .i64 n)
      | .array n _, _ => K (.int .i64 n)
      | .map _ _, .map none => K (.int .i64 0)
      | _, _ => False
    | none => False
  | .cap, [t], [v] => match look T t with
    | some ⟨sh, _, _, _⟩ => match sh, v with
      | .slice _, .slice _ _ c => K (.int .i64 c)
      | _, _ => False
    | none => False
  | .min, _, [.int k x, .int k' y] => K (.int k (min x y))
  | .max, _, [.int k x, .int k' y] => K (.int k (max x y))
  | _, _, _ => False

theorem shOf_cases {P : Program} {T : Tab} (hT : TabOk P T) {t : TypeId} {d : Td} (hl : look T t = some d) : ∃ u, P.underlying t = some u ∧ shOf u = d.sh := (hT _ _ hl).und

theorem bpureV_gives {P : Program} {T : Tab} (hT : TabOk P T) {b : Builtin} {ats : Array TypeId} {ty : TypeId} {cs : Array Bool} {vs : List Value} {K : Value → Prop}
    (h : bpureV T b ats.toList vs K) : ∃ v, (∀ w, (builtin b ats ty cs vs.toArray).run P w = .ok (.value v) w) ∧ K v := by
  unfold bpureV at h
  split at h
  · rename_i t v hts
    obtain rfl : ats = #[t] := by cases ats; simp at hts; simp [hts]
    split at h
    · rename_i sh _ _ _ hl
      obtain ⟨u, hu, hs⟩ := shOf_cases hT hl
      split at h
      · rename_i s
        cases u <;> simp only [shOf, reduceCtorEq] at hs
        exact ⟨_, fun w => by simp [BigFrame.builtin_len, Builtin.len_, run_underlying hu, goInt], h⟩
      · cases u <;> simp only [shOf, reduceCtorEq] at hs
        exact ⟨_, fun w => by simp [BigFrame.builtin_len, Builtin.len_, run_underlying hu, goInt], h⟩
      · rename_i n' e'
        cases u <;> simp only [shOf, reduceCtorEq, Sh.array.injEq] at hs
        obtain ⟨rfl, rfl⟩ := hs
        exact ⟨_, fun w => by simp [BigFrame.builtin_len, Builtin.len_, run_underlying hu, goInt], h⟩
      · cases u <;> simp only [shOf, reduceCtorEq] at hs
        exact ⟨_, fun w => by simp [BigFrame.builtin_len, Builtin.len_, run_underlying hu, goInt], h⟩
      · exact h.elim
    · exact h.elim
  · rename_i t v hts
    obtain rfl : ats = #[t] := by cases ats; simp at hts; simp [hts]
    split at h
    · rename_i sh _ _ _ hl
      obtain ⟨u, hu, hs⟩ := shOf_cases hT hl
      split at h
      · cases u <;> simp only [shOf, reduceCtorEq] at hs
        exact ⟨_, fun w => by simp [BigFrame.builtin_cap, Builtin.cap_, run_underlying hu, goInt], h⟩
      · exact h.elim
    · exact h.elim
  · rename_i k x k' y
    have he : (if y < x then y else x) = min x y := by rw [Int.min_def]; split <;> split <;> omega
    exact ⟨_, fun w => by simp [BigFrame.builtin_min, Builtin.min_, List.foldlM, Builtin.min2, he], h⟩
  · rename_i k x k' y
    have he : (if x < y then y else x) = max x y := by rw [Int.max_def]; split <;> split <;> omega
    exact ⟨_, fun w => by simp [BigFrame.builtin_max, Builtin.max_, List.foldlM, Builtin.max2, he], h⟩
  · exact h.elim

end Go.Proofs.YtjafamiaahabgaaDoor

namespace Go.Proofs.YtjafamiaahabgaaDoor
set_option linter.unusedVariables false
set_option linter.unusedSimpArgs false

def bnd (e : Env) (x : Option Operand) (dflt : Int) : Option Int :=
  match x with
  | none => some dflt
  | some x => match ov e x with
    | some (.int _ n) => some n
    | _ => none

def sliceK (a : Option Addr) (sz : Nat) (l h m : Int) (K : Value → Prop) : Prop :=
  match a with
  | none => ∀ n' c' : Nat, (n' : Int) = h - l → (c' : Int) = m - l → K (.slice none n' c')
  | some ⟨b, o, none⟩ => ∀ o' n' c' : Nat, (l < m → (o' : Int) = o + l * sz) → (l = m → o' = o) → (n' : Int) = h - l → (c' : Int) = m - l → K (.slice (some ⟨b, o', none⟩) n' c')
  | some _ => False

/-- the first part: the address stays -/
def sliceK0 (a : Option Addr) (h m : Int) (K : Value → Prop) : Prop :=
  match a with
  | none => ∀ n' c' : Nat, (n' : Int) = h → (c' : Int) = m → K (.slice none n' c')
  | some ⟨b, o, none⟩ => ∀ n' c' : Nat, (n' : Int) = h → (c' : Int) = m → K (.slice (some ⟨b, o, none⟩) n' c')
  | some _ => False

def sliceV (T : Tab) (t : TypeId) (x : Value) (e : Env) (lo hi mx : Option Operand) (K : Value → Prop) : Prop :=
  match look T t with
  | some ⟨sh, _, _, _⟩ => match sh, x with
    | .slice el, .slice a n c => match look T el with
      | some ⟨_, sz, _, _⟩ => match lo with
        | none => match bnd e hi n, bnd e mx c with
          | some h, some m => Chk (0 ≤ h ∧ h ≤ m ∧ m ≤ c) (sliceK0 a h m K)
          | _, _ => False
        | some lo => match ov e lo, bnd e hi n, bnd e mx c with
          | some (.int _ l), some h, some m => Chk (0 ≤ l ∧ l ≤ h ∧ h ≤ m ∧ m ≤ c) (sliceK a sz l h m K)
          | _, _, _ => False
      | none => False
    | .str, .string s => match mx, bnd e lo 0, bnd e hi s.size with
      | none, some l, some h => Chk (0 ≤ l ∧ l ≤ h ∧ h ≤ s.size) (K (.string (s.extract l.toNat h.toNat)))
      | _, _, _ => False
    | .array n el, .pointer (some a) => match look T el with
      | some ⟨_, sz, _, _⟩ => match lo with
        | none => match bnd e hi n, bnd e mx n with
          | some h, some m => Chk (0 ≤ h ∧ h ≤ m ∧ m ≤ n) (sliceK0 (some a) h m K)
          | _, _ => False
        | some lo => match ov e lo, bnd e hi n, bnd e mx n with
          | some (.int _ l), some h, some m => Chk (0 ≤ l ∧ l ≤ h ∧ h ≤ m ∧ m ≤ n) (sliceK (some a) sz l h m K)
          | _, _, _ => False
      | none => False
    | _, _ => False
  | none => False

theorem bnd_some {N : Nat} {e : Env} {a : Act} (ha : Fits N e a) {x : Option Operand} {d n : Int} (h : bnd e x d = some n) :
    (x = none ∧ n = d) ∨ ∃ y k, x = some y ∧ a.eval y = .int k n := by
  unfold bnd at h
  split at h
  · left; exact ⟨rfl, by injection h with h; exact h.symm⟩
  · rename_i y
    split at h
    · rename_i k m hm
      injection h with h
      subst h
      exact .inr ⟨y, k, rfl, ha.ov hm⟩
    · cases h

theorem bounds_run {P : Program} (w : World) {b : Bool} {n c : Nat} {lo hi mx : Option Value} {l h m : Int}
    (hlo : (lo = none ∧ l = 0) ∨ ∃ k, lo = some (.int k l)) (hhi : (hi = none ∧ mx = none ∧ h = n) ∨ ∃ k, hi = some (.int k h)) (hmx : (mx = none ∧ m = c) ∨ ∃ k, mx = some (.int k m))
    (h0 : 0 ≤ l) (h1 : l ≤ h) (h2 : h ≤ m) (h3 : m ≤ c) : (Instr.sliceBounds b n c lo hi mx).run P w = .ok (l.toNat, h.toNat, m.toNat) w := by
  have sb : ∀ (k : IntKind) (i : Int) (y : Nat) (code : BoundsCode), 0 ≤ i → i ≤ y → (Instr.sliceBound (.int k i) y code).run P w = .ok i.toNat w :=
    fun k i y code a b => run_sliceBound (P := P) (w := w) k i y code a b
  have hmc : ((m.toNat : Nat) : Int) = m := by omega
  have hhc : ((h.toNat : Nat) : Int) = h := by omega
  rcases hmx with ⟨rfl, rfl⟩ | ⟨km, rfl⟩
  · rcases hhi with ⟨rfl, _, rfl⟩ | ⟨kh, rfl⟩
    · rcases hlo with ⟨rfl, rfl⟩ | ⟨kl, rfl⟩
      · simp [Instr.sliceBounds]
      · simp [Instr.sliceBounds, sb _ _ _ _ h0 h1]
    · have e1 := sb kh h c (if b then .sliceAcap else .sliceAlen) (by omega) h2
      rcases hlo with ⟨rfl, rfl⟩ | ⟨kl, rfl⟩
      · simp [Instr.sliceBounds, e1]
      · have e2 := sb kl l h.toNat .sliceB h0 (by omega)
        simp [Instr.sliceBounds, e1, e2]
  · have e0 := sb km m c (if b then .slice3Acap else .slice3Alen) (by omega) h3
    rcases hhi with ⟨_, hn, _⟩ | ⟨kh, rfl⟩
    · cases hn
    · have e1 := sb kh h m.toNat .slice3B (by omega) (by omega)
      rcases hlo with ⟨rfl, rfl⟩ | ⟨kl, rfl⟩
      · simp [Instr.sliceBounds, e0, e1]
      · have e2 := sb kl l h.toNat .slice3C h0 (by omega)
        simp [Instr.sliceBounds, e0, e1, e2]

theorem sliceK_of {a : Option Addr} {sz : Nat} {l h m : Int} {K : Value → Prop} (h0 : 0 ≤ l) (h1 : l ≤ h) (h2 : h ≤ m) (hk : sliceK a sz l h m K) :
    K (.slice (if m.toNat = l.toNat then a else a.map (·.add (l.toNat * sz))) (h.toNat - l.toNat) (m.toNat - l.toNat)) := by
  unfold sliceK at hk
  split at hk
  · simp only [Option.map_none, ite_self]
    exact hk _ _ (by omega) (by omega)
  · rename_i b o
    by_cases hml : m.toNat = l.toNat
    · rw [if_pos hml]
      exact hk o _ _ (fun _ => by omega) (fun _ => rfl) (by omega) (by omega)
    · rw [if_neg hml]
      simp only [Option.map_some, Addr.add_lit]
      refine hk _ _ _ (fun _ => ?_) (fun _ => by omega) (by omega) (by omega)
      rw [Int.natCast_add, Int.natCast_mul]
      rw [show ((l.toNat : Nat) : Int) = l from by omega]
  · exact hk.elim

theorem sliceK0_of {a : Option Addr} {sz : Nat} {h m : Int} {K : Value → Prop} (h1 : 0 ≤ h) (h2 : h ≤ m) (hk : sliceK0 a h m K) :
    K (.slice (if m.toNat = (0 : Int).toNat then a else a.map (·.add ((0 : Int).toNat * sz))) (h.toNat - (0 : Int).toNat) (m.toNat - (0 : Int).toNat)) := by
  have e0 : (0 : Int).toNat = 0 := rfl
  simp only [e0, Nat.zero_mul]
  have ea : (if m.toNat = 0 then a else a.map (·.add 0)) = a := by
    split
    · rfl
    · cases a <;> simp [Addr.add]
  rw [ea]
  unfold sliceK0 at hk
  split at hk
  · exact hk _ _ (by omega) (by omega)
  · exact hk _ _ (by omega) (by omega)
  · exact hk.elim

theorem opt_eval {N : Nat} {e : Env} {a : Act} (ha : Fits N e a) {x : Option Operand} {d n : Int} (h : bnd e x d = some n) : (x.map a.eval = none ∧ n = d) ∨ ∃ k, x.map a.eval = some (.int k n) := by
  rcases bnd_some ha h with ⟨rfl, h'⟩ | ⟨y, k, rfl, hy⟩
  · exact .inl ⟨rfl, h'⟩
  · exact .inr ⟨k, by simp [hy]⟩

theorem hi_eval {N : Nat} {e : Env} {a : Act} (ha : Fits N e a) {x y : Option Operand} {d h : Int} (hxy : x = none → y = none) (hx : bnd e x d = some h) : (x.map a.eval = none ∧ y.map a.eval = none ∧ h = d) ∨ ∃ k, x.map a.eval = some (.int k h) := by
  rcases bnd_some ha hx with ⟨rfl, h'⟩ | ⟨y, k, rfl, hy⟩
  · exact .inl ⟨rfl, by rw [hxy rfl]; rfl, h'⟩
  · exact .inr ⟨k, by simp [hy]⟩

theorem sliceV_gives {P : Program} {T : Tab} (hT : TabOk P T) {N : Nat} {e : Env} {a : Act} (ha : Fits N e a) {t : TypeId} {x : Value} {lo hi mx : Option Operand} {K : Value → Prop}
    (hmx : hi = none → mx = none) (h : sliceV T t x e lo hi mx K) : Gives P (Instr.sliceAt t x (lo.map a.eval) (hi.map a.eval) (mx.map a.eval)) K := by
  unfold sliceV at h
  split at h
  case h_2 => exact h.elim
  rename_i sh _ _ _ hl
  obtain ⟨u, hu, hs⟩ := shOf_cases hT hl
  split at h
  · rename_i el ao n c
    cases u <;> simp only [shOf, reduceCtorEq, Sh.slice.injEq] at hs
    subst hs
    split at h
    case h_2 => exact h.elim
    rename_i _ sz _ _ hel
    have hsz := fun w => (hT _ _ hel).run_size w
    split at h
    · split at h
      case h_2 => exact h.elim
      rename_i hh mm eh em
      obtain ⟨⟨h1, h2, h3⟩, hk⟩ := h.out
      refine ⟨_, fun w => ?_, sliceK0_of (sz := sz) h1 h2 hk⟩
      have hb := bounds_run (P := P) w (b := true) (n := n) (c := c) (lo := none) (l := 0) (.inl ⟨rfl, rfl⟩) (hi_eval ha hmx eh) (opt_eval ha em) (by omega) h1 h2 h3
      simp [Instr.sliceAt, Instr.slice, run_underlying hu, hb, hsz]
    · rename_i lo'
      split at h
      case h_2 => exact h.elim
      rename_i kl l hh mm el' eh em
      obtain ⟨⟨h0, h1, h2, h3⟩, hk⟩ := h.out
      refine ⟨_, fun w => ?_, sliceK_of h0 h1 h2 hk⟩
      have hb := bounds_run (P := P) w (b := true) (n := n) (c := c) (lo := some (a.eval lo')) (l := l) (.inr ⟨kl, by rw [ha.ov el']⟩) (hi_eval ha hmx eh) (opt_eval ha em) h0 h1 h2 h3
      simp [Instr.sliceAt, Instr.slice, run_underlying hu, hb, hsz]
  · rename_i s
    cases u <;> simp only [shOf, reduceCtorEq] at hs
    split at h
    case h_2 => exact h.elim
    rename_i l hh el' eh
    obtain ⟨⟨h0, h1, h2⟩, hk⟩ := h.out
    refine ⟨_, fun w => ?_, hk⟩
    have hb := bounds_run (P := P) w (b := false) (n := s.size) (c := s.size) (mx := none) (m := s.size) (opt_eval ha el' |>.imp (fun h => ⟨h.1, h.2⟩) id) (hi_eval (y := none) ha (fun _ => rfl) eh |>.imp (fun h => ⟨h.1, rfl, h.2.2⟩) id) (.inl ⟨rfl, rfl⟩) h0 h1 h2 (by omega)
    simp [Instr.sliceAt, Instr.slice, run_underlying hu, hb]
  · rename_i n el ad
    cases u <;> simp only [shOf, reduceCtorEq, Sh.array.injEq] at hs
    obtain ⟨rfl, rfl⟩ := hs
    split at h
    case h_2 => exact h.elim
    rename_i _ sz _ _ hel
    have hsz := fun w => (hT _ _ hel).run_size w
    split at h
    · split at h
      case h_2 => exact h.elim
      rename_i hh mm eh em
      obtain ⟨⟨h1, h2, h3⟩, hk⟩ := h.out
      refine ⟨_, fun w => ?_, sliceK0_of (sz := sz) h1 h2 hk⟩
      have hb := bounds_run (P := P) w (b := false) (lo := none) (l := 0) (.inl ⟨rfl, rfl⟩) (hi_eval ha hmx eh) (opt_eval ha em) (by omega) h1 h2 h3
      simp only [Instr.sliceAt, Sem.run_bind, run_underlying hu, Result.andThen_ok, Instr.sureAddr, Sem.run_pure, Option.map_none, hb, hsz, Option.map_some]
      congr 3
      split <;> rfl
    · rename_i lo'
      split at h
      case h_2 => exact h.elim
      rename_i kl l hh mm el' eh em
      obtain ⟨⟨h0, h1, h2, h3⟩, hk⟩ := h.out
      refine ⟨_, fun w => ?_, sliceK_of h0 h1 h2 hk⟩
      have hb := bounds_run (P := P) w (b := false) (lo := some (a.eval lo')) (l := l) (.inr ⟨kl, by rw [ha.ov el']⟩) (hi_eval ha hmx eh) (opt_eval ha em) h0 h1 h2 h3
      simp only [Instr.sliceAt, Sem.run_bind, run_underlying hu, Result.andThen_ok, Instr.sureAddr, Sem.run_pure, Option.map_some, hb, hsz]
      congr 3
      split <;> rfl
  · exact h.elim

/-! ### One operation that leaves the world alone -/
def pureV (P : Program) (T : Tab) (op : Op) (e : Env) (K : Value → Prop) : Prop :=
  match op with
  | .move x | .assign x => match ov e x with
    | some v => K v
    | none => False
  | .pick c x y => match ov e c with
    | some (.bool b) => match b with
      | true => match ov e x with
        | some v => K v
        | none => False
      | false => match ov e y with
        | some v => K v
        | none => False
    | _ => False
  | .binOp op t x y _ => match look T t, ov e x, ov e y with
    | some _, some (.agg a), some (.agg b) => match op with
      | .eql => Eg P t a b fun r => K (.bool r)
      | .neq => Eg P t a b fun r => K (.bool (!r))
      | _ => False
    | some ⟨sh, _, _, _⟩, some u, some v => binV op sh u v K
    | _, _, _ => False
  | .unOp op _ x => match ov e x with
    | some (.int k n) => match op with
      | .neg => Ar k (0 - n) fun z => K (.int k z)
      | .xor => Bt .xor k (if k.signed then -1 else k.max) n fun z => K (.int k z)
      | _ => False
    | some (.bool b) => match op with
      | .not => K (.bool (!b))
      | _ => False
    | _ => False
  | .convert s t x => match look T s, look T t, ov e x with
    | some _, some ⟨sh, _, _, _⟩, some v => match sh, v with
      | .int k, .int _ n => Ar k n fun z => K (.int k z)
      | .str, .string b => K (.string b)
      | _, _ => False
    | _, _, _ => False
  | .extract x i => match ov e x with
    | some (.tuple vs) => match lget vs.toList i with
      | some v => K v
      | none => False
    | _ => False
  | .field t x f => match look T t, ov e x with
    | some ⟨sh, _, _, _⟩, some (.agg cs) => match sh with
      | .struct fs => match lget fs f with
        | some (off, ft) => partV T ft cs off K
        | none => False
      | _ => False
    | _, _ => False
  | .fieldAddr t x f => match look T t, ov e x with
    | some ⟨sh, _, _, _⟩, some (.pointer (some ⟨b, o, none⟩)) => match sh with
      | .struct fs => match lget fs f with
        | some (off, ft) => match look T ft with
          | some ⟨_, sz, _, _⟩ => match sz with
            | 0 => False
            | _ + 1 => K (.pointer (some ⟨b, o + off, none⟩))
          | none => False
        | none => False
      | _ => False
    | _, _ => False
  | .indexAddr t x i => match look T t, ov e x, ov e i with
    | some ⟨sh, _, _, _⟩, some v, some (.int _ j) => match sh, v with
      | .slice el, .slice (some ⟨b, o, none⟩) n _ => match look T el with
        | some ⟨_, sz, _, _⟩ => Chk (0 ≤ j ∧ j < n) (∀ o' : Nat, (o' : Int) = o + j * sz → K (.pointer (some ⟨b, o', none⟩)))
        | none => False
      | .array n el, .pointer (some ⟨b, o, none⟩) => match look T el with
        | some ⟨_, sz, _, _⟩ => Chk (0 ≤ j ∧ j < n) (∀ o' : Nat, (o' : Int) = o + j * sz → K (.pointer (some ⟨b, o', none⟩)))
        | none => False
      | _, _ => False
    | _, _, _ => False
  | .index t x i => match look T t, ov e x, ov e i with
    | some ⟨sh, _, _, _⟩, some v, some (.int _ j) => match sh, v with
      | .str, .string s => Chk (0 ≤ j ∧ j < s.size) (∀ b : UInt8, s.data.toList[j.toNat]? = some b → K (.int .u8 b.toNat))
      | .array n el, .agg cs => match look T el with
        | some ⟨_, sz, _, _⟩ => Chk (0 ≤ j ∧ j < n) (partV T el cs (j.toNat * sz) K)
        | none => False
      | _, _ => False
    | _, _, _ => False
  | .slice t x lo hi mx => match ov e x with
    | some v => match hi, mx with
      | none, some _ => False
      | _, _ => sliceV T t v e lo hi mx K
    | none => False
  | .nilCheck x => match ov e x with
    | some (.pointer (some a)) => K (.pointer (some a))
    | some (.func (.func f) u v) => K (.func (.func f) u v)
    | _ => False
  | .makeFunc fn xs ys => match ovs e xs.toList, ovs e ys.toList with
    | some us, some vs => K (.func fn us.toArray vs.toArray)
    | _, _ => False
  | .makeInterface t x => match look T t, ov e x with
    | some ⟨sh, _, _, _⟩, some v => match sh with
      | .iface => False
      | .other => False
      | _ => K (.iface t v)
    | _, _ => False
  | .build t parts => match ovs e (parts.toList.map (·.2)) with
    | some vs => Qv P (Instr.build t ((parts.toList.map (·.1)).zip vs).toArray) K
    | none => False
  | .call c => match c.callee with
    | .builtin b => match ovs e c.args.toList with
      | some vs => bpureV T b c.argTypes.toList vs K
      | none => False
    | _ => False
  | _ => False

end Go.Proofs.YtjafamiaahabgaaDoor

namespace Go.Proofs.YtjafamiaahabgaaDoor
set_option linter.unusedVariables false
set_option linter.unusedSimpArgs false

theorem parts_zip {N : Nat} {e : Env} {a : Act} (ha : Fits N e a) : ∀ (l : List (Nat × Operand)) {vs : List Value}, ovs e (l.map (·.2)) = some vs → l.map (fun p => (p.1, a.eval p.2)) = (l.map (·.1)).zip vs
  | [], vs, h => by simp
  | p :: l, vs, h => by
    simp only [List.map_cons, ovs] at h
    split at h
    · rename_i v hv
      split at h
      · rename_i us hus
        injection h with h
        subst h
        simp only [List.map_cons, List.zip_cons_cons, parts_zip ha l hus, ha.ov hv]
      · cases h
    · cases h

/-- an operation gives the value v in every world -/
def Next1 (P : Program) (s : Sem Next) (K : Value → Prop) : Prop := ∃ v, (∀ w, s.run P w = .ok (.value v) w) ∧ K v
theorem Next1.of {P : Program} {s : Sem Value} {K : Value → Prop} (h : Gives P s K) : Next1 P (do pure (.value (← s))) K := by
  obtain ⟨v, hv, hk⟩ := h
  exact ⟨v, fun w => by simp [hv], hk⟩

set_option maxHeartbeats 1000000 in
theorem pureV_next {P : Program} {T : Tab} (hT : TabOk P T) {N : Nat} {e : Env} {a : Act} (ha : Fits N e a) (o : Oper) {K : Value → Prop} (h : pureV P T o.op e K) : Next1 P (execOp a.eval o) K := by
  obtain ⟨dst, op, ty, pos, after, guard⟩ := o
  unfold pureV at h
  split at h
  case h_1 =>
    rename_i x hx
    simp only at hx; subst hx
    split at h
    · rename_i v hv
      exact ⟨v, fun w => by simp [execOp, ha.ov hv], h⟩
    · exact h.elim
  case h_2 =>
    rename_i x hx
    simp only at hx; subst hx
    split at h
    · rename_i v hv
      exact ⟨v, fun w => by simp [execOp, ha.ov hv], h⟩
    · exact h.elim
  case h_3 =>
    rename_i c x y hx
    simp only at hx; subst hx
    split at h
    · rename_i b hb
      split at h
      · split at h
        · rename_i v hv
          exact ⟨v, fun w => by simp [execOp, asBool, ha.ov hv, ha.ov hb], h⟩
        · exact h.elim
      · split at h
        · rename_i v hv
          exact ⟨v, fun w => by simp [execOp, asBool, ha.ov hv, ha.ov hb], h⟩
        · exact h.elim
    · exact h.elim
  case h_4 =>
    rename_i op t x y t' hx
    simp only at hx; subst hx
    split at h
    · rename_i _ a' b' hl hu hv
      split at h
      · obtain ⟨r, hr, hg, hk⟩ := h.o
        refine ⟨.bool r, fun w => ?_, hk⟩
        simp [execOp, ha.ov hu, ha.ov hv, eqGuard, hg, binOp, hr w]
      · obtain ⟨r, hr, hg, hk⟩ := h.o
        refine ⟨.bool (!r), fun w => ?_, hk⟩
        simp [execOp, ha.ov hu, ha.ov hv, eqGuard, hg, binOp, hr w]
      · exact h.elim
    · rename_i sh _ _ _ u v _ hl hu hv
      have := binV_gives (P := P) (t := t) (hT _ _ hl).sh x y h
      refine Next1.of (s := do eqGuard op t x y (a.eval x) (a.eval y); binOp op t (a.eval x) (a.eval y)) ?_
      rw [ha.ov hu, ha.ov hv]
      exact this
    · exact h.elim
  case h_5 =>
    rename_i op t x hx
    simp only at hx; subst hx
    refine Next1.of (s := Op.unary op (a.eval x)) ?_
    split at h
    · rename_i k n hn
      rw [ha.ov hn]
      split at h
      · exact .of_eq (by simp [Op.unary, Op.intArith]) h.out
      · exact .of_eq (by simp [Op.unary, Op.intBits, bits]) h.out
      · exact h.elim
    · rename_i b hb
      rw [ha.ov hb]
      split at h
      · exact .of_eq (by simp [Op.unary]) h
      · exact h.elim
    · exact h.elim
  case h_6 =>
    rename_i s t x hx
    simp only at hx; subst hx
    refine Next1.of (s := convert s t (a.eval x)) ?_
    split at h
    · rename_i ds sh _ _ _ v hs ht hv
      rw [ha.ov hv]
      obtain ⟨us, hus, _⟩ := shOf_cases hT hs
      obtain ⟨ut, hut, het⟩ := shOf_cases hT ht
      split at h
      · cases ut <;> simp only [shOf, reduceCtorEq, Sh.int.injEq] at het
        subst het
        refine ⟨_, fun w => ?_, h.out⟩
        simp [convert, run_underlying hus, run_underlying hut, Conv.intToInt]
      · cases ut <;> simp only [shOf, reduceCtorEq] at het
        refine ⟨_, fun w => ?_, h⟩
        simp [convert, run_underlying hus, run_underlying hut]
      · exact h.elim
    · exact h.elim
  case h_7 =>
    rename_i x i hx
    simp only at hx; subst hx
    refine Next1.of (s := Instr.extract (a.eval x) i) ?_
    split at h
    · rename_i vs hvs
      rw [ha.ov hvs]
      split at h
      · rename_i v hv
        rw [lget_eq] at hv
        exact .of_eq (by simp [Instr.extract, show vs[i]? = some v by simpa using hv]) h
      · exact h.elim
    · exact h.elim
  case h_8 =>
    rename_i t x f hx
    simp only at hx; subst hx
    refine Next1.of (s := Instr.field t (a.eval x) f) ?_
    split at h
    · rename_i sh _ _ _ cs hl hcs
      rw [ha.ov hcs]
      obtain ⟨u, hu, hs⟩ := shOf_cases hT hl
      split at h
      · rename_i fs
        cases u <;> simp only [shOf, reduceCtorEq, Sh.struct.injEq] at hs
        rename_i fields
        split at h
        · rename_i off ft hf
          rw [lget_eq, ← hs] at hf
          simp only [List.getElem?_map, Option.map_eq_some_iff] at hf
          obtain ⟨fd, hfd, hfe⟩ := hf
          injection hfe with h1 h2
          subst h1; subst h2
          obtain ⟨v, hv, hk⟩ := partV_gives hT h
          refine ⟨v, fun w => ?_, hk⟩
          have hfd' : fields[f]? = some fd := by simpa using hfd
          simp [Instr.field, run_underlying hu, hfd', asAgg, hv]
        · exact h.elim
      · exact h.elim
    · exact h.elim
  case h_9 =>
    rename_i t x f hx
    simp only at hx; subst hx
    refine Next1.of (s := Instr.fieldAt t (a.eval x) f) ?_
    split at h
    · rename_i sh _ _ _ b o hl hcs
      rw [ha.ov hcs]
      obtain ⟨u, hu, hs⟩ := shOf_cases hT hl
      split at h
      · rename_i fs
        cases u <;> simp only [shOf, reduceCtorEq, Sh.struct.injEq] at hs
        rename_i fields
        split at h
        · rename_i off ft hf
          rw [lget_eq, ← hs] at hf
          simp only [List.getElem?_map, Option.map_eq_some_iff] at hf
          obtain ⟨fd, hfd, hfe⟩ := hf
          injection hfe with h1 h2
          subst h1; subst h2
          have hfd' : fields[f]? = some fd := by simpa using hfd
          split at h
          · rename_i _ sz _ _ hft
            split at h
            · exact h.elim
            · refine ⟨_, fun w => ?_, h⟩
              have hz := (hT _ _ hft).run_size w
              simp [Instr.fieldAt, run_underlying hu, hfd', Instr.sureAddr, fieldPlace, hz, Addr.add_lit]
          · exact h.elim
        · exact h.elim
      · exact h.elim
    · exact h.elim
  case h_10 =>
    rename_i t x i hx
    simp only at hx; subst hx
    refine Next1.of (s := Instr.indexAt t (a.eval x) (a.eval i)) ?_
    split at h
    · rename_i sh _ _ _ v k j hl hv hj
      rw [ha.ov hv, ha.ov hj]
      obtain ⟨u, hu, hs⟩ := shOf_cases hT hl
      split at h
      · rename_i el b o n c
        cases u <;> simp only [shOf, reduceCtorEq, Sh.slice.injEq] at hs
        subst hs
        split at h
        · rename_i _ sz _ _ hel
          obtain ⟨⟨h0, h1⟩, hk⟩ := h.out
          refine ⟨_, fun w => ?_, hk (o + j.toNat * sz) (by rw [Int.natCast_add, Int.natCast_mul, show ((j.toNat : Nat) : Int) = j from by omega])⟩
          have hz := (hT _ _ hel).run_size w
          simp [Instr.indexAt, asIntOf, run_underlying hu, h0, h1, hz, Addr.add_lit]
        · exact h.elim
      · rename_i n el b o
        cases u <;> simp only [shOf, reduceCtorEq, Sh.array.injEq] at hs
        obtain ⟨rfl, rfl⟩ := hs
        split at h
        · rename_i _ sz _ _ hel
          obtain ⟨⟨h0, h1⟩, hk⟩ := h.out
          refine ⟨_, fun w => ?_, hk (o + j.toNat * sz) (by rw [Int.natCast_add, Int.natCast_mul, show ((j.toNat : Nat) : Int) = j from by omega])⟩
          have hz := (hT _ _ hel).run_size w
          simp [Instr.indexAt, asIntOf, run_underlying hu, h0, h1, hz, Addr.add_lit, Instr.sureAddr]
        · exact h.elim
      · exact h.elim
    · exact h.elim
  case h_11 =>
    rename_i t x i hx
    simp only at hx; subst hx
    refine Next1.of (s := Instr.index t (a.eval x) (a.eval i)) ?_
    split at h
    · rename_i sh _ _ _ v k j hl hv hj
      rw [ha.ov hv, ha.ov hj]
      obtain ⟨u, hu, hs⟩ := shOf_cases hT hl
      split at h
      · rename_i s
        cases u <;> simp only [shOf, reduceCtorEq] at hs
        obtain ⟨⟨h0, h1⟩, hk⟩ := h.out
        have hlt : j.toNat < s.size := by omega
        have hlt' : j.toNat < s.data.toList.length := by simpa using hlt
        refine ⟨_, fun w => ?_, hk s[j.toNat] (by rw [List.getElem?_eq_getElem hlt']; rfl)⟩
        simp [Instr.index, asIntOf, run_underlying hu, h0, hlt]
      · rename_i n el cs
        cases u <;> simp only [shOf, reduceCtorEq, Sh.array.injEq] at hs
        obtain ⟨rfl, rfl⟩ := hs
        split at h
        · rename_i _ sz _ _ hel
          obtain ⟨⟨h0, h1⟩, hk⟩ := h.out
          obtain ⟨v, hv, hk⟩ := partV_gives hT hk
          refine ⟨v, fun w => ?_, hk⟩
          have hz := (hT _ _ hel).run_size w
          simp [Instr.index, asIntOf, run_underlying hu, h0, h1, hz, hv]
        · exact h.elim
      · exact h.elim
    · exact h.elim
  case h_12 =>
    rename_i t x lo hi mx hx
    simp only at hx; subst hx
    split at h
    · rename_i v hv
      refine Next1.of (s := Instr.sliceAt t (a.eval x) (lo.map a.eval) (hi.map a.eval) (mx.map a.eval)) ?_
      rw [ha.ov hv]
      split at h
      · exact h.elim
      · rename_i hno
        refine sliceV_gives hT ha (fun hhi => ?_) h
        cases mx with
        | none => rfl
        | some m => exact (hno m hhi rfl).elim
    · exact h.elim
  case h_13 =>
    rename_i x hx
    simp only at hx; subst hx
    split at h
    · rename_i ad hv
      exact ⟨_, fun w => by simp [execOp, ha.ov hv], h⟩
    · rename_i f u v hv
      exact ⟨_, fun w => by simp [execOp, ha.ov hv], h⟩
    · exact h.elim
  case h_14 =>
    rename_i fn xs ys hx
    simp only at hx; subst hx
    split at h
    · rename_i us vs hu hv
      refine ⟨_, fun w => ?_, h⟩
      have e1 : xs.map a.eval = us.toArray := by apply Array.ext'; simpa using ha.ovs hu
      have e2 : ys.map a.eval = vs.toArray := by apply Array.ext'; simpa using ha.ovs hv
      simp [execOp, Instr.makeFunc, e1, e2]
    · exact h.elim
  case h_15 =>
    rename_i t x hx
    simp only at hx; subst hx
    refine Next1.of (s := Instr.makeInterface t (a.eval x)) ?_
    split at h
    · rename_i sh _ _ _ v hl hv
      rw [ha.ov hv]
      obtain ⟨u, hu, hs⟩ := shOf_cases hT hl
      split at h
      · exact h.elim
      · exact h.elim
      · rename_i h1 h2
        refine ⟨_, fun w => ?_, h⟩
        cases u <;> first
          | (simp [Instr.makeInterface, run_underlying hu]; done)
          | (exact (h1 hs.symm).elim)
          | (exact (h2 hs.symm).elim)
    · exact h.elim
  case h_16 =>
    rename_i t parts hx
    simp only at hx; subst hx
    split at h
    · rename_i vs hvs
      replace h := h.o
      obtain ⟨v, hv, hk⟩ := h
      refine ⟨v, fun w => ?_, hk⟩
      have e1 : parts.map (fun p => (p.1, a.eval p.2)) = ((parts.toList.map (·.1)).zip vs).toArray := by
        apply Array.ext'
        simpa using parts_zip ha parts.toList hvs
      have : execOp a.eval { dst, op := .build t parts, type := ty, pos, after, guard } = (do pure (.value (← Instr.build t (parts.map (fun p => (p.1, a.eval p.2)))))) := rfl
      rw [this, e1]
      simp [hv]
    · exact h.elim
  case h_17 =>
    rename_i c hx
    simp only at hx; subst hx
    split at h
    · rename_i b hb
      split at h
      · rename_i vs hvs
        obtain ⟨v, hv, hk⟩ := bpureV_gives hT (ty := ty) (cs := c.args.map fun | .const _ => true | _ => false) h
        refine ⟨v, fun w => ?_, hk⟩
        have e1 : c.args.map a.eval = vs.toArray := by apply Array.ext'; simpa using ha.ovs hvs
        obtain ⟨callee, args, ats⟩ := c
        simp only at hb e1; subst hb
        rw [BigFrame.execOp_builtin, e1]
        exact hv w
      · exact h.elim
    · exact h.elim
  case h_18 => exact h.elim

end Go.Proofs.YtjafamiaahabgaaDoor

namespace Go.Proofs.YtjafamiaahabgaaDoor
set_option linter.unusedVariables false
set_option linter.unusedSimpArgs false

def cellsL (v : Value) : List Value := match v with
  | .agg cs => cs.toList
  | v => [v]
theorem cellsL_eq (v : Value) : v.cells = (cellsL v).toArray := by cases v <;> simp [Value.cells, cellsL]

def llen {α : Type} : List α → Nat
  | [] => 0
  | _ :: l => Nat.succ (llen l)
theorem llen_eq {α : Type} : ∀ l : List α, llen l = l.length
  | [] => rfl
  | _ :: l => by simp [llen, llen_eq l]

/-- parts number n, n + 1, .., each of that many cells -/
def seqParts (sz : Nat) : Nat → List (Nat × Operand) → List Value → Option (List Value)
  | _, [], [] => some []
  | n, (i, _) :: ps, v :: vs => match Nat.beq i n with
    | true => match Nat.beq (llen (cellsL v)) sz with
      | true => match seqParts sz (n + 1) ps vs with
        | some cs => some (apnd (cellsL v) cs)
        | none => none
      | false => none
    | false => none
  | _, _, _ => none
where apnd : List Value → List Value → List Value
  | [], ys => ys
  | x :: xs, ys => x :: apnd xs ys

def apnd {α : Type} : List α → List α → List α
  | [], ys => ys
  | x :: xs, ys => x :: apnd xs ys
theorem apnd_eq {α : Type} : ∀ l m : List α, apnd l m = l ++ m
  | [], _ => rfl
  | x :: xs, ys => by simp [apnd, apnd_eq xs ys]

def callArgs (fs vs cs : List Value) : List Value := match fs, cs with
  | [], [] => vs
  | fs, cs => apnd fs (apnd vs cs)
theorem callArgs_eq (fs vs cs : List Value) : callArgs fs vs cs = fs ++ (vs ++ cs) := by
  unfold callArgs
  split
  · simp
  · simp [apnd_eq]

def loudB (b : Builtin) (vs : List Value) : Option (Array TypeId → TypeId → Array Value → Sem Value) :=
  match b with
  | .append => some Builtin.append_
  | .copy => some Builtin.copy_
  | .delete => some Builtin.delete_
  | .clear => some Builtin.clear_
  | .len => match vs with
    | [.map (some _)] => some Builtin.len_
    | _ => none
  | _ => none

theorem loudB_run {P : Program} {b : Builtin} {vs : List Value} {s : Array TypeId → TypeId → Array Value → Sem Value} (h : loudB b vs = some s) (ats : Array TypeId) (ty : TypeId) (cs : Array Bool) (args : Array Value) :
    builtin b ats ty cs args = (do pure (.value (← s ats ty args))) := by
  unfold loudB at h
  split at h <;> first
    | (injection h with h; subst h; rfl)
    | (split at h <;> first | (injection h with h; subst h; rfl) | cases h)
    | cases h

/-- shapes of a conversion that reads or makes memory -/
def loudC (T : Tab) (s t : TypeId) : Bool :=
  match look T s, look T t with
  | some ⟨a, _, _, _⟩, some ⟨b, _, _, _⟩ => match a, b with
    | .str, .slice _ => true
    | .slice _, .str => true
    | .slice _, .slice _ => true
    | _, _ => false
  | _, _ => false

/-- a new block -/
structure Nw (w : World) (o : Obj) (K : Nat → World → Prop) : Prop where
  i ::
  o : K w.heap.size (w.alloc o)
theorem Nw.out {w : World} {o : Obj} {K : Nat → World → Prop} (h : Nw w o K) : K w.heap.size (w.alloc o) := h.o
theorem Nw.mk {w : World} {o : Obj} {K : Nat → World → Prop} (h : K w.heap.size (w.alloc o)) : Nw w o K := ⟨h⟩

def opV (P : Program) (T : Tab) (o : Oper) (e : Env) (w : World) (K : Value → World → Prop) : Prop :=
  match o.op with
  | .alloc t => match look T t with
    | some ⟨_, _, _, z⟩ => Nw w (.cells (cellsL z).toArray t) fun b w' => K (.pointer (some ⟨b, 0, none⟩)) w'
    | none => False
  | .box t x => match ov e x with
    | some v => Nw w (.cells (cellsL v).toArray t) fun b w' => K (.pointer (some ⟨b, 0, none⟩)) w'
    | none => False
  | .buildSlice t len parts => match look T t, ovs e (parts.toList.map (·.2)) with
    | some ⟨sh, _, _, _⟩, some vs => match sh with
      | .slice el => Rv P (Instr.buildSlice t len ((parts.toList.map (·.1)).zip vs).toArray) w K
      | _ => False
    | _, _ => False
  | .load t x => match ov e x with
    | some (.pointer (some a)) => Ld P w t a fun v => K v w
    | _ => False
  | .store t x y => match ov e x, ov e y with
    | some (.pointer (some a)), some v => St P w t a v fun w' => K undef w'
    | _, _ => False
  | .makeSlice t l c => match ov e l, ov e c with
    | some l, some c => Rv P (Instr.makeSlice t l c) w K
    | _, _ => False
  | .makeMap t none => Nw w (.map #[] 0) fun b w' => K (.map (some b)) w'
  | .makeMap t (some x) => match ov e x with
    | some v => Rv P (Instr.makeMap t (some v)) w K
    | none => False
  | .lookup t x i ok => match ov e x, ov e i with
    | some u, some v => Rv P (Instr.lookup t u v ok) w K
    | _, _ => False
  | .mapUpdate t m k x | .insert t m k x => match ov e m, ov e k, ov e x with
    | some m, some k, some v => Ru P (Instr.mapUpdate t m k v) w fun w' => K undef w'
    | _, _, _ => False
  | .mapEntry t m k => match ov e m, ov e k with
    | some m, some k => Rv P (Instr.mapEntry t m k) w K
    | _, _ => False
  | .entryStore t m s x => match ov e m, ov e s, ov e x with
    | some m, some s, some v => Ru P (Instr.entryStore t m s v) w fun w' => K undef w'
    | _, _, _ => False
  | .range t x => match ov e x with
    | some v => Rv P (Instr.range t v) w K
    | none => False
  | .next it s => match ov e it with
    | some v => Rv P (Instr.next v s o.type) w K
    | none => False
  | .entry it => match ov e it with
    | some v => Rv P (Instr.entry v) w K
    | none => False
  | .convert s t x => match loudC T s t with
    | true => match ov e x with
      | some v => Rv P (convert s t v) w K
      | none => False
    | false => pureV P T (.convert s t x) e fun v => K v w
  | .call c => match c.callee with
    | .builtin b => match ovs e c.args.toList with
      | some vs => match loudB b vs with
        | some s => Rv P (s c.argTypes o.type vs.toArray) w K
        | none => bpureV T b c.argTypes.toList vs fun v => K v w
      | none => False
    | .value f => match ov e f, ovs e c.args.toList with
      | some (.func (.func id) fs cs), some vs => Fn P id (callArgs fs.toList vs cs.toList).toArray w K
      | _, _ => False
    | .invoke _ _ => False
  | op => pureV P T op e fun v => K v w

theorem Next1.wp {P : Program} {o : Oper} {a : Act} {w : World} {K : Value → World → Prop} {Q : Exit → Act → World → Prop} (h : Next1 P (execOp a.eval o) fun v => K v w) :
    o.wp P a w (fun a' w' => ∃ v, a' = a.put o.dst v ∧ K v w') Q := by
  obtain ⟨v, hv, hk⟩ := h
  unfold Oper.wp
  rw [hv w]
  exact ⟨v, rfl, hk⟩

theorem Rv.wp {P : Program} {o : Oper} {a : Act} {w : World} {K : Value → World → Prop} {Q : Exit → Act → World → Prop} {s : Sem Value} (he : execOp a.eval o = (do pure (.value (← s)))) (h : Rv P s w K) :
    o.wp P a w (fun a' w' => ∃ v, a' = a.put o.dst v ∧ K v w') Q := by
  replace h := h.o
  obtain ⟨v, w', hv, hk⟩ := h
  unfold Oper.wp
  rw [he]
  simp only [Sem.run_bind, hv, Result.andThen_ok, Sem.run_pure]
  exact ⟨v, rfl, hk⟩

theorem Ru.wp {P : Program} {o : Oper} {a : Act} {w : World} {K : Value → World → Prop} {Q : Exit → Act → World → Prop} {s : Sem Unit} (he : execOp a.eval o = (do s; pure .skip)) (h : Ru P s w fun w' => K undef w') :
    o.wp P a w (fun a' w' => ∃ v, a' = a.put o.dst v ∧ K v w') Q := by
  replace h := h.o
  obtain ⟨w', hv, hk⟩ := h
  unfold Oper.wp
  rw [he]
  simp only [Sem.run_bind, hv, Result.andThen_ok, Sem.run_pure]
  exact ⟨undef, rfl, hk⟩

theorem Fn.wp {P : Program} {o : Oper} {a : Act} {w : World} {K : Value → World → Prop} {Q : Exit → Act → World → Prop} {f : FuncId} {args : Array Value} (he : execOp a.eval o = callFunc f args) (h : Fn P f args w K) :
    o.wp P a w (fun a' w' => ∃ v, a' = a.put o.dst v ∧ K v w') Q := by
  replace h := h.o
  obtain ⟨⟨fn, hf, hn, hb⟩, hc⟩ := h
  unfold Oper.wp
  have : (execOp a.eval o).run P w = .ok (.enter f args) w := by
    rw [he]
    simp only [callFunc, Sem.run_bind, run_program, Result.andThen_ok, hf, hn, hb, Bool.false_eq_true, if_false, Sem.run_pure]
  rw [this]
  refine hc.mono fun e w' ⟨v, he, hk⟩ => ?_
  subst he
  exact ⟨v, rfl, hk⟩

set_option maxHeartbeats 1000000 in
theorem opV_wp {P : Program} {T : Tab} (hT : TabOk P T) {N : Nat} {e : Env} {a : Act} (ha : Fits N e a) (o : Oper) {w : World} {K : Value → World → Prop} {Q : Exit → Act → World → Prop}
    (h : opV P T o e w K) : o.wp P a w (fun a' w' => ∃ v, a' = a.put o.dst v ∧ K v w') Q := by
  obtain ⟨dst, op, ty, pos, after, guard⟩ := o
  unfold opV at h
  split at h
  case h_1 =>
    rename_i t hx
    simp only at hx; subst hx
    split at h
    · rename_i _ _ _ z hl
      have hz := (hT _ _ hl).run_zero w
      refine Rv.wp (s := Instr.alloc t true (.tuple #[])) rfl (Rv.mk ?_ h.out)
      simp [Instr.alloc, hz, newVar, newRow, cellsL_eq]
    · exact h.elim
  case h_2 =>
    rename_i t x hx
    simp only at hx; subst hx
    split at h
    · rename_i v hv
      refine Rv.wp (s := Instr.box t (a.eval x)) rfl (Rv.mk ?_ h.out)
      rw [ha.ov hv]
      simp [Instr.box, newVar, newRow, cellsL_eq]
    · exact h.elim
  case h_3 =>
    rename_i t len parts hx
    simp only at hx; subst hx
    split at h
    · rename_i sh _ _ _ vs hl hvs
      have e1 : parts.map (fun p => (p.1, a.eval p.2)) = ((parts.toList.map (·.1)).zip vs).toArray := by
        apply Array.ext'
        simpa using parts_zip ha parts.toList hvs
      split at h
      · exact Rv.wp (by rw [← e1]; rfl) h
      · exact h.elim
    · exact h.elim
  case h_4 =>
    rename_i t x hx
    simp only at hx; subst hx
    split at h
    · rename_i ad hv
      replace h := h.o
      obtain ⟨v, hr, hk⟩ := h
      refine Rv.wp (s := Instr.loadAt t (a.eval x)) rfl (Rv.mk ?_ hk)
      rw [ha.ov hv]
      simp [Instr.loadAt, Instr.sureAddr, hr]
    · exact h.elim
  case h_5 =>
    rename_i t x y hx
    simp only at hx; subst hx
    split at h
    · rename_i ad v hu hv
      replace h := h.o
      obtain ⟨w', hr, hk⟩ := h
      refine Ru.wp (s := Instr.storeAt t (a.eval x) (a.eval y)) rfl (Ru.mk ?_ hk)
      rw [ha.ov hu, ha.ov hv]
      simp [Instr.storeAt, Instr.sureAddr, hr]
    · exact h.elim
  case h_6 =>
    rename_i t l c hx
    simp only at hx; subst hx
    split at h
    · rename_i l' c' hu hv
      exact Rv.wp (by rw [← ha.ov hu, ← ha.ov hv]; rfl) h
    · exact h.elim
  case h_7 =>
    rename_i t hx
    simp only at hx; subst hx
    refine Rv.wp (s := Instr.makeMap t none) rfl (Rv.mk ?_ h.out)
    simp [Instr.makeMap]
  case h_8 =>
    rename_i t x hx
    simp only at hx; subst hx
    split at h
    · rename_i v hv
      exact Rv.wp (by rw [← ha.ov hv]; rfl) h
    · exact h.elim
  case h_9 =>
    rename_i t x i ok hx
    simp only at hx; subst hx
    split at h
    · rename_i u v hu hv
      exact Rv.wp (by rw [← ha.ov hu, ← ha.ov hv]; rfl) h
    · exact h.elim
  case h_10 =>
    rename_i t m k x hx
    simp only at hx; subst hx
    split at h
    · rename_i m' k' v hm hk hv
      exact Ru.wp (by rw [← ha.ov hm, ← ha.ov hk, ← ha.ov hv]; rfl) h
    · exact h.elim
  case h_11 =>
    rename_i t m k x hx
    simp only at hx; subst hx
    split at h
    · rename_i m' k' v hm hk hv
      exact Ru.wp (by rw [← ha.ov hm, ← ha.ov hk, ← ha.ov hv]; rfl) h
    · exact h.elim
  case h_12 =>
    rename_i t m k hx
    simp only at hx; subst hx
    split at h
    · rename_i m' k' hm hk
      exact Rv.wp (by rw [← ha.ov hm, ← ha.ov hk]; rfl) h
    · exact h.elim
  case h_13 =>
    rename_i t m s x hx
    simp only at hx; subst hx
    split at h
    · rename_i m' k' v hm hk hv
      exact Ru.wp (by rw [← ha.ov hm, ← ha.ov hk, ← ha.ov hv]; rfl) h
    · exact h.elim
  case h_14 =>
    rename_i t x hx
    simp only at hx; subst hx
    split at h
    · rename_i v hv
      exact Rv.wp (by rw [← ha.ov hv]; rfl) h
    · exact h.elim
  case h_15 =>
    rename_i it s hx
    simp only at hx; subst hx
    split at h
    · rename_i v hv
      exact Rv.wp (by rw [← ha.ov hv]; rfl) h
    · exact h.elim
  case h_16 =>
    rename_i it hx
    simp only at hx; subst hx
    split at h
    · rename_i v hv
      exact Rv.wp (by rw [← ha.ov hv]; rfl) h
    · exact h.elim
  case h_17 =>
    rename_i s t x hx
    simp only at hx; subst hx
    split at h
    · split at h
      · rename_i v hv
        exact Rv.wp (by rw [← ha.ov hv]; rfl) h
      · exact h.elim
    · exact Next1.wp (pureV_next hT ha ⟨dst, .convert s t x, ty, pos, after, guard⟩ h)
  case h_18 =>
    rename_i c hx
    simp only at hx; subst hx
    obtain ⟨callee, args, ats⟩ := c
    split at h
    · rename_i b hb
      simp only at hb; subst hb
      split at h
      · rename_i vs hvs
        have e1 : args.map a.eval = vs.toArray := by apply Array.ext'; simpa using ha.ovs hvs
        split at h
        · rename_i s hs
          refine Rv.wp ?_ h
          rw [BigFrame.execOp_builtin, e1, loudB_run (P := P) hs]
        · obtain ⟨v, hv, hk⟩ := bpureV_gives hT (ty := ty) (cs := args.map fun | .const _ => true | _ => false) h
          refine Next1.wp ⟨v, fun w => ?_, hk⟩
          rw [BigFrame.execOp_builtin, e1]
          exact hv w
      · exact h.elim
    · rename_i f hb
      simp only at hb; subst hb
      split at h
      · rename_i id fs cs vs hf hvs
        have e1 : args.map a.eval = vs.toArray := by apply Array.ext'; simpa using ha.ovs hvs
        refine Fn.wp ?_ h
        have e2 : (callArgs fs.toList vs cs.toList).toArray = fs ++ args.map a.eval ++ cs := by
          rw [callArgs_eq, e1]
          apply Array.ext'
          simp
        rw [e2]
        simp only [execOp, resolve, ha.ov hf, Deferred.ofValue, invoke, pure_bind]
      · exact h.elim
    · exact h.elim
  case h_19 => exact Next1.wp (pureV_next hT ha ⟨dst, op, ty, pos, after, guard⟩ h)

end Go.Proofs.YtjafamiaahabgaaDoor

namespace Go.Proofs.YtjafamiaahabgaaDoor
set_option linter.unusedVariables false
set_option linter.unusedSimpArgs false

/-! ### A region in the order of the text -/
def putV (N : Nat) (dst : Option Nat) (v : Value) (e : Env) (K : Env → Prop) : Prop := match dst with
  | none => K e
  | some d => match Nat.blt d N with
    | true => K ((d, v) :: e)
    | false => False

def guardSlot (all : List Oper) (j : Nat) : Option Nat := match lget all j with
  | some o => o.dst
  | none => none

/-- what is done where the guard says yes, what where it says no -/
def guardV (all : List Oper) (g : Option (Nat × Bool)) (e : Env) (yes no : Env → Prop) : Prop :=
  match g with
  | none => yes e
  | some (j, want) => match guardSlot all j with
    | some d => match look e d with
      | some (.bool b) => match want with
        | true => Br b (yes ((d, .bool true) :: e)) (no ((d, .bool false) :: e))
        | false => Br b (no ((d, .bool true) :: e)) (yes ((d, .bool false) :: e))
      | some (.tuple _) => no e
      | _ => False
    | none => False

def stepV (P : Program) (T : Tab) (N : Nat) (all : List Oper) (o : Oper) (e : Env) (w : World) (K : Env → World → Prop) : Prop :=
  guardV all o.guard e (fun e => opV P T o e w fun v w' => putV N o.dst v e fun e' => K e' w') (fun e => putV N o.dst undef e fun e' => K e' w)

def runV (P : Program) (T : Tab) (N : Nat) (all : List Oper) : List Oper → Env → World → (Env → World → Prop) → Prop
  | [], e, w, K => K e w
  | o :: rest, e, w, K => stepV P T N all o e w fun e' w' => runV P T N all rest e' w' K

theorem putV_fits {N : Nat} {dst : Option Nat} {v : Value} {e : Env} {K : Env → Prop} {a : Act} (ha : Fits N e a) (h : putV N dst v e K) : ∃ e', Fits N e' (a.put dst v) ∧ K e' := by
  unfold putV at h
  split at h
  · exact ⟨e, ha, h⟩
  · rename_i d
    split at h
    · rename_i hd
      exact ⟨_, ha.put (show d < N from by simpa using hd) v, h⟩
    · exact h.elim

theorem Fits.again {N : Nat} {e : Env} {a : Act} (ha : Fits N e a) {d : Nat} {v : Value} (h : look e d = some v) : Fits N ((d, v) :: e) a :=
  ⟨ha.defers, ha.size, fun j u hj => by
    rw [look_cons] at hj
    by_cases hdj : d = j
    · subst hdj
      rw [if_pos rfl] at hj
      injection hj with hj
      subst hj
      exact ha.get _ _ h
    · rw [if_neg hdj] at hj
      exact ha.get j u hj⟩

theorem guardV_wanted {all : List Oper} {o : Oper} {e : Env} {N : Nat} {a : Act} (ha : Fits N e a) {yes no : Env → Prop} (h : guardV all o.guard e yes no) :
    (Region.wanted o (yielded all.toArray a.tmps) = true ∧ ∃ e', Fits N e' a ∧ yes e') ∨ (Region.wanted o (yielded all.toArray a.tmps) = false ∧ ∃ e', Fits N e' a ∧ no e') := by
  unfold guardV at h
  split at h
  · rename_i hg
    exact .inl ⟨by simp [Region.wanted, hg], e, ha, h⟩
  · rename_i j want hg
    split at h
    case h_2 => exact h.elim
    rename_i d hd
    unfold guardSlot at hd
    split at hd
    case h_2 => cases hd
    rename_i oj hoj
    rw [lget_eq] at hoj
    have hop : ((all.toArray[j]?).bind (·.dst)) = some d := by simp [hoj, hd]
    split at h
    · rename_i b hb
      have hv := ha.get _ _ hb
      have hy : yielded all.toArray a.tmps j = some b := by
        unfold yielded
        rw [hop]
        simp only [Option.bind_some]
        cases ht : a.tmps[d]? with
        | none => simp [ht, undef] at hv
        | some u =>
          have : u = .bool b := by simpa [ht] using hv
          simp [this]
      have yesT : b = true → Fits N ((d, .bool true) :: e) a := fun hbt => ha.again (by rw [hb, hbt])
      have noT : b = false → Fits N ((d, .bool false) :: e) a := fun hbf => ha.again (by rw [hb, hbf])
      split at h
      · have h' := h.out
        cases hbv : b with
        | true => exact .inl ⟨by simp [Region.wanted, hg, hy, hbv], _, yesT hbv, h'.1 hbv⟩
        | false => exact .inr ⟨by simp [Region.wanted, hg, hy, hbv], _, noT hbv, h'.2 hbv⟩
      · have h' := h.out
        cases hbv : b with
        | true => exact .inr ⟨by simp [Region.wanted, hg, hy, hbv], _, yesT hbv, h'.1 hbv⟩
        | false => exact .inl ⟨by simp [Region.wanted, hg, hy, hbv], _, noT hbv, h'.2 hbv⟩
    · rename_i vs hb
      have hv := ha.get _ _ hb
      refine .inr ⟨?_, e, ha, h⟩
      have hy : yielded all.toArray a.tmps j = none := by
        unfold yielded
        rw [hop]
        simp only [Option.bind_some]
        cases ht : a.tmps[d]? with
        | none => rfl
        | some u =>
          have : u = .tuple vs := by simpa [ht] using hv
          simp [this]
      simp [Region.wanted, hg, hy]
    · exact h.elim

theorem runV_list {P : Program} {T : Tab} (hT : TabOk P T) {N : Nat} {all : List Oper} {Q : Exit → Act → World → Prop} {K : Env → World → Prop}
    (hQ : ∀ e a w, Fits N e a → K e w → Q .normal a w) : ∀ (l : List Oper) (e : Env) (a : Act) (w : World), Fits N e a → runV P T N all l e w K → wpList P all.toArray Q l a w
  | [], e, a, w, ha, h => hQ e a w ha h
  | o :: l, e, a, w, ha, h => by
    simp only [runV, stepV] at h
    unfold wpList
    rcases guardV_wanted ha h with ⟨hw, e', ha', h'⟩ | ⟨hw, e', ha', h'⟩
    · rw [if_pos hw]
      refine .inl ?_
      refine Oper.wp_mono (fun a' w' ⟨v, he, hk⟩ => ?_) (opV_wp hT ha' o h')
      subst he
      obtain ⟨e2, ha2, hk2⟩ := putV_fits ha' hk
      exact runV_list hT hQ l e2 _ w' ha2 hk2
    · rw [if_neg (by simp [hw])]
      obtain ⟨e2, ha2, hk2⟩ := putV_fits ha' h'
      exact runV_list hT hQ l e2 _ w ha2 hk2

/-! ### Code -/
structure V (P : Program) (N : Nat) (c : Code) (Q : Exit → Env → World → Prop) (e : Env) (w : World) : Prop where
  i ::
  o :
  ∀ a, Fits N e a → c.wp P (fun x a' w' => ∃ e', Fits N e' a' ∧ Q x e' w') a w

theorem V.mk {P : Program} {N : Nat} {c : Code} {Q : Exit → Env → World → Prop} {e : Env} {w : World} (h : ∀ a, Fits N e a → c.wp P (fun x a' w' => ∃ e', Fits N e' a' ∧ Q x e' w') a w) : V P N c Q e w := ⟨h⟩
theorem V.out {P : Program} {N : Nat} {c : Code} {Q : Exit → Env → World → Prop} {e : Env} {w : World} (h : V P N c Q e w) : ∀ a, Fits N e a → c.wp P (fun x a' w' => ∃ e', Fits N e' a' ∧ Q x e' w') a w := h.o
theorem V.mono {P : Program} {N : Nat} {c : Code} {Q Q' : Exit → Env → World → Prop} {e : Env} {w : World} (h : V P N c Q e w) (hq : ∀ x e w, Q x e w → Q' x e w) : V P N c Q' e w :=
  .mk fun a ha => wp_mono (h.out a ha) fun x a' w' ⟨e', hf, hx⟩ => ⟨e', hf, hq _ _ _ hx⟩
/-- what is known of the frame may be forgotten -/
theorem V.sub {P : Program} {N : Nat} {c : Code} {Q : Exit → Env → World → Prop} {e e' : Env} {w : World} (h : V P N c Q e' w) (hs : Sub e' e) : V P N c Q e w :=
  .mk fun a ha => h.out a (ha.sub hs)

def sq (P : Program) (N : Nat) (b : Code) (Q : Exit → Env → World → Prop) : Exit → Env → World → Prop := fun x e w => match x with
  | .normal => V P N b Q e w
  | x => Q x e w
def bq (id : Nat) (Q : Exit → Env → World → Prop) : Exit → Env → World → Prop := fun x e w => match x with
  | .exit id' => match Nat.beq id' id with
    | true => Q .normal e w
    | false => Q (.exit id') e w
  | x => Q x e w

/-- one statement -/
def W (P : Program) (T : Tab) (N : Nat) (c : Code) (Q : Exit → Env → World → Prop) (e : Env) (w : World) : Prop :=
  match c with
  | .skip => Q .normal e w
  | .region _ ops draw => match draw with
    | false => runV P T N ops.toList ops.toList e w fun e' w' => Q .normal e' w'
    | true => False
  | .seq a b => V P N a (sq P N b Q) e w
  | .cond c x y => match ov e c with
    | some (.bool b) => Br b (V P N x Q e w) (V P N y Q e w)
    | _ => False
  | .block id c => V P N c (bq id Q) e w
  | .exit id => Q (.exit id) e w
  | .ret => Q .ret e w
  | .label _ => Q .normal e w
  | _ => False

theorem V.step {P : Program} {T : Tab} (hT : TabOk P T) {N : Nat} {c : Code} {Q : Exit → Env → World → Prop} {e : Env} {w : World} (h : W P T N c Q e w) : V P N c Q e w := by
  refine .mk fun a ha => ?_
  unfold W at h
  split at h
  · exact wp_skip ⟨e, ha, h⟩
  · rename_i id ops draw
    split at h
    · refine wp_region_list ?_
      have := runV_list hT (N := N) (all := ops.toList) (Q := fun x a' w' => ∃ e', Fits N e' a' ∧ Q x e' w') (K := fun e' w' => Q .normal e' w') (fun e a w hf hk => ⟨e, hf, hk⟩) ops.toList e a w ha h
      simpa using this
    · exact h.elim
  · refine wp_seq (wp_mono (h.out a ha) fun x a' w' ⟨e', hf, hx⟩ => ?_)
    cases x <;> first
      | exact hx.out _ hf
      | exact ⟨e', hf, hx⟩
  · split at h
    · rename_i b hb
      have h' := h.out
      exact wp_cond_split (ha.ov hb) (fun ht => (h'.1 ht).out a ha) (fun hf => (h'.2 hf).out a ha)
    · exact h.elim
  · rename_i id c
    refine wp_block (wp_mono (h.out a ha) fun x a' w' ⟨e', hf, hx⟩ => ?_)
    cases x with
    | exit id' =>
      simp only [bq] at hx
      simp only [Exit.inBlock]
      by_cases hid : id' = id
      · subst hid
        rw [if_pos rfl]
        simp only [Nat.beq_refl] at hx
        exact ⟨e', hf, hx⟩
      · rw [if_neg hid]
        have : Nat.beq id' id = false := by
          cases hb : Nat.beq id' id
          · rfl
          · exact absurd (Nat.eq_of_beq_eq_true hb) hid
        rw [this] at hx
        exact ⟨e', hf, hx⟩
    | _ => exact ⟨e', hf, hx⟩
  · exact wp_exit ⟨e, ha, h⟩
  · exact wp_ret ⟨e, ha, h⟩
  · exact wp_label ⟨e, ha, h⟩
  · exact h.elim

section
variable {P : Program} {T : Tab} {N : Nat} {Q : Exit → Env → World → Prop} {e : Env} {w : World}
theorem V.seq {a b : Code} (h : V P N a (sq P N b Q) e w) : V P N (.seq a b) Q e w :=
  .mk fun x hx => wp_seq (wp_mono (h.out x hx) fun x a' w' ⟨e', hf, hx⟩ => by
    cases x <;> first
      | exact hx.out _ hf
      | exact ⟨e', hf, hx⟩)
theorem V.reg (hT : TabOk P T) {id : Nat} {ops : Array Oper} (h : runV P T N ops.toList ops.toList e w fun e' w' => Q .normal e' w') : V P N (.region id ops false) Q e w := V.step hT h
theorem V.cnd {c : Operand} {x y : Code} {b : Bool} (hc : ov e c = some (.bool b)) (h : Br b (V P N x Q e w) (V P N y Q e w)) : V P N (.cond c x y) Q e w :=
  V.step (T := []) tabOk_nil (by unfold W; simp only [hc]; exact h)
theorem V.blk {id : Nat} {c : Code} (h : V P N c (bq id Q) e w) : V P N (.block id c) Q e w := V.step (T := []) tabOk_nil h
theorem V.ext {id : Nat} (h : Q (.exit id) e w) : V P N (.exit id) Q e w := V.step (T := []) tabOk_nil h
theorem V.rt (h : Q .ret e w) : V P N .ret Q e w := V.step (T := []) tabOk_nil h
theorem V.skp (h : Q .normal e w) : V P N .skip Q e w := V.step (T := []) tabOk_nil h
theorem V.lab {l : Nat} (h : Q .normal e w) : V P N (.label l) Q e w := V.step (T := []) tabOk_nil h
end

/-! ### Loops; ways that meet again -/
def lq {α : Type} (E : α → Env) (I : α → World → Prop) (μ : α → Nat) (z : α) (Q : Exit → Env → World → Prop) : Exit → Env → World → Prop := fun x e' w' => match x with
  | .normal => ∃ z', subL (E z') e' ∧ I z' w' ∧ μ z' < μ z
  | x => Q x e' w'

/-- a loop: what holds at each round's head, with names for what the frame holds there; a number that each round lowers -/
theorem V.loop {P : Program} {N : Nat} {c : Code} {Q : Exit → Env → World → Prop} {e : Env} {w : World} {α : Type} (E : α → Env) (I : α → World → Prop) (μ : α → Nat) (z0 : α)
    (h0 : subL (E z0) e) (hI : I z0 w) (round : ∀ z w, I z w → V P N c (lq E I μ z Q) (E z) w) : V P N (.loop c) Q e w := by
  refine .mk fun a ha => ?_
  refine wp_loop_ghost (fun n a' w' => ∃ z, Fits N (E z) a' ∧ I z w' ∧ μ z = n) (μ z0) ⟨z0, ha.sub h0.sub, hI, rfl⟩ ?_
  rintro n a' w' ⟨z, hf, hz, rfl⟩
  refine wp_mono ((round z w' hz).out a' hf) fun x a2 w2 ⟨e', hf', hx⟩ => ?_
  cases x with
  | normal =>
    obtain ⟨z', hs, hI', hlt⟩ := hx
    exact ⟨_, hlt, z', hf'.sub hs.sub, hI', rfl⟩
  | _ => exact ⟨e', hf', hx⟩

def jq {α : Type} (E : α → Env) (I : α → World → Prop) (Q : Exit → Env → World → Prop) : Exit → Env → World → Prop := fun x e' w' => match x with
  | .normal => ∃ z, subL (E z) e' ∧ I z w'
  | x => Q x e' w'

/-- a statement behind which all ways meet: what is known there -/
theorem V.seqJoin {P : Program} {N : Nat} {a b : Code} {Q : Exit → Env → World → Prop} {e : Env} {w : World} {α : Type} (E : α → Env) (I : α → World → Prop)
    (h : V P N a (jq E I Q) e w) (h' : ∀ z w, I z w → V P N b Q (E z) w) : V P N (.seq a b) Q e w := by
  refine .mk fun a ha => wp_seq (wp_mono (h.out a ha) fun x a' w' ⟨e', hf, hx⟩ => ?_)
  cases x with
  | normal =>
    obtain ⟨z, hs, hI⟩ := hx
    exact (h' z w' hI).out _ (hf.sub hs.sub)
  | _ => exact ⟨e', hf, hx⟩

/-- the same at a statement that has been reached already -/
theorem V.join {P : Program} {N : Nat} {a b : Code} {Q : Exit → Env → World → Prop} {e : Env} {w : World} {α : Type} (E : α → Env) (I : α → World → Prop)
    (h : V P N a (jq E I Q) e w) (h' : ∀ z w, I z w → V P N b Q (E z) w) : V P N a (sq P N b Q) e w := by
  refine h.mono fun x e w hx => ?_
  cases x with
  | normal =>
    obtain ⟨z, hs, hI⟩ := hx
    exact (h' z w hI).sub hs.sub
  | _ => exact hx

/-! ### A function -/
/-- what is handed back -/
def resV (P : Program) (e : Env) (w : World) : List ResultVar → (List Value → Prop) → Prop
  | [], K => K []
  | .tmp t :: rs, K => match look e t with
    | some v => resV P e w rs fun vs => K (v :: vs)
    | none => False
  | .cell t ty :: rs, K => match look e t with
    | some (.pointer (some a)) => Ld P w ty a fun v => resV P e w rs fun vs => K (v :: vs)
    | _ => False

def retV (P : Program) (rs : List ResultVar) (R : Value → World → Prop) (e : Env) (w : World) : Prop :=
  resV P e w rs fun vs => match vs with
    | [v] => R v w
    | vs => R (.tuple vs.toArray) w

def rq (P : Program) (rs : List ResultVar) (R : Value → World → Prop) : Exit → Env → World → Prop := fun x e w => match x with
  | .normal => retV P rs R e w
  | .ret => retV P rs R e w
  | _ => False

def argE : Nat → List Value → Env
  | _, [] => []
  | n, v :: vs => (n, v) :: argE (n + 1) vs

theorem argE_look : ∀ (vs : List Value) (n j : Nat) (v : Value), look (argE n vs) j = some v → n ≤ j ∧ vs[j - n]? = some v
  | [], _, _, _, h => by simp [argE, look] at h
  | u :: vs, n, j, v, h => by
    simp only [argE, look_cons] at h
    by_cases hn : n = j
    · subst hn
      rw [if_pos rfl] at h
      simpa using h
    · rw [if_neg hn] at h
      have := argE_look vs (n + 1) j v h
      refine ⟨by omega, ?_⟩
      rw [show j - n = (j - (n + 1)) + 1 from by omega]
      simpa using this.2

def resOf (tmps : Array Value) : ResultVar → Sem Value
  | .tmp t => pure (tmps.getD t undef)
  | .cell c t => do loadVar t (← asAddr (tmps.getD c undef))

theorem resV_run {P : Program} {e : Env} {w : World} {N : Nat} {a : Act} (ha : Fits N e a) : ∀ (rs : List ResultVar) {K : List Value → Prop}, resV P e w rs K →
    ∃ vs, (rs.mapM (resOf a.tmps)).run P w = .ok vs w ∧ K vs
  | [], K, h => ⟨[], by simp, h⟩
  | .tmp t :: rs, K, h => by
    simp only [resV] at h
    split at h
    · rename_i v hv
      obtain ⟨vs, hr, hk⟩ := resV_run ha rs h
      refine ⟨v :: vs, ?_, hk⟩
      have h1 : (resOf a.tmps (.tmp t)).run P w = .ok v w := by rw [← ha.get _ _ hv]; rfl
      rw [List.mapM_cons]
      simp only [Sem.run_bind, h1, Sem.run_pure, Result.andThen_ok, hr]
    · exact h.elim
  | .cell t ty :: rs, K, h => by
    simp only [resV] at h
    split at h
    · rename_i ad hv
      replace h := h.o
      obtain ⟨v, hl, h⟩ := h
      obtain ⟨vs, hr, hk⟩ := resV_run ha rs h
      refine ⟨v :: vs, ?_, hk⟩
      have h1 : (resOf a.tmps (.cell t ty)).run P w = .ok v w := by
        unfold resOf
        simp only [ha.get _ _ hv]
        exact hl
      rw [List.mapM_cons]
      simp only [Sem.run_bind, h1, Sem.run_pure, Result.andThen_ok, hr]
    · exact h.elim

theorem retV_run {P : Program} {e : Env} {w : World} {N : Nat} {a : Act} (ha : Fits N e a) {fn : Func} {R : Value → World → Prop} (h : retV P fn.results.toList R e w) :
    ∃ v, (results fn a.tmps).run P w = .ok v w ∧ R v w := by
  obtain ⟨vs, hr, hk⟩ := resV_run ha _ h
  have hres : (results fn a.tmps) = (do let vs ← fn.results.mapM (resOf a.tmps); pure (if h : vs.size = 1 then vs[0] else .tuple vs)) := by
    unfold results
    congr 1
  rw [hres, Array.mapM_eq_mapM_toList]
  refine ⟨if h : vs.toArray.size = 1 then vs.toArray[0] else .tuple vs.toArray, ?_, ?_⟩
  · simp only [Sem.run_bind, Sem.run_map, hr, Result.andThen_ok, Sem.run_pure]
  · match vs, hk with
    | [], hk => simpa using hk
    | [v], hk => simpa using hk
    | v :: u :: vs, hk => simpa using hk

theorem Fn.mk {P : Program} {f : FuncId} {fn : Func} {c : Code} {args : List Value} {w : World} {R : Value → World → Prop} (hf : P.funcs[f]? = some fn) (hb : fn.body = some c)
    (hn : (fn.name == "runtime.NumGoroutine") = false) {n : Nat} (ht : fn.ntmps = n) (hl : Nat.ble (llen args) n = true) {rs : List ResultVar} (hrs : fn.results.toList = rs)
    (h : V P n c (rq P rs R) (argE 0 args) w) : Fn P f args.toArray w R := by
  refine ⟨⟨fn, hf, hn, by simp [hb]⟩, calls_of_wp hf hb ?_⟩
  have ha : Fits n (argE 0 args) { tmps := args.toArray ++ Array.replicate (fn.ntmps - args.toArray.size) undef, defers := [] } := by
    have hl' : args.length ≤ n := by rw [← llen_eq]; exact Nat.le_of_ble_eq_true hl
    refine ⟨rfl, by simp [ht]; omega, fun j v hj => ?_⟩
    have := (argE_look args 0 j v hj).2
    simp only [Nat.sub_zero] at this
    have hlt := (List.getElem?_eq_some_iff.1 this).1
    simp only [Array.getD_eq_getD_getElem?]
    rw [Array.getElem?_append_left (by simpa using hlt)]
    simp [this]
  refine wp_mono (h.out _ ha) fun x a' w' ⟨e', hf', hx⟩ => ?_
  subst hrs
  cases x with
  | normal =>
    obtain ⟨v, hr, hk⟩ := retV_run hf' hx
    exact ⟨hf'.defers, v, hr, v, rfl, hk⟩
  | ret =>
    obtain ⟨v, hr, hk⟩ := retV_run hf' hx
    exact ⟨hf'.defers, v, hr, v, rfl, hk⟩
  | _ => exact hx.elim

theorem Fn.calls {P : Program} {f : FuncId} {args : Array Value} {w : World} {R : Value → World → Prop} (h : Fn P f args w R) : Calls P f args w fun e w' => ∃ v, e = .returned v ∧ R v w' := by
  exact h.o.2
theorem Fn.mono {P : Program} {f : FuncId} {args : Array Value} {w : World} {R R' : Value → World → Prop} (h : Fn P f args w R) (hr : ∀ v w', R v w' → R' v w') : Fn P f args w R' := by
  exact ⟨h.o.1, h.o.2.mono fun e w' ⟨v, he, hk⟩ => ⟨v, he, hr _ _ hk⟩⟩

end Go.Proofs.YtjafamiaahabgaaDoor

namespace Go.Proofs.YtjafamiaahabgaaDoor
set_option linter.unusedVariables false
set_option linter.unusedSimpArgs false

structure Lq (P : Program) (C : World → Prop) (t : TypeId) (a : Addr) (K : Value → Prop) : Prop where
  i ::
  o : ∃ v, (∀ w, C w → (loadVar t a).run P w = .ok v w) ∧ K v
structure Rq (P : Program) (C : World → Prop) (s : Sem Value) (K : Value → Prop) : Prop where
  i ::
  o : ∃ v, (∀ w, C w → s.run P w = .ok v w) ∧ K v
structure Fq (P : Program) (C : World → Prop) (f : FuncId) (args : Array Value) (K : Value → Prop) : Prop where
  i ::
  o : ∃ v, (∀ w, C w → Fn P f args w fun u w' => u = v ∧ C w') ∧ K v
theorem Lq.mk {P : Program} {C : World → Prop} {t : TypeId} {a : Addr} {K : Value → Prop} (v : Value) (h : ∀ w, C w → (loadVar t a).run P w = .ok v w) (hk : K v) : Lq P C t a K := ⟨⟨v, h, hk⟩⟩
theorem Rq.mk {P : Program} {C : World → Prop} {s : Sem Value} {K : Value → Prop} (v : Value) (h : ∀ w, C w → s.run P w = .ok v w) (hk : K v) : Rq P C s K := ⟨⟨v, h, hk⟩⟩
theorem Fq.mk {P : Program} {C : World → Prop} {f : FuncId} {args : Array Value} {K : Value → Prop} (v : Value) (h : ∀ w, C w → Fn P f args w fun u w' => u = v ∧ C w') (hk : K v) : Fq P C f args K := ⟨⟨v, h, hk⟩⟩
theorem Lq.one {P : Program} {T : Tab} (hT : TabOk P T) {C : World → Prop} {t : TypeId} {a : Addr} {K : Value → Prop} {v : Value} {d : Td} (hl : look T t = some d) (ha : d.sh.agg = false) (hc : ∀ w, C w → w.cell? a = some v) (hk : K v) : Lq P C t a K := by
  refine Lq.mk v (fun w hw => ?_) hk
  have h1 := (hT _ _ hl).run_agg w
  rw [ha] at h1
  simp only [loadVar, Sem.run_bind, h1, Result.andThen_ok, Bool.false_eq_true, if_false, run_load, hc w hw]

def qopV (P : Program) (T : Tab) (C : World → Prop) (o : Oper) (e : Env) (K : Value → Prop) : Prop :=
  match o.op with
  | .load t x => match ov e x with
    | some (.pointer (some a)) => Lq P C t a K
    | _ => False
  | .lookup t x i ok => match ov e x, ov e i with
    | some u, some v => Rq P C (Instr.lookup t u v ok) K
    | _, _ => False
  | .convert s t x => match loudC T s t with
    | true => match ov e x with
      | some v => Rq P C (convert s t v) K
      | none => False
    | false => pureV P T (.convert s t x) e K
  | .call c => match c.callee with
    | .builtin b => match ovs e c.args.toList with
      | some vs => match loudB b vs with
        | some s => Rq P C (s c.argTypes o.type vs.toArray) K
        | none => bpureV T b c.argTypes.toList vs K
      | none => False
    | .value f => match ov e f, ovs e c.args.toList with
      | some (.func (.func id) fs cs), some vs => Fq P C id (callArgs fs.toList vs cs.toList).toArray K
      | _, _ => False
    | .invoke _ _ => False
  | op => pureV P T op e K

/-- in every world of the class one value, handed back at once or by a call -/
def Quiet1 (P : Program) (C : World → Prop) (s : Sem Next) (v : Value) : Prop :=
  ∀ w, C w → s.run P w = .ok (.value v) w ∨ ∃ f args, s.run P w = .ok (.enter f args) w ∧ Calls P f args w fun e w' => e = .returned v ∧ C w'

theorem Quiet1.of_rq {P : Program} {C : World → Prop} {a : Act} {o : Oper} {s : Sem Value} {K : Value → Prop} (he : execOp a.eval o = (do pure (.value (← s)))) (h : Rq P C s K) : ∃ v, Quiet1 P C (execOp a.eval o) v ∧ K v := by
  replace h := h.o
  obtain ⟨v, hv, hk⟩ := h
  refine ⟨v, fun w hw => .inl ?_, hk⟩
  rw [he]
  simp only [Sem.run_bind, hv w hw, Result.andThen_ok, Sem.run_pure]

theorem Quiet1.of_next {P : Program} {C : World → Prop} {s : Sem Next} {K : Value → Prop} (h : Next1 P s K) : ∃ v, Quiet1 P C s v ∧ K v := by
  obtain ⟨v, hv, hk⟩ := h
  exact ⟨v, fun w _ => .inl (hv w), hk⟩

set_option maxHeartbeats 1000000 in
theorem qopV_quiet {P : Program} {T : Tab} (hT : TabOk P T) {C : World → Prop} {N : Nat} {e : Env} {a : Act} (ha : Fits N e a) (o : Oper) {K : Value → Prop} (h : qopV P T C o e K) :
    ∃ v, Quiet1 P C (execOp a.eval o) v ∧ K v := by
  obtain ⟨dst, op, ty, pos, after, guard⟩ := o
  unfold qopV at h
  split at h
  case h_1 =>
    rename_i t x hx
    simp only at hx; subst hx
    split at h
    · rename_i ad hv
      replace h := h.o
      obtain ⟨v, hr, hk⟩ := h
      refine Quiet1.of_rq (s := Instr.loadAt t (a.eval x)) rfl (Rq.mk v (fun w hw => ?_) hk)
      rw [ha.ov hv]
      simp [Instr.loadAt, Instr.sureAddr, hr w hw]
    · exact h.elim
  case h_2 =>
    rename_i t x i ok hx
    simp only at hx; subst hx
    split at h
    · rename_i u v hu hv
      exact Quiet1.of_rq (by rw [← ha.ov hu, ← ha.ov hv]; rfl) h
    · exact h.elim
  case h_3 =>
    rename_i s t x hx
    simp only at hx; subst hx
    split at h
    · split at h
      · rename_i v hv
        exact Quiet1.of_rq (s := convert s t (a.eval x)) rfl (by rw [ha.ov hv]; exact h)
      · exact h.elim
    · exact Quiet1.of_next (pureV_next hT ha ⟨dst, .convert s t x, ty, pos, after, guard⟩ h)
  case h_4 =>
    rename_i c hx
    simp only at hx; subst hx
    obtain ⟨callee, args, ats⟩ := c
    split at h
    · rename_i b hb
      simp only at hb; subst hb
      split at h
      · rename_i vs hvs
        have e1 : args.map a.eval = vs.toArray := by apply Array.ext'; simpa using ha.ovs hvs
        split at h
        · rename_i s hs
          refine Quiet1.of_rq ?_ h
          rw [BigFrame.execOp_builtin, e1, loudB_run (P := P) hs]
        · obtain ⟨v, hv, hk⟩ := bpureV_gives hT (ty := ty) (cs := args.map fun | .const _ => true | _ => false) h
          refine Quiet1.of_next ⟨v, fun w => ?_, hk⟩
          rw [BigFrame.execOp_builtin, e1]
          exact hv w
      · exact h.elim
    · rename_i f hb
      simp only at hb; subst hb
      split at h
      · rename_i id fs cs vs hf hvs
        have e1 : args.map a.eval = vs.toArray := by apply Array.ext'; simpa using ha.ovs hvs
        have e2 : (callArgs fs.toList vs cs.toList).toArray = fs ++ args.map a.eval ++ cs := by
          rw [callArgs_eq, e1]
          apply Array.ext'
          simp
        rw [e2] at h
        replace h := h.o
        obtain ⟨v, hv, hk⟩ := h
        refine ⟨v, fun w hw => .inr ⟨id, fs ++ args.map a.eval ++ cs, ?_, ?_⟩, hk⟩
        · have h1 := hv w hw
          replace h1 := h1.o
          obtain ⟨⟨fn, hf', hn, hb⟩, hc⟩ := h1
          have : execOp a.eval { dst, op := .call { callee := .value f, args, argTypes := ats }, type := ty, pos, after, guard } = callFunc id (fs ++ args.map a.eval ++ cs) := by
            simp only [execOp, resolve, ha.ov hf, Deferred.ofValue, invoke, pure_bind]
          rw [this]
          simp only [callFunc, Sem.run_bind, run_program, Result.andThen_ok, hf', hn, hb, Bool.false_eq_true, if_false, Sem.run_pure]
        · exact (hv w hw).calls.mono fun e w' ⟨u, he, hu, hc⟩ => ⟨by rw [he, hu], hc⟩
      · exact h.elim
    · exact h.elim
  case h_5 => exact Quiet1.of_next (pureV_next hT ha ⟨dst, op, ty, pos, after, guard⟩ h)

def quietV (P : Program) (T : Tab) (N : Nat) (C : World → Prop) (all : List Oper) : List Oper → Env → (Env → Prop) → Prop
  | [], e, K => K e
  | o :: rest, e, K => guardV all o.guard e (fun e => qopV P T C o e fun v => putV N o.dst v e fun e' => quietV P T N C all rest e' K) (fun e => putV N o.dst undef e fun e' => quietV P T N C all rest e' K)

theorem quietV_quiet {P : Program} {T : Tab} (hT : TabOk P T) {C : World → Prop} {N : Nat} {all : List Oper} {Q : Act → Prop} {K : Env → Prop} (hQ : ∀ e a, Fits N e a → K e → Q a) :
    ∀ (l : List Oper) (e : Env) (a : Act), Fits N e a → quietV P T N C all l e K → wpQuiet P all.toArray C Q l a
  | [], e, a, ha, h => hQ e a ha h
  | o :: l, e, a, ha, h => by
    simp only [quietV] at h
    unfold wpQuiet
    rcases guardV_wanted ha h with ⟨hw, e', ha', h'⟩ | ⟨hw, e', ha', h'⟩
    · rw [if_pos hw]
      obtain ⟨v, hv, hk⟩ := qopV_quiet hT ha' o h'
      obtain ⟨e2, ha2, hk2⟩ := putV_fits ha' hk
      refine ⟨v, fun w hc => ?_, quietV_quiet hT hQ l e2 _ ha2 hk2⟩
      unfold Oper.quietAt
      rcases hv w hc with h1 | ⟨f, args, h1, h2⟩
      · rw [h1]; exact ⟨rfl, rfl⟩
      · rw [h1]; exact ⟨rfl, h2⟩
    · rw [if_neg (by simp [hw])]
      obtain ⟨e2, ha2, hk2⟩ := putV_fits ha' h'
      exact quietV_quiet hT hQ l e2 _ ha2 hk2

theorem quietV_still {P : Program} {T : Tab} (hT : TabOk P T) {w : World} {N : Nat} {all : List Oper} {Q : Act → Prop} {K : Env → Prop} (hQ : ∀ e a, Fits N e a → K e → Q a) :
    ∀ (l : List Oper) (e : Env) (a : Act), Fits N e a → quietV P T N (fun x => x = w) all l e K → wpStill P all.toArray w Q l a
  | [], e, a, ha, h => hQ e a ha h
  | o :: l, e, a, ha, h => by
    simp only [quietV] at h
    unfold wpStill
    rcases guardV_wanted ha h with ⟨hw, e', ha', h'⟩ | ⟨hw, e', ha', h'⟩
    · rw [if_pos hw]
      obtain ⟨v, hv, hk⟩ := qopV_quiet hT ha' o h'
      obtain ⟨e2, ha2, hk2⟩ := putV_fits ha' hk
      have hrest := quietV_still hT hQ l e2 _ ha2 hk2
      unfold Oper.still
      rcases hv w rfl with h1 | ⟨f, args, h1, h2⟩
      · rw [h1]; exact ⟨rfl, hrest⟩
      · rw [h1]; exact ⟨rfl, v, h2, hrest⟩
    · rw [if_neg (by simp [hw])]
      obtain ⟨e2, ha2, hk2⟩ := putV_fits ha' h'
      exact quietV_still hT hQ l e2 _ ha2 hk2

/-- a region whose order is open and whose operations give, in every world of a class, one value -/
theorem V.quiet {P : Program} {T : Tab} (hT : TabOk P T) {N : Nat} {Q : Exit → Env → World → Prop} {e : Env} {w : World} {id : Nat} {ops : Array Oper} (C : World → Prop) (hm : P.follows .mixedOrders = true)
    (hB : Region.lexB .any ops = true) (hC : C w.drew) (h : quietV P T N C ops.toList ops.toList e fun e' => ∀ w', C w' → Q .normal e' w') : V P N (.region id ops true) Q e w := by
  refine .mk fun a ha => wp_region_quiet (C := C) hm hB hC ?_
  have := quietV_quiet hT (N := N) (all := ops.toList) (Q := fun a' => ∀ w', C w' → ∃ e', Fits N e' a' ∧ Q .normal e' w') (fun e a hf hk w' hc => ⟨e, hf, hk w' hc⟩) ops.toList e a ha h
  simpa using this

/-- a region whose order is open: the first n operations read the world as it stands; those behind them follow one another -/
theorem V.tail {P : Program} {T : Tab} (hT : TabOk P T) {N : Nat} {Q : Exit → Env → World → Prop} {e : Env} {w : World} {id : Nat} {ops : Array Oper} (n : Nat) (hm : P.follows .mixedOrders = true)
    (hB : Region.lexTailB .any ops n = true) (h : quietV P T N (fun x => x = w.drew) ops.toList (ops.toList.take n) e fun e' => runV P T N ops.toList (ops.toList.drop n) e' w.drew fun e2 w2 => Q .normal e2 w2) : V P N (.region id ops true) Q e w := by
  refine .mk fun a ha => ?_
  have hops : ops = ops.toList.toArray := by simp
  rw [hops]
  refine wp_region_still_tail n hm (by rw [← hops]; exact hB) ?_
  refine quietV_still hT (N := N) (all := ops.toList) (fun e a hf hk => ?_) (ops.toList.take n) e a ha h
  exact runV_list hT (N := N) (all := ops.toList) (Q := fun x a' w' => ∃ e', Fits N e' a' ∧ Q x e' w') (K := fun e2 w2 => Q .normal e2 w2) (fun e a w hf hk => ⟨e, hf, hk⟩) _ _ _ _ hf hk

/-- operations that only read -/
def stillOp (T : Tab) : Op → Bool
  | .store _ _ _ | .alloc _ | .box _ _ | .buildSlice _ _ _ | .makeSlice _ _ _ | .makeMap _ _ | .mapUpdate _ _ _ _ | .insert _ _ _ _ | .mapEntry _ _ _ | .entryStore _ _ _ _ | .range _ _ | .next _ _ | .entry _ => false
  | .call c => match c.callee with
    | .builtin .append | .builtin .copy | .builtin .delete | .builtin .clear => false
    | .builtin _ => true
    | _ => false
  | _ => true
def firstLoud (T : Tab) : List Oper → Nat
  | [] => 0
  | o :: l => match stillOp T o.op with
    | true => Nat.succ (firstLoud T l)
    | false => 0
/-- V.tail, its number found -/
theorem V.tailA {P : Program} {T : Tab} (hT : TabOk P T) {N : Nat} {Q : Exit → Env → World → Prop} {e : Env} {w : World} {id : Nat} {ops : Array Oper} (hm : P.follows .mixedOrders = true)
    (hB : Region.lexTailB .any ops (firstLoud T ops.toList) = true) (h : quietV P T N (fun x => x = w.drew) ops.toList (ops.toList.take (firstLoud T ops.toList)) e fun e' => runV P T N ops.toList (ops.toList.drop (firstLoud T ops.toList)) e' w.drew fun e2 w2 => Q .normal e2 w2) : V P N (.region id ops true) Q e w :=
  V.tail hT _ hm hB h

end Go.Proofs.YtjafamiaahabgaaDoor

namespace Go.Proofs.YtjafamiaahabgaaDoor
set_option linter.unusedVariables false
set_option linter.unusedSimpArgs false

def schedV (P : Program) (T : Tab) (N : Nat) (all : List Oper) : List (Nat × Bool) → Env → World → (Env → World → Prop) → Prop
  | [], e, w, K => K e w
  | (i, p) :: rest, e, w, K => match lget all i with
    | none => False
    | some o => match p with
      | true => guardV all o.guard e (fun e => pureV P T o.op e fun v => putV N o.dst v e fun e' => schedV P T N all rest e' w K) (fun e => putV N o.dst undef e fun e' => schedV P T N all rest e' w K)
      | false => stepV P T N all o e w fun e' w' => schedV P T N all rest e' w' K

def schedB (ops : Array Oper) : List (Nat × Bool) → Array Bool → Bool
  | [], listed => (Region.ready .any ops listed).isEmpty
  | (i, true) :: rest, listed => (Region.ready .any ops listed).contains i && Region.free .any ops listed i && schedB ops rest (listed.setIfInBounds i true)
  | (i, false) :: rest, listed => decide (Region.ready .any ops listed = [i]) && schedB ops rest (listed.setIfInBounds i true)

theorem schedV_any {P : Program} {T : Tab} (hT : TabOk P T) {N : Nat} {all : List Oper} {Q : Exit → Act → World → Prop} {K : Env → World → Prop} (hns : Region.noSelect all.toArray = true)
    (hQ : ∀ e a w, Fits N e a → K e w → Q .normal a w) (hQp : ∀ c a w, ¬ Q (.panic c) a w) : ∀ (pl : List (Nat × Bool)) (listed : Array Bool) (e : Env) (a : Act) (w : World), Fits N e a → schedB all.toArray pl listed = true →
      schedV P T N all pl e w K → wpAny P .any all.toArray Q pl.length listed a w
  | [], listed, e, a, w, ha, hB, h => by
    refine wpAny_done (by simpa [schedB] using hB) (hQ e a w ha h) 0
  | (i, true) :: pl, listed, e, a, w, ha, hB, h => by
    simp only [schedB, Bool.and_eq_true] at hB
    obtain ⟨⟨hr, hf⟩, hB⟩ := hB
    simp only [schedV] at h
    split at h
    · exact h.elim
    rename_i o ho
    rw [lget_eq] at ho
    have ho' : all.toArray[i]? = some o := by simpa using ho
    rcases guardV_wanted ha h with ⟨hw, e', ha', h'⟩ | ⟨hw, e', ha', h'⟩
    · obtain ⟨v, hv, hk⟩ := pureV_next hT ha' o h'
      obtain ⟨e2, ha2, hk2⟩ := putV_fits ha' hk
      exact wpAny_take ho' hns hf hr (fun c a w hq => (hQp c _ w hq).elim) (.inl ⟨hw, hv⟩) (schedV_any hT hns hQ hQp pl _ e2 _ w ha2 hB hk2)
    · obtain ⟨e2, ha2, hk2⟩ := putV_fits ha' h'
      exact wpAny_take ho' hns hf hr (fun c a w hq => (hQp c _ w hq).elim) (.inr ⟨hw, rfl⟩) (schedV_any hT hns hQ hQp pl _ e2 _ w ha2 hB hk2)
  | (i, false) :: pl, listed, e, a, w, ha, hB, h => by
    simp only [schedB, Bool.and_eq_true, decide_eq_true_eq] at hB
    obtain ⟨hr, hB⟩ := hB
    simp only [schedV] at h
    split at h
    · exact h.elim
    rename_i o ho
    rw [lget_eq] at ho
    have ho' : all.toArray[i]? = some o := by simpa using ho
    refine wpAny_all hr (by simp) fun j hj => ?_
    obtain rfl : j = i := by simpa using hj
    unfold wpOp
    simp only [ho']
    simp only [stepV] at h
    rcases guardV_wanted ha h with ⟨hw, e', ha', h'⟩ | ⟨hw, e', ha', h'⟩
    · rw [if_pos hw]
      refine .inl (Oper.wp_mono (fun a' w' ⟨v, he, hk⟩ => ?_) (opV_wp hT ha' o h'))
      subst he
      obtain ⟨e2, ha2, hk2⟩ := putV_fits ha' hk
      exact schedV_any hT hns hQ hQp pl _ e2 _ w' ha2 hB hk2
    · rw [if_neg (by simp [hw])]
      obtain ⟨e2, ha2, hk2⟩ := putV_fits ha' h'
      exact schedV_any hT hns hQ hQp pl _ e2 _ w ha2 hB hk2

def planB (ops : Array Oper) (pl : List (Nat × Bool)) : Bool := Region.noSelect ops && Nat.beq pl.length ops.size && schedB ops pl (Array.replicate ops.size false)

/-- a region whose order is open, along a plan -/
theorem V.plan {P : Program} {T : Tab} (hT : TabOk P T) {N : Nat} {Q : Exit → Env → World → Prop} {e : Env} {w : World} {id : Nat} {ops : Array Oper} (pl : List (Nat × Bool)) (hm : P.follows .mixedOrders = true)
    (hB : planB ops pl = true) (h : schedV P T N ops.toList pl e w.drew fun e' w' => Q .normal e' w') : V P N (.region id ops true) Q e w := by
  simp only [planB, Bool.and_eq_true] at hB
  obtain ⟨⟨hns, hl⟩, hB⟩ := hB
  have hl' : pl.length = ops.size := Nat.eq_of_beq_eq_true hl
  refine .mk fun a ha => ?_
  refine wp_mono (Q := fun x a' w' => x = .normal ∧ ∃ e', Fits N e' a' ∧ Q .normal e' w') (wp_region_any hm ?_) fun x a' w' ⟨hx, e', hf, hq⟩ => by subst hx; exact ⟨e', hf, hq⟩
  have := schedV_any hT (N := N) (all := ops.toList) (Q := fun x a' w' => x = .normal ∧ ∃ e', Fits N e' a' ∧ Q .normal e' w') (by simpa using hns) (fun e a w hf hk => ⟨rfl, e, hf, hk⟩) (fun c a w hq => by cases hq.1) pl _ e a w.drew ha (by simpa using hB) h
  rw [hl'] at this
  simpa using this

/-- a plan: all but the ones that are named stand still; they come in their order -/
def planOf : Nat → List Nat → List (Nat × Bool)
  | n, loud => (List.range n).map fun i => (i, !(loud.contains i))

/-! ### Regions whose order is open, under a condition that holds all along: what reads comes first, what writes after it -/
/-- one operation that in every world of the class hands on one value at once -/
def holdV (P : Program) (T : Tab) (C : World → Prop) (o : Oper) (e : Env) (K : Value → Prop) : Prop :=
  match o.op with
  | .load t x => match ov e x with
    | some (.pointer (some a)) => Lq P C t a K
    | _ => False
  | .lookup t x i ok => match ov e x, ov e i with
    | some u, some v => Rq P C (Instr.lookup t u v ok) K
    | _, _ => False
  | .convert s t x => match loudC T s t with
    | true => match ov e x with
      | some v => Rq P C (convert s t v) K
      | none => False
    | false => pureV P T (.convert s t x) e K
  | .call c => match c.callee with
    | .builtin b => match ovs e c.args.toList with
      | some vs => match loudB b vs with
        | some s => Rq P C (s c.argTypes o.type vs.toArray) K
        | none => bpureV T b c.argTypes.toList vs K
      | none => False
    | _ => False
  | op => pureV P T op e K

def Held1 (P : Program) (C : World → Prop) (s : Sem Next) (v : Value) : Prop := ∀ w, C w → s.run P w = .ok (.value v) w
theorem Held1.of_rq {P : Program} {C : World → Prop} {a : Act} {o : Oper} {s : Sem Value} {K : Value → Prop} (he : execOp a.eval o = (do pure (.value (← s)))) (h : Rq P C s K) : ∃ v, Held1 P C (execOp a.eval o) v ∧ K v := by
  obtain ⟨v, hv, hk⟩ := h.o
  refine ⟨v, fun w hw => ?_, hk⟩
  rw [he]
  simp only [Sem.run_bind, hv w hw, Result.andThen_ok, Sem.run_pure]
theorem Held1.of_next {P : Program} {C : World → Prop} {s : Sem Next} {K : Value → Prop} (h : Next1 P s K) : ∃ v, Held1 P C s v ∧ K v := by
  obtain ⟨v, hv, hk⟩ := h
  exact ⟨v, fun w _ => hv w, hk⟩

set_option maxHeartbeats 1000000 in
theorem holdV_held {P : Program} {T : Tab} (hT : TabOk P T) {C : World → Prop} {N : Nat} {e : Env} {a : Act} (ha : Fits N e a) (o : Oper) {K : Value → Prop} (h : holdV P T C o e K) :
    ∃ v, Held1 P C (execOp a.eval o) v ∧ K v := by
  obtain ⟨dst, op, ty, pos, after, guard⟩ := o
  unfold holdV at h
  split at h
  case h_1 =>
    rename_i t x hx
    simp only at hx; subst hx
    split at h
    · rename_i ad hv
      obtain ⟨v, hr, hk⟩ := h.o
      refine Held1.of_rq (s := Instr.loadAt t (a.eval x)) rfl (Rq.mk v (fun w hw => ?_) hk)
      rw [ha.ov hv]
      simp [Instr.loadAt, Instr.sureAddr, hr w hw]
    · exact h.elim
  case h_2 =>
    rename_i t x i ok hx
    simp only at hx; subst hx
    split at h
    · rename_i u v hu hv
      exact Held1.of_rq (by rw [← ha.ov hu, ← ha.ov hv]; rfl) h
    · exact h.elim
  case h_3 =>
    rename_i s t x hx
    simp only at hx; subst hx
    split at h
    · split at h
      · rename_i v hv
        exact Held1.of_rq (s := convert s t (a.eval x)) rfl (by rw [ha.ov hv]; exact h)
      · exact h.elim
    · exact Held1.of_next (pureV_next hT ha ⟨dst, .convert s t x, ty, pos, after, guard⟩ h)
  case h_4 =>
    rename_i c hx
    simp only at hx; subst hx
    obtain ⟨callee, args, ats⟩ := c
    split at h
    · rename_i b hb
      simp only at hb; subst hb
      split at h
      · rename_i vs hvs
        have e1 : args.map a.eval = vs.toArray := by apply Array.ext'; simpa using ha.ovs hvs
        split at h
        · rename_i s hs
          refine Held1.of_rq ?_ h
          rw [BigFrame.execOp_builtin, e1, loudB_run (P := P) hs]
        · obtain ⟨v, hv, hk⟩ := bpureV_gives hT (ty := ty) (cs := args.map fun | .const _ => true | _ => false) h
          refine Held1.of_next ⟨v, fun w => ?_, hk⟩
          rw [BigFrame.execOp_builtin, e1]
          exact hv w
      · exact h.elim
    · exact h.elim
  case h_5 => exact Held1.of_next (pureV_next hT ha ⟨dst, op, ty, pos, after, guard⟩ h)

def heldV (P : Program) (T : Tab) (N : Nat) (C : World → Prop) (all : List Oper) : List (Nat × Bool) → Env → World → (Env → World → Prop) → Prop
  | [], e, w, K => K e w
  | (i, p) :: rest, e, w, K => match lget all i with
    | none => False
    | some o => match p with
      | true => guardV all o.guard e (fun e => holdV P T C o e fun v => putV N o.dst v e fun e' => heldV P T N C all rest e' w K) (fun e => putV N o.dst undef e fun e' => heldV P T N C all rest e' w K)
      | false => stepV P T N all o e w fun e' w' => C w' ∧ heldV P T N C all rest e' w' K

theorem heldV_any {P : Program} {T : Tab} (hT : TabOk P T) {N : Nat} {C : World → Prop} {all : List Oper} {Q : Exit → Act → World → Prop} {K : Env → World → Prop} (hns : Region.noSelect all.toArray = true)
    (hQ : ∀ e a w, Fits N e a → K e w → Q .normal a w) (hQp : ∀ c a w, ¬ Q (.panic c) a w) : ∀ (pl : List (Nat × Bool)) (listed : Array Bool) (e : Env) (a : Act) (w : World), Fits N e a → C w → schedB all.toArray pl listed = true →
      heldV P T N C all pl e w K → wpAnyH P .any all.toArray Q C pl.length listed a w
  | [], listed, e, a, w, ha, hC, hB, h => wpAnyH_done (by simpa [schedB] using hB) (hQ e a w ha h) 0
  | (i, true) :: pl, listed, e, a, w, ha, hC, hB, h => by
    simp only [schedB, Bool.and_eq_true] at hB
    obtain ⟨⟨hr, hf⟩, hB⟩ := hB
    simp only [heldV] at h
    split at h
    · exact h.elim
    rename_i o ho
    rw [lget_eq] at ho
    have ho' : all.toArray[i]? = some o := by simpa using ho
    rcases guardV_wanted ha h with ⟨hw, e', ha', h'⟩ | ⟨hw, e', ha', h'⟩
    · obtain ⟨v, hv, hk⟩ := holdV_held hT ha' o h'
      obtain ⟨e2, ha2, hk2⟩ := putV_fits ha' hk
      exact wpAnyH_take ho' hns hf hr (fun c a w hq => (hQp c _ w hq).elim) (.inl ⟨hw, hv⟩) hC (heldV_any hT hns hQ hQp pl _ e2 _ w ha2 hC hB hk2)
    · obtain ⟨e2, ha2, hk2⟩ := putV_fits ha' h'
      exact wpAnyH_take ho' hns hf hr (fun c a w hq => (hQp c _ w hq).elim) (.inr ⟨hw, rfl⟩) hC (heldV_any hT hns hQ hQp pl _ e2 _ w ha2 hC hB hk2)
  | (i, false) :: pl, listed, e, a, w, ha, hC, hB, h => by
    simp only [schedB, Bool.and_eq_true, decide_eq_true_eq] at hB
    obtain ⟨hr, hB⟩ := hB
    simp only [heldV] at h
    split at h
    · exact h.elim
    rename_i o ho
    rw [lget_eq] at ho
    have ho' : all.toArray[i]? = some o := by simpa using ho
    refine wpAnyH_all hr (by simp) fun j hj => ?_
    obtain rfl : j = i := by simpa using hj
    unfold wpOp
    simp only [ho']
    simp only [stepV] at h
    rcases guardV_wanted ha h with ⟨hw, e', ha', h'⟩ | ⟨hw, e', ha', h'⟩
    · rw [if_pos hw]
      refine .inl (Oper.wp_mono (fun a' w' ⟨v, he, hk⟩ => ?_) (opV_wp hT ha' o h'))
      subst he
      obtain ⟨e2, ha2, hC2, hk2⟩ := putV_fits ha' hk
      exact ⟨hC2, heldV_any hT hns hQ hQp pl _ e2 _ w' ha2 hC2 hB hk2⟩
    · rw [if_neg (by simp [hw])]
      obtain ⟨e2, ha2, hC2, hk2⟩ := putV_fits ha' h'
      exact ⟨hC2, heldV_any hT hns hQ hQp pl _ e2 _ w ha2 hC2 hB hk2⟩

theorem V.held {P : Program} {T : Tab} (hT : TabOk P T) {N : Nat} {Q : Exit → Env → World → Prop} {e : Env} {w : World} {id : Nat} {ops : Array Oper} (C : World → Prop) (pl : List (Nat × Bool)) (hm : P.follows .mixedOrders = true)
    (hB : planB ops pl = true) (hC : C w.drew) (h : heldV P T N C ops.toList pl e w.drew fun e' w' => Q .normal e' w') : V P N (.region id ops true) Q e w := by
  simp only [planB, Bool.and_eq_true] at hB
  obtain ⟨⟨hns, hl⟩, hB⟩ := hB
  have hl' : pl.length = ops.size := Nat.eq_of_beq_eq_true hl
  refine .mk fun a ha => ?_
  refine wp_mono (Q := fun x a' w' => x = .normal ∧ ∃ e', Fits N e' a' ∧ Q .normal e' w') (wp_region_held (S := C) hm ?_) fun x a' w' ⟨hx, e', hf, hq⟩ => by subst hx; exact ⟨e', hf, hq⟩
  have := heldV_any hT (N := N) (C := C) (all := ops.toList) (Q := fun x a' w' => x = .normal ∧ ∃ e', Fits N e' a' ∧ Q .normal e' w') (by simpa using hns) (fun e a w hf hk => ⟨rfl, e, hf, hk⟩) (fun c a w hq => by cases hq.1) pl _ e a w.drew ha hC (by simpa using hB) h
  rw [hl'] at this
  simpa using this

/-- a plan: those that only read, then the others, each in the text's order -/
def planFrom (T : Tab) (q : Bool) : Nat → List Oper → List (Nat × Bool)
  | _, [] => []
  | i, o :: l => match stillOp T o.op with
    | true => match q with
      | true => (i, true) :: planFrom T q (Nat.succ i) l
      | false => planFrom T q (Nat.succ i) l
    | false => match q with
      | true => planFrom T q (Nat.succ i) l
      | false => (i, false) :: planFrom T q (Nat.succ i) l
def planQ (T : Tab) (ops : List Oper) : List (Nat × Bool) := planFrom.app (planFrom T true 0 ops) (planFrom T false 0 ops)
where planFrom.app : List (Nat × Bool) → List (Nat × Bool) → List (Nat × Bool)
  | [], m => m
  | x :: l, m => x :: planFrom.app l m

end Go.Proofs.YtjafamiaahabgaaDoor

namespace Go.Proofs.YtjafamiaahabgaaDoor
set_option linter.unusedVariables false
set_option linter.unusedSimpArgs false

inductive Pl where
  | nil
  | q (i : Nat) (r : Pl)
  | alt (i : Nat) (r more : Pl)
  | stop

def Pl.len : Pl → Nat
  | .nil => 0
  | .q _ r => r.len + 1
  | .alt _ r _ => r.len + 1
  | .stop => 0
def Pl.heads : Pl → List Nat
  | .alt i _ m => i :: m.heads
  | _ => []
def Pl.isStop : Pl → Bool
  | .stop => true
  | _ => false

def schedT (ops : Array Oper) : Pl → Option Nat → Array Bool → Bool
  | .stop, md, _ => md.isSome
  | .nil, md, l => md.isNone && (Region.ready .any ops l).isEmpty
  | .q i r, md, l => md.isNone && (Region.ready .any ops l).contains i && Region.free .any ops l i && schedT ops r none (l.setIfInBounds i true)
  | .alt i r m, md, l => (match md with
    | none => decide (Region.ready .any ops l = i :: m.heads)
    | some n => Nat.beq r.len n) && schedT ops r none (l.setIfInBounds i true) && schedT ops m (some r.len) l

/-- two ways, both to be gone -/
structure Both (A B : Prop) : Prop where
  i ::
  o : A ∧ B
theorem Both.mk {A B : Prop} (h : A) (h' : B) : Both A B := ⟨⟨h, h'⟩⟩

def heldT (P : Program) (T : Tab) (N : Nat) (C : World → Prop) (all : List Oper) : Pl → Env → World → (Env → World → Prop) → Prop
  | .nil, e, w, K => K e w
  | .stop, e, w, K => True
  | .q i r, e, w, K => match lget all i with
    | none => False
    | some o => guardV all o.guard e (fun e => holdV P T C o e fun v => putV N o.dst v e fun e' => heldT P T N C all r e' w K) (fun e => putV N o.dst undef e fun e' => heldT P T N C all r e' w K)
  | .alt i r m, e, w, K => match lget all i with
    | none => False
    | some o => match m.isStop with
      | true => stepV P T N all o e w fun e' w' => C w' ∧ heldT P T N C all r e' w' K
      | false => Both (stepV P T N all o e w fun e' w' => C w' ∧ heldT P T N C all r e' w' K) (heldT P T N C all m e w K)

theorem heldT_alt {P : Program} {T : Tab} {N : Nat} {C : World → Prop} {all : List Oper} {i : Nat} {r m : Pl} {e : Env} {w : World} {K : Env → World → Prop} (h : heldT P T N C all (.alt i r m) e w K) :
    ∃ o, lget all i = some o ∧ (stepV P T N all o e w fun e' w' => C w' ∧ heldT P T N C all r e' w' K) ∧ (m.isStop = false → heldT P T N C all m e w K) := by
  unfold heldT at h
  split at h
  · exact h.elim
  · rename_i o ho
    split at h
    · rename_i hm
      exact ⟨o, ho, h, fun h' => by rw [hm] at h'; cases h'⟩
    · exact ⟨o, ho, h.o.1, fun _ => h.o.2⟩

theorem heldT_any {P : Program} {T : Tab} (hT : TabOk P T) {N : Nat} {C : World → Prop} {all : List Oper} {Q : Exit → Act → World → Prop} {K : Env → World → Prop} (hns : Region.noSelect all.toArray = true)
    (hQ : ∀ e a w, Fits N e a → K e w → Q .normal a w) (hQp : ∀ c a w, ¬ Q (.panic c) a w) : ∀ (pl : Pl) (listed : Array Bool) (e : Env) (a : Act) (w : World), Fits N e a → C w → 
      (schedT all.toArray pl none listed = true → heldT P T N C all pl e w K → wpAnyH P .any all.toArray Q C pl.len listed a w) ∧
      (∀ n, schedT all.toArray pl (some n) listed = true → (pl.isStop = false → heldT P T N C all pl e w K) → ∀ j ∈ pl.heads, wpOp P all.toArray Q j (fun a' w' => C w' ∧ wpAnyH P .any all.toArray Q C n (listed.setIfInBounds j true) a' w') a w)
  | .nil, listed, e, a, w, ha, hC => by
    refine ⟨fun hB h => ?_, fun n hB _ j hj => by simp [Pl.heads] at hj⟩
    simp only [schedT, Option.isNone_none, Bool.true_and, List.isEmpty_iff] at hB
    exact wpAnyH_done hB (hQ e a w ha h) 0
  | .stop, listed, e, a, w, ha, hC => by
    refine ⟨fun hB h => ?_, fun n hB _ j hj => by simp [Pl.heads] at hj⟩
    simp [schedT] at hB
  | .q i r, listed, e, a, w, ha, hC => by
    refine ⟨fun hB h => ?_, fun n hB _ j hj => by simp [Pl.heads] at hj⟩
    simp only [schedT, Option.isNone_none, Bool.true_and, Bool.and_eq_true] at hB
    obtain ⟨⟨hr, hf⟩, hB⟩ := hB
    simp only [heldT] at h
    split at h
    · exact h.elim
    rename_i o ho
    rw [lget_eq] at ho
    have ho' : all.toArray[i]? = some o := by simpa using ho
    rcases guardV_wanted ha h with ⟨hw, e', ha', h'⟩ | ⟨hw, e', ha', h'⟩
    · obtain ⟨v, hv, hk⟩ := holdV_held hT ha' o h'
      obtain ⟨e2, ha2, hk2⟩ := putV_fits ha' hk
      exact wpAnyH_take ho' hns hf hr (fun c a w hq => (hQp c _ w hq).elim) (.inl ⟨hw, hv⟩) hC ((heldT_any hT hns hQ hQp r _ e2 _ w ha2 hC).1 hB hk2)
    · obtain ⟨e2, ha2, hk2⟩ := putV_fits ha' h'
      exact wpAnyH_take ho' hns hf hr (fun c a w hq => (hQp c _ w hq).elim) (.inr ⟨hw, rfl⟩) hC ((heldT_any hT hns hQ hQp r _ e2 _ w ha2 hC).1 hB hk2)
  | .alt i r m, listed, e, a, w, ha, hC => by
    have one : schedT all.toArray r none (listed.setIfInBounds i true) = true → ∀ o, lget all i = some o → (stepV P T N all o e w fun e' w' => C w' ∧ heldT P T N C all r e' w' K) →
        wpOp P all.toArray Q i (fun a' w' => C w' ∧ wpAnyH P .any all.toArray Q C r.len (listed.setIfInBounds i true) a' w') a w := by
      intro hB o ho h
      rw [lget_eq] at ho
      have ho' : all.toArray[i]? = some o := by simpa using ho
      unfold wpOp
      simp only [ho']
      simp only [stepV] at h
      rcases guardV_wanted ha h with ⟨hw, e', ha', h'⟩ | ⟨hw, e', ha', h'⟩
      · rw [if_pos hw]
        refine .inl (Oper.wp_mono (fun a' w' ⟨v, he, hk⟩ => ?_) (opV_wp hT ha' o h'))
        subst he
        obtain ⟨e2, ha2, hC2, hk2⟩ := putV_fits ha' hk
        exact ⟨hC2, (heldT_any hT hns hQ hQp r _ e2 _ w' ha2 hC2).1 hB hk2⟩
      · rw [if_neg (by simp [hw])]
        obtain ⟨e2, ha2, hC2, hk2⟩ := putV_fits ha' h'
        exact ⟨hC2, (heldT_any hT hns hQ hQp r _ e2 _ w ha2 hC2).1 hB hk2⟩
    refine ⟨fun hB h => ?_, fun n hB h j hj => ?_⟩
    · simp only [schedT, Bool.and_eq_true, decide_eq_true_eq] at hB
      obtain ⟨⟨hr, hB⟩, hB2⟩ := hB
      obtain ⟨o, ho, h1, h2⟩ := heldT_alt h
      have hm := (heldT_any hT hns hQ hQp m listed e a w ha hC).2 _ hB2 h2
      refine wpAnyH_all hr (by simp) fun j hj => ?_
      rcases List.mem_cons.1 hj with rfl | hj
      · exact one hB o ho h1
      · exact hm j hj
    · simp only [schedT, Bool.and_eq_true] at hB
      obtain ⟨⟨hr, hB⟩, hB2⟩ := hB
      obtain ⟨o, ho, h1, h2⟩ := heldT_alt (h rfl)
      have hn := Nat.eq_of_beq_eq_true hr
      have hm := (heldT_any hT hns hQ hQp m listed e a w ha hC).2 _ hB2 h2
      rw [← hn]
      rcases List.mem_cons.1 hj with rfl | hj
      · exact one hB o ho h1
      · exact hm j hj

def treeB (ops : Array Oper) (pl : Pl) : Bool := Region.noSelect ops && Nat.beq pl.len ops.size && schedT ops pl none (Array.replicate ops.size false)

theorem V.tree {P : Program} {T : Tab} (hT : TabOk P T) {N : Nat} {Q : Exit → Env → World → Prop} {e : Env} {w : World} {id : Nat} {ops : Array Oper} (C : World → Prop) (pl : Pl) (hm : P.follows .mixedOrders = true)
    (hB : treeB ops pl = true) (hC : C w.drew) (h : heldT P T N C ops.toList pl e w.drew fun e' w' => Q .normal e' w') : V P N (.region id ops true) Q e w := by
  simp only [treeB, Bool.and_eq_true] at hB
  obtain ⟨⟨hns, hl⟩, hB⟩ := hB
  have hl' : pl.len = ops.size := Nat.eq_of_beq_eq_true hl
  refine .mk fun a ha => ?_
  refine wp_mono (Q := fun x a' w' => x = .normal ∧ ∃ e', Fits N e' a' ∧ Q .normal e' w') (wp_region_held (S := C) hm ?_) fun x a' w' ⟨hx, e', hf, hq⟩ => by subst hx; exact ⟨e', hf, hq⟩
  have := (heldT_any hT (N := N) (C := C) (all := ops.toList) (Q := fun x a' w' => x = .normal ∧ ∃ e', Fits N e' a' ∧ Q .normal e' w') (by simpa using hns) (fun e a w hf hk => ⟨rfl, e, hf, hk⟩) (fun c a w hq => by cases hq.1) pl _ e a w.drew ha hC).1 (by simpa using hB) h
  rw [hl'] at this
  simpa using this
end Go.Proofs.YtjafamiaahabgaaDoor

namespace Go.Proofs.YtjafamiaahabgaaDoor
set_option linter.unusedVariables false
set_option linter.unusedSimpArgs false

theorem ofInt_nat (n a : Nat) (ha : a < 2 ^ n) : (BitVec.ofInt n (a : Int)).toNat = a := by
  rw [BitVec.ofInt_natCast, BitVec.toNat_ofNat]; exact Nat.mod_eq_of_lt ha

theorem bits_and (k : IntKind) (a b : Nat) (ha : a < 2 ^ k.bits) (hb : b < 2 ^ k.bits) (hw : ∀ r : Nat, r ≤ a → k.wrap (r : Int) = r) : bits .and k a b = ((a &&& b : Nat) : Int) := by
  show k.wrap ((BitVec.ofInt k.bits (a : Int) &&& BitVec.ofInt k.bits (b : Int)).toNat : Int) = _
  rw [BitVec.toNat_and, ofInt_nat _ a ha, ofInt_nat _ b hb]
  exact hw _ Nat.and_le_left
theorem bits_or (k : IntKind) (a b n : Nat) (ha : a < 2 ^ n) (hb : b < 2 ^ n) (hn : n ≤ k.bits) (hw : ∀ r : Nat, r < 2 ^ n → k.wrap (r : Int) = r) : bits .or k a b = ((a ||| b : Nat) : Int) := by
  have h2 : 2 ^ n ≤ 2 ^ k.bits := Nat.pow_le_pow_right (by omega) hn
  show k.wrap ((BitVec.ofInt k.bits (a : Int) ||| BitVec.ofInt k.bits (b : Int)).toNat : Int) = _
  rw [BitVec.toNat_or, ofInt_nat _ a (by omega), ofInt_nat _ b (by omega)]
  exact hw _ (Nat.or_lt_two_pow ha hb)
theorem bits_xor (k : IntKind) (a b n : Nat) (ha : a < 2 ^ n) (hb : b < 2 ^ n) (hn : n ≤ k.bits) (hw : ∀ r : Nat, r < 2 ^ n → k.wrap (r : Int) = r) : bits .xor k a b = ((a ^^^ b : Nat) : Int) := by
  have h2 : 2 ^ n ≤ 2 ^ k.bits := Nat.pow_le_pow_right (by omega) hn
  show k.wrap ((BitVec.ofInt k.bits (a : Int) ^^^ BitVec.ofInt k.bits (b : Int)).toNat : Int) = _
  rw [BitVec.toNat_xor, ofInt_nat _ a (by omega), ofInt_nat _ b (by omega)]
  exact hw _ (Nat.xor_lt_two_pow ha hb)

theorem wrap_u8n (r : Nat) (h : r < 256) : IntKind.u8.wrap (r : Int) = r := IntWalk.u8_in _ ⟨by omega, by omega⟩
theorem wrap_u32n (r : Nat) (h : r < 4294967296) : IntKind.u32.wrap (r : Int) = r := IntWalk.u32_in _ ⟨by omega, by omega⟩
theorem wrap_u64n (r : Nat) (h : r < 18446744073709551616) : IntKind.u64.wrap (r : Int) = r := IntWalk.u64_in _ ⟨by omega, by omega⟩
theorem wrap_i64n (r : Nat) (h : r < 9223372036854775808) : IntKind.i64.wrap (r : Int) = r := IntWalk.i64_in _ ⟨by omega, by omega⟩

theorem and_u8 (a b : Nat) (ha : a < 256) (hb : b < 256) : bits .and .u8 a b = ((a &&& b : Nat) : Int) := bits_and .u8 a b ha hb fun r hr => wrap_u8n r (by omega)
theorem or_u8 (a b : Nat) (ha : a < 256) (hb : b < 256) : bits .or .u8 a b = ((a ||| b : Nat) : Int) := bits_or .u8 a b 8 ha hb (by decide) fun r hr => wrap_u8n r hr
theorem xor_u8 (a b : Nat) (ha : a < 256) (hb : b < 256) : bits .xor .u8 a b = ((a ^^^ b : Nat) : Int) := bits_xor .u8 a b 8 ha hb (by decide) fun r hr => wrap_u8n r hr
theorem and_u32 (a b : Nat) (ha : a < 4294967296) (hb : b < 4294967296) : bits .and .u32 a b = ((a &&& b : Nat) : Int) := bits_and .u32 a b ha hb fun r hr => wrap_u32n r (by omega)
theorem or_u32 (a b : Nat) (ha : a < 4294967296) (hb : b < 4294967296) : bits .or .u32 a b = ((a ||| b : Nat) : Int) := bits_or .u32 a b 32 ha hb (by decide) fun r hr => wrap_u32n r hr
theorem xor_u32 (a b : Nat) (ha : a < 4294967296) (hb : b < 4294967296) : bits .xor .u32 a b = ((a ^^^ b : Nat) : Int) := bits_xor .u32 a b 32 ha hb (by decide) fun r hr => wrap_u32n r hr
theorem and_u64 (a b : Nat) (ha : a < 18446744073709551616) (hb : b < 18446744073709551616) : bits .and .u64 a b = ((a &&& b : Nat) : Int) := bits_and .u64 a b ha hb fun r hr => wrap_u64n r (by omega)
theorem or_u64 (a b : Nat) (ha : a < 18446744073709551616) (hb : b < 18446744073709551616) : bits .or .u64 a b = ((a ||| b : Nat) : Int) := bits_or .u64 a b 64 ha hb (by decide) fun r hr => wrap_u64n r hr
theorem xor_u64 (a b : Nat) (ha : a < 18446744073709551616) (hb : b < 18446744073709551616) : bits .xor .u64 a b = ((a ^^^ b : Nat) : Int) := bits_xor .u64 a b 64 ha hb (by decide) fun r hr => wrap_u64n r hr
theorem and_i64 (a b : Nat) (ha : a < 9223372036854775808) (hb : b < 9223372036854775808) : bits .and .i64 a b = ((a &&& b : Nat) : Int) :=
  bits_and .i64 a b (Nat.lt_trans ha (by decide)) (Nat.lt_trans hb (by decide)) fun r hr => wrap_i64n r (by omega)
theorem or_i64 (a b : Nat) (ha : a < 9223372036854775808) (hb : b < 9223372036854775808) : bits .or .i64 a b = ((a ||| b : Nat) : Int) := bits_or .i64 a b 63 ha hb (by decide) fun r hr => wrap_i64n r hr
theorem xor_i64 (a b : Nat) (ha : a < 9223372036854775808) (hb : b < 9223372036854775808) : bits .xor .i64 a b = ((a ^^^ b : Nat) : Int) := bits_xor .i64 a b 63 ha hb (by decide) fun r hr => wrap_i64n r hr

/-- a shift to the right of a number that is not below nought -/
theorem shr_nat (a : Nat) (y : Int) (b : Nat) (k : IntKind) (hy : y = b) (hb : b < k.bits) : (a : Int).fdiv (2 ^ (min y.toNat k.bits)) = ((a / 2 ^ b : Nat) : Int) := by
  subst hy
  rw [Int.toNat_natCast, Nat.min_eq_left (Nat.le_of_lt hb), Int.fdiv_eq_ediv_of_nonneg _ (by exact Int.le_of_lt (Int.pow_pos (by decide)))]
  simp
theorem tdiv_nat (a b : Nat) : (a : Int).tdiv (b : Int) = ((a / b : Nat) : Int) := by
  rw [Int.tdiv_eq_ediv_of_nonneg (by omega)]; simp
theorem tmod_nat (a b : Nat) : (a : Int).tmod (b : Int) = ((a % b : Nat) : Int) := by
  rw [Int.tmod_eq_emod_of_nonneg (by omega)]; simp
theorem and15 (a : Nat) : a &&& 15 = a % 16 := Nat.and_two_pow_sub_one_eq_mod a 4

section
variable {k : IntKind} {a b : Int} {K : Int → Prop}
theorem Shl.at (n p : Nat) (hb : b = n) (hn : n ≤ k.bits) (hp : 2 ^ n = p) (h : Ar k (a * p) K) : Shl k a b K := by
  subst hb
  refine Shl.mk (by omega) ?_
  rw [Int.toNat_natCast, Nat.min_eq_left hn]
  have : (2 : Int) ^ n = (p : Int) := by rw [← hp]; simp
  rw [this]
  exact h.out
theorem Shr.at (x n p : Nat) (ha : a = x) (hb : b = n) (hn : n ≤ k.bits) (hp : 2 ^ n = p) (h : K ((x / p : Nat) : Int)) : Shr k a b K := by
  subst hb; subst ha
  refine Shr.mk (by omega) ?_
  rw [Int.toNat_natCast, Nat.min_eq_left hn, Int.fdiv_eq_ediv_of_nonneg _ (by exact Int.le_of_lt (Int.pow_pos (by decide)))]
  have : (2 : Int) ^ n = (p : Int) := by rw [← hp]; simp
  rw [this]
  exact h
theorem Shl.u8 (n p : Nat) (hb : b = n) (hn : n ≤ 8) (hp : 2 ^ n = p) (h : Ar .u8 (a * p) K) : Shl .u8 a b K := Shl.at n p hb hn hp h
theorem Shr.u8 (x n p : Nat) (ha : a = x) (hb : b = n) (hn : n ≤ 8) (hp : 2 ^ n = p) (h : K ((x / p : Nat) : Int)) : Shr .u8 a b K := Shr.at x n p ha hb hn hp h
theorem Shl.u32 (n p : Nat) (hb : b = n) (hn : n ≤ 32) (hp : 2 ^ n = p) (h : Ar .u32 (a * p) K) : Shl .u32 a b K := Shl.at n p hb hn hp h
theorem Shr.u32 (x n p : Nat) (ha : a = x) (hb : b = n) (hn : n ≤ 32) (hp : 2 ^ n = p) (h : K ((x / p : Nat) : Int)) : Shr .u32 a b K := Shr.at x n p ha hb hn hp h
theorem Shl.u64 (n p : Nat) (hb : b = n) (hn : n ≤ 64) (hp : 2 ^ n = p) (h : Ar .u64 (a * p) K) : Shl .u64 a b K := Shl.at n p hb hn hp h
theorem Shr.u64 (x n p : Nat) (ha : a = x) (hb : b = n) (hn : n ≤ 64) (hp : 2 ^ n = p) (h : K ((x / p : Nat) : Int)) : Shr .u64 a b K := Shr.at x n p ha hb hn hp h
theorem Shl.i64 (n p : Nat) (hb : b = n) (hn : n ≤ 64) (hp : 2 ^ n = p) (h : Ar .i64 (a * p) K) : Shl .i64 a b K := Shl.at n p hb hn hp h
theorem Shr.i64 (x n p : Nat) (ha : a = x) (hb : b = n) (hn : n ≤ 64) (hp : 2 ^ n = p) (h : K ((x / p : Nat) : Int)) : Shr .i64 a b K := Shr.at x n p ha hb hn hp h
theorem Quo.at (x y : Nat) (ha : a = x) (hb : b = y) (hy : 0 < y) (h : Ar k ((x / y : Nat) : Int) K) : Quo k a b K := by
  subst hb; subst ha
  exact Quo.mk (by omega) (by rw [tdiv_nat]; exact h.out)
theorem Rem.at (x y : Nat) (ha : a = x) (hb : b = y) (hy : 0 < y) (h : K ((x % y : Nat) : Int)) : Rem k a b K := by
  subst hb; subst ha
  exact Rem.mk (by omega) (by rw [tmod_nat]; exact h)
theorem Bt.and8 (x y : Nat) (ha : a = x) (hb : b = y) (hx : x < 256) (hy : y < 256) (h : K ((x &&& y : Nat) : Int)) : Bt .and .u8 a b K := by subst hb; subst ha; exact Bt.mk (by rw [and_u8 x y hx hy]; exact h)
theorem Bt.or8 (x y : Nat) (ha : a = x) (hb : b = y) (hx : x < 256) (hy : y < 256) (h : K ((x ||| y : Nat) : Int)) : Bt .or .u8 a b K := by subst hb; subst ha; exact Bt.mk (by rw [or_u8 x y hx hy]; exact h)
theorem Bt.xor8 (x y : Nat) (ha : a = x) (hb : b = y) (hx : x < 256) (hy : y < 256) (h : K ((x ^^^ y : Nat) : Int)) : Bt .xor .u8 a b K := by subst hb; subst ha; exact Bt.mk (by rw [xor_u8 x y hx hy]; exact h)
theorem Bt.and32 (x y : Nat) (ha : a = x) (hb : b = y) (hx : x < 4294967296) (hy : y < 4294967296) (h : K ((x &&& y : Nat) : Int)) : Bt .and .u32 a b K := by subst hb; subst ha; exact Bt.mk (by rw [and_u32 x y hx hy]; exact h)
theorem Bt.or32 (x y : Nat) (ha : a = x) (hb : b = y) (hx : x < 4294967296) (hy : y < 4294967296) (h : K ((x ||| y : Nat) : Int)) : Bt .or .u32 a b K := by subst hb; subst ha; exact Bt.mk (by rw [or_u32 x y hx hy]; exact h)
theorem Bt.xor32 (x y : Nat) (ha : a = x) (hb : b = y) (hx : x < 4294967296) (hy : y < 4294967296) (h : K ((x ^^^ y : Nat) : Int)) : Bt .xor .u32 a b K := by subst hb; subst ha; exact Bt.mk (by rw [xor_u32 x y hx hy]; exact h)
theorem Bt.and64 (x y : Nat) (ha : a = x) (hb : b = y) (hx : x < 18446744073709551616) (hy : y < 18446744073709551616) (h : K ((x &&& y : Nat) : Int)) : Bt .and .u64 a b K := by subst hb; subst ha; exact Bt.mk (by rw [and_u64 x y hx hy]; exact h)
theorem Bt.or64 (x y : Nat) (ha : a = x) (hb : b = y) (hx : x < 18446744073709551616) (hy : y < 18446744073709551616) (h : K ((x ||| y : Nat) : Int)) : Bt .or .u64 a b K := by subst hb; subst ha; exact Bt.mk (by rw [or_u64 x y hx hy]; exact h)
theorem Bt.xor64 (x y : Nat) (ha : a = x) (hb : b = y) (hx : x < 18446744073709551616) (hy : y < 18446744073709551616) (h : K ((x ^^^ y : Nat) : Int)) : Bt .xor .u64 a b K := by subst hb; subst ha; exact Bt.mk (by rw [xor_u64 x y hx hy]; exact h)
theorem Bt.andI (x y : Nat) (ha : a = x) (hb : b = y) (hx : x < 9223372036854775808) (hy : y < 9223372036854775808) (h : K ((x &&& y : Nat) : Int)) : Bt .and .i64 a b K := by subst hb; subst ha; exact Bt.mk (by rw [and_i64 x y hx hy]; exact h)
theorem Bt.orI (x y : Nat) (ha : a = x) (hb : b = y) (hx : x < 9223372036854775808) (hy : y < 9223372036854775808) (h : K ((x ||| y : Nat) : Int)) : Bt .or .i64 a b K := by subst hb; subst ha; exact Bt.mk (by rw [or_i64 x y hx hy]; exact h)
theorem Bt.xorI (x y : Nat) (ha : a = x) (hb : b = y) (hx : x < 9223372036854775808) (hy : y < 9223372036854775808) (h : K ((x ^^^ y : Nat) : Int)) : Bt .xor .i64 a b K := by subst hb; subst ha; exact Bt.mk (by rw [xor_i64 x y hx hy]; exact h)
end

theorem Ar.m8 {z : Int} {K : Int → Prop} (x : Nat) (hz : z = x) (h : K ((x % 256 : Nat) : Int)) : Ar .u8 z K := by
  subst hz; exact Ar.mk (by rw [IntKind.wrap_u8]; simpa using h)
theorem Ar.m32 {z : Int} {K : Int → Prop} (x : Nat) (hz : z = x) (h : K ((x % 4294967296 : Nat) : Int)) : Ar .u32 z K := by
  subst hz; exact Ar.mk (by rw [IntKind.wrap_u32]; simpa using h)
theorem Ar.m64 {z : Int} {K : Int → Prop} (x : Nat) (hz : z = x) (h : K ((x % 18446744073709551616 : Nat) : Int)) : Ar .u64 z K := by
  subst hz; exact Ar.mk (by rw [IntKind.wrap_u64]; simpa using h)
theorem neg8 (c : Nat) (h : c < 2) : IntKind.u8.wrap (-(c : Int)) = ((255 * c : Nat) : Int) := by
  rcases (by omega : c = 0 ∨ c = 1) with rfl | rfl <;> decide
theorem Ar.neg8 {z : Int} {K : Int → Prop} (c : Nat) (hc : c < 2) (hz : z = -(c : Int)) (h : K ((255 * c : Nat) : Int)) : Ar .u8 z K := by
  subst hz; exact Ar.mk (by rw [Go.Proofs.YtjafamiaahabgaaDoor.neg8 c hc]; exact h)
theorem and1 (a : Nat) : a &&& 1 = a % 2 := Nat.and_two_pow_sub_one_eq_mod a 1
theorem xor_lt8 {a b : Nat} (ha : a < 256) (hb : b < 256) : a ^^^ b < 256 := Nat.xor_lt_two_pow (n := 8) ha hb
theorem Ar.mi {z : Int} {K : Int → Prop} (x : Nat) (hz : z = x) (hx : x < 9223372036854775808) (h : K (x : Int)) : Ar .i64 z K := by
  subst hz; exact Ar.mk (by rw [wrap_i64n x hx]; exact h)

end Go.Proofs.YtjafamiaahabgaaDoor
