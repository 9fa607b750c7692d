/- A layer over the kit's wp: a frame is a partial list of known slots; one statement is run by reduction, over a table of types. Nothing is claimed here. -/
import Derived.WalkKit
import Derived.Orders
import Derived.Deep.Quiet
import Derived.KernelRfl
namespace Go.Proofs.Ytlldgodjfpgbcaa

set_option linter.unusedVariables false
set_option linter.unusedSimpArgs false

/-! ### Partial frames -/
abbrev Env := List (Nat × Value)

def look {α : Type} : List (Nat × α) → Nat → Option α
  | [], _ => none
  | (i, v) :: e, j => match Nat.beq i j with
    | true => some v
    | false => look e j

def ov (e : Env) : Operand → Option Value
  | .tmp t => look e t
  | .const v => some v
  | .global g => some (.pointer (some ⟨g, 0, none⟩))
  | .func f => some (.func (.func f) #[] #[])

def ovs (e : Env) : List Operand → Option (List Value)
  | [] => some []
  | x :: xs => match ov e x with
    | some v => match ovs e xs with
      | some vs => some (v :: vs)
      | none => none
    | none => none

structure Fits (N : Nat) (e : Env) (a : Act) : Prop where
  defers : a.defers = []
  size : a.tmps.size = N
  get : ∀ j v, look e j = some v → a.tmps.getD j undef = v

theorem look_cons {α : Type} (i : Nat) (v : α) (e : List (Nat × α)) (j : Nat) : look ((i, v) :: e) j = if i = j then some v else look e j := by
  simp only [look]
  by_cases h : i = j
  · subst h; simp
  · cases hb : Nat.beq i j
    · simp [h]
    · exact absurd (Nat.eq_of_beq_eq_true hb) h

theorem Fits.ov {N : Nat} {e : Env} {a : Act} (h : Fits N e a) {x : Operand} {v : Value} (hx : ov e x = some v) : a.eval x = v := by
  cases x with
  | tmp t => exact h.get t v hx
  | const c => simpa [Go.Proofs.Ytlldgodjfpgbcaa.ov, Act.eval] using hx
  | global g => simpa [Go.Proofs.Ytlldgodjfpgbcaa.ov, Act.eval] using hx
  | func f => simpa [Go.Proofs.Ytlldgodjfpgbcaa.ov, Act.eval] using hx

theorem Fits.ovs {N : Nat} {e : Env} {a : Act} (h : Fits N e a) : ∀ {xs : List Operand} {vs : List Value}, ovs e xs = some vs → xs.map a.eval = vs := by
  intro xs
  induction xs with
  | nil => intro vs hx; simpa [Go.Proofs.Ytlldgodjfpgbcaa.ovs, eq_comm] using hx
  | cons x xs ih =>
    intro vs hx
    simp only [Go.Proofs.Ytlldgodjfpgbcaa.ovs] at hx
    cases h1 : Go.Proofs.Ytlldgodjfpgbcaa.ov e x with
    | none => simp [h1] at hx
    | some v =>
      cases h2 : Go.Proofs.Ytlldgodjfpgbcaa.ovs e xs with
      | none => simp [h1, h2] at hx
      | some us =>
        simp [h1, h2] at hx
        subst hx
        simp [h.ov h1, ih h2]

theorem Fits.put {N : Nat} {e : Env} {a : Act} (h : Fits N e a) {d : Nat} (hd : d < N) (v : Value) : Fits N ((d, v) :: e) (a.put (some d) v) := by
  refine ⟨h.defers, by simp [Act.put, h.size], fun j u hj => ?_⟩
  rw [look_cons] at hj
  by_cases hdj : d = j
  · subst hdj
    rw [if_pos rfl] at hj
    injection hj with hj
    subst hj
    simp [Act.put, h.size, hd]
  · rw [if_neg hdj] at hj
    have := h.get j u hj
    simpa [Act.put, Array.getElem?_setIfInBounds_ne hdj] using this

def Sub (e e' : Env) : Prop := ∀ j v, look e j = some v → look e' j = some v
theorem Fits.sub {N : Nat} {e e' : Env} {a : Act} (h : Fits N e' a) (hs : Sub e e') : Fits N e a := ⟨h.defers, h.size, fun j v hj => h.get j v (hs j v hj)⟩

def subL : Env → Env → Prop
  | [], _ => True
  | (i, v) :: l, e => look e i = some v ∧ subL l e
theorem subL.sub : ∀ {l e : Env}, subL l e → Sub l e
  | [], _, _ => fun j v h => by simp [look] at h
  | (i, u) :: l, e, h => fun j v hj => by
    rw [look_cons] at hj
    by_cases hij : i = j
    · subst hij
      rw [if_pos rfl] at hj
      rw [h.1]; exact hj
    · rw [if_neg hij] at hj
      exact subL.sub h.2 j v hj

/-! ### The table of types -/
inductive Sh where
  | bool | int (k : IntKind) | str | ptr (e : TypeId) | slice (e : TypeId) | array (n : Nat) (e : TypeId) | map (k e : TypeId)
  | struct (fs : List (Nat × TypeId)) | func | iface | other

structure Td where
  sh : Sh
  size : Nat
  bytes : Nat
  zero : Value

def shOf : TypeDesc → Sh
  | .bool => .bool
  | .int k => .int k
  | .string => .str
  | .pointer e => .ptr e
  | .slice e => .slice e
  | .array n e => .array n e
  | .map k e => .map k e
  | .struct fs => .struct (fs.toList.map fun f => (f.offset, f.type))
  | .func .. => .func
  | .interface _ => .iface
  | _ => .other

structure TdOk (P : Program) (t : TypeId) (d : Td) : Prop where
  sh : (P.underlying t).map shOf = some d.sh
  info : (P.info? t).map (fun i => (i.zero, i.size, i.bytes)) = some (some d.zero, d.size, d.bytes)

abbrev Tab := List (Nat × Td)
def TabOk (P : Program) (T : Tab) : Prop := ∀ t d, look T t = some d → TdOk P t d
theorem tabOk_nil {P : Program} : TabOk P [] := fun _ _ h => by simp [look] at h
theorem tabOk_cons {P : Program} {t : TypeId} {d : Td} {T : Tab} (h : TdOk P t d) (h' : TabOk P T) : TabOk P ((t, d) :: T) := fun u c hu => by
  rw [look_cons] at hu
  by_cases htu : t = u
  · subst htu
    rw [if_pos rfl] at hu
    injection hu with hu
    subst hu; exact h
  · rw [if_neg htu] at hu
    exact h' u c hu

def Sh.agg : Sh → Bool
  | .struct _ | .array _ _ => true
  | _ => false

section
variable {P : Program} {t : TypeId} {d : Td} (h : TdOk P t d) (w : World)
include h
theorem TdOk.und : ∃ x, P.underlying t = some x ∧ shOf x = d.sh := by
  have := h.sh
  cases hx : P.underlying t with
  | none => simp [hx] at this
  | some x => exact ⟨x, rfl, by simpa [hx] using this⟩
theorem TdOk.inf : ∃ i, P.info? t = some i ∧ i.zero = some d.zero ∧ i.size = d.size ∧ i.bytes = d.bytes := info_parts h.info
theorem TdOk.run_und : ∃ x, (underlying t).run P w = .ok x w ∧ shOf x = d.sh := by
  obtain ⟨x, hx, hs⟩ := h.und
  exact ⟨x, by simp [underlying, hx], hs⟩
theorem TdOk.run_size : (sizeOf t).run P w = .ok d.size w := by
  obtain ⟨i, hi, _, hs, _⟩ := h.inf
  simp [sizeOf, typeInfo, hi, hs]
theorem TdOk.run_zero : (zeroValue t).run P w = .ok d.zero w := by
  obtain ⟨i, hi, hz, _, _⟩ := h.inf
  simp [zeroValue, typeInfo, hi, hz]
theorem TdOk.run_agg : (isAgg t).run P w = .ok d.sh.agg w := by
  obtain ⟨x, hx, hs⟩ := h.run_und w
  rw [← hs]
  cases x <;> simp [isAgg, hx, shOf, Sh.agg]
end

/-! ### What stops a reduction -/
structure Ar (k : IntKind) (z : Int) (K : Int → Prop) : Prop where
  i ::
  o : K (k.wrap z)
structure Bt (op : BinOp) (k : IntKind) (a b : Int) (K : Int → Prop) : Prop where
  i ::
  o : K (bits op k a b)
structure Shl (k : IntKind) (a b : Int) (K : Int → Prop) : Prop where
  i ::
  o : 0 ≤ b ∧ K (k.wrap (a * 2 ^ (min b.toNat k.bits)))
structure Shr (k : IntKind) (a b : Int) (K : Int → Prop) : Prop where
  i ::
  o : 0 ≤ b ∧ K (a.fdiv (2 ^ (min b.toNat k.bits)))
structure Quo (k : IntKind) (a b : Int) (K : Int → Prop) : Prop where
  i ::
  o : b ≠ 0 ∧ K (k.wrap (a.tdiv b))
structure Rem (k : IntKind) (a b : Int) (K : Int → Prop) : Prop where
  i ::
  o : b ≠ 0 ∧ K (a.tmod b)
/-- a bound, then what follows -/
structure Chk (A B : Prop) : Prop where
  i ::
  o : A ∧ B
structure Br (b : Bool) (A B : Prop) : Prop where
  i ::
  o : (b = true → A) ∧ (b = false → B)
/-- a computation that hands on a value and leaves every world alone -/
structure Qv (P : Program) (s : Sem Value) (K : Value → Prop) : Prop where
  i ::
  o : ∃ v, (∀ w, s.run P w = .ok v w) ∧ K v
structure Rv (P : Program) (s : Sem Value) (w : World) (K : Value → World → Prop) : Prop where
  i ::
  o : ∃ v w', s.run P w = .ok v w' ∧ K v w'
structure Ru (P : Program) (s : Sem Unit) (w : World) (K : World → Prop) : Prop where
  i ::
  o : ∃ w', s.run P w = .ok () w' ∧ K w'
structure Ld (P : Program) (w : World) (t : TypeId) (a : Addr) (K : Value → Prop) : Prop where
  i ::
  o : ∃ v, (loadVar t a).run P w = .ok v w ∧ K v
structure St (P : Program) (w : World) (t : TypeId) (a : Addr) (v : Value) (K : World → Prop) : Prop where
  i ::
  o : ∃ w', (storeVar t a v).run P w = .ok () w' ∧ K w'
/-- a call of function f that returns -/
structure Fn (P : Program) (f : FuncId) (args : Array Value) (w : World) (K : Value → World → Prop) : Prop where
  i ::
  o : (∃ fn, P.funcs[f]? = some fn ∧ (fn.name == "runtime.NumGoroutine") = false ∧ fn.body.isNone = false) ∧
  Calls P f args w fun e w' => ∃ v, e = .returned v ∧ K v w'

/-- whether two structs or arrays are alike -/
structure Eg (P : Program) (t : TypeId) (a b : Array Value) (K : Bool → Prop) : Prop where
  i ::
  o : ∃ r : Bool, (∀ w, (Op.equal t (.agg a) (.agg b)).run P w = .ok r w) ∧ P.eqGuardType P.depth t = false ∧ K r
theorem Eg.mk {P : Program} {t : TypeId} {a b : Array Value} {K : Bool → Prop} (r : Bool) (h : ∀ w, (Op.equal t (.agg a) (.agg b)).run P w = .ok r w) (hg : P.eqGuardType P.depth t = false) (hk : K r) : Eg P t a b K := ⟨⟨r, h, hg, hk⟩⟩

theorem Ar.mk {k : IntKind} {z : Int} {K : Int → Prop} (h : K (k.wrap z)) : Ar k z K := ⟨h⟩
theorem Bt.mk {op : BinOp} {k : IntKind} {a b : Int} {K : Int → Prop} (h : K (bits op k a b)) : Bt op k a b K := ⟨h⟩
theorem Bt.out {op : BinOp} {k : IntKind} {a b : Int} {K : Int → Prop} (h : Bt op k a b K) : K (bits op k a b) := h.o
theorem Shl.out {k : IntKind} {a b : Int} {K : Int → Prop} (h : Shl k a b K) : 0 ≤ b ∧ K (k.wrap (a * 2 ^ (min b.toNat k.bits))) := h.o
theorem Shr.out {k : IntKind} {a b : Int} {K : Int → Prop} (h : Shr k a b K) : 0 ≤ b ∧ K (a.fdiv (2 ^ (min b.toNat k.bits))) := h.o
theorem Quo.out {k : IntKind} {a b : Int} {K : Int → Prop} (h : Quo k a b K) : b ≠ 0 ∧ K (k.wrap (a.tdiv b)) := h.o
theorem Rem.out {k : IntKind} {a b : Int} {K : Int → Prop} (h : Rem k a b K) : b ≠ 0 ∧ K (a.tmod b) := h.o
theorem Chk.mk {A B : Prop} (h : A) (h' : B) : Chk A B := ⟨⟨h, h'⟩⟩
theorem Chk.out {A B : Prop} (h : Chk A B) : A ∧ B := h.o
theorem Shl.mk {k : IntKind} {a b : Int} {K : Int → Prop} (hb : 0 ≤ b) (h : K (k.wrap (a * 2 ^ (min b.toNat k.bits)))) : Shl k a b K := ⟨⟨hb, h⟩⟩
theorem Shr.mk {k : IntKind} {a b : Int} {K : Int → Prop} (hb : 0 ≤ b) (h : K (a.fdiv (2 ^ (min b.toNat k.bits)))) : Shr k a b K := ⟨⟨hb, h⟩⟩
theorem Quo.mk {k : IntKind} {a b : Int} {K : Int → Prop} (hb : b ≠ 0) (h : K (k.wrap (a.tdiv b))) : Quo k a b K := ⟨⟨hb, h⟩⟩
theorem Rem.mk {k : IntKind} {a b : Int} {K : Int → Prop} (hb : b ≠ 0) (h : K (a.tmod b)) : Rem k a b K := ⟨⟨hb, h⟩⟩
theorem Ar.out {k : IntKind} {z : Int} {K : Int → Prop} (h : Ar k z K) : K (k.wrap z) := h.o
theorem Ar.i64 {z : Int} {K : Int → Prop} (h0 : -9223372036854775808 ≤ z) (h1 : z ≤ 9223372036854775807) (h : K z) : Ar .i64 z K := .mk (by rw [IntWalk.i64_in z ⟨h0, h1⟩]; exact h)
theorem Ar.u64 {z : Int} {K : Int → Prop} (h0 : 0 ≤ z) (h1 : z ≤ 18446744073709551615) (h : K z) : Ar .u64 z K := .mk (by rw [IntWalk.u64_in z ⟨h0, h1⟩]; exact h)
theorem Ar.u32 {z : Int} {K : Int → Prop} (h0 : 0 ≤ z) (h1 : z ≤ 4294967295) (h : K z) : Ar .u32 z K := .mk (by rw [IntWalk.u32_in z ⟨h0, h1⟩]; exact h)
theorem Ar.u8 {z : Int} {K : Int → Prop} (h0 : 0 ≤ z) (h1 : z ≤ 255) (h : K z) : Ar .u8 z K := .mk (by rw [IntWalk.u8_in z ⟨h0, h1⟩]; exact h)
theorem Br.mk {b : Bool} {A B : Prop} (h : b = true → A) (h' : b = false → B) : Br b A B := ⟨⟨h, h'⟩⟩
theorem Br.out {b : Bool} {A B : Prop} (h : Br b A B) : (b = true → A) ∧ (b = false → B) := h.o
theorem Br.tt {A B : Prop} (h : A) : Br true A B := .mk (fun _ => h) nofun
theorem Br.ff {A B : Prop} (h : B) : Br false A B := .mk nofun (fun _ => h)
theorem Br.dec {p : Prop} [Decidable p] {A B : Prop} (h : p → A) (h' : ¬p → B) : Br (decide p) A B := .mk (fun e => h (of_decide_eq_true e)) (fun e => h' (of_decide_eq_false e))
theorem Br.dec_t {p : Prop} [Decidable p] {A B : Prop} (hp : p) (h : A) : Br (decide p) A B := .dec (fun _ => h) (fun n => absurd hp n)
theorem Br.dec_f {p : Prop} [Decidable p] {A B : Prop} (hp : ¬p) (h : B) : Br (decide p) A B := .dec (fun y => absurd y hp) (fun _ => h)
theorem Br.not {b : Bool} {A B : Prop} (h : Br b B A) : Br (!b) A B := .mk (fun e => h.out.2 (by simpa using e)) (fun e => h.out.1 (by simpa using e))
theorem Qv.mk {P : Program} {s : Sem Value} {K : Value → Prop} (v : Value) (h : ∀ w, s.run P w = .ok v w) (hk : K v) : Qv P s K := ⟨⟨v, h, hk⟩⟩
theorem Rv.mk {P : Program} {s : Sem Value} {w : World} {K : Value → World → Prop} {v : Value} {w' : World} (h : s.run P w = .ok v w') (hk : K v w') : Rv P s w K := ⟨⟨v, w', h, hk⟩⟩
theorem Ru.mk {P : Program} {s : Sem Unit} {w : World} {K : World → Prop} {w' : World} (h : s.run P w = .ok () w') (hk : K w') : Ru P s w K := ⟨⟨w', h, hk⟩⟩
theorem Ld.mk {P : Program} {w : World} {t : TypeId} {a : Addr} {K : Value → Prop} {v : Value} (h : (loadVar t a).run P w = .ok v w) (hk : K v) : Ld P w t a K := ⟨⟨v, h, hk⟩⟩
theorem St.mk {P : Program} {w : World} {t : TypeId} {a : Addr} {v : Value} {K : World → Prop} {w' : World} (h : (storeVar t a v).run P w = .ok () w') (hk : K w') : St P w t a v K := ⟨⟨w', h, hk⟩⟩

/-! ### Operations that leave the world alone -/
def ikEq : IntKind → IntKind → Bool
  | .i8, .i8 | .i16, .i16 | .i32, .i32 | .i64, .i64 | .u8, .u8 | .u16, .u16 | .u32, .u32 | .u64, .u64 => true
  | _, _ => false
theorem ikEq_eq {a b : IntKind} (h : ikEq a b = true) : a = b := by cases a <;> cases b <;> first | rfl | (simp [ikEq] at h)

def whenT (b : Bool) (A : Prop) : Prop := match b with
  | true => A
  | false => False
theorem whenT_out {b : Bool} {A : Prop} (h : whenT b A) : b = true ∧ A := by cases b <;> first | exact h.elim | exact ⟨rfl, h⟩

/-- a binary operator on two values of a type of that shape -/
def binV (op : BinOp) (sh : Sh) (x y : Value) (K : Value → Prop) : Prop :=
  match x, y with
  | .int k a, .int k' b => match op with
    | .shl => Shl k a b fun z => K (.int k z)
    | .shr => Shr k a b fun z => K (.int k z)
    | .add => whenT (ikEq k k') (Ar k (a + b) fun z => K (.int k z))
    | .sub => whenT (ikEq k k') (Ar k (a - b) fun z => K (.int k z))
    | .mul => whenT (ikEq k k') (Ar k (a * b) fun z => K (.int k z))
    | .quo => whenT (ikEq k k') (Quo k a b fun z => K (.int k z))
    | .rem => whenT (ikEq k k') (Rem k a b fun z => K (.int k z))
    | .and => whenT (ikEq k k') (Bt .and k a b fun z => K (.int k z))
    | .or => whenT (ikEq k k') (Bt .or k a b fun z => K (.int k z))
    | .xor => whenT (ikEq k k') (Bt .xor k a b fun z => K (.int k z))
    | .andNot => whenT (ikEq k k') (Bt .andNot k a b fun z => K (.int k z))
    | .eql => whenT (ikEq k k') (K (.bool (decide (a = b))))
    | .neq => whenT (ikEq k k') (K (.bool (!decide (a = b))))
    | .lss => whenT (ikEq k k') (K (.bool (decide (a < b))))
    | .leq => whenT (ikEq k k') (K (.bool (decide (a ≤ b))))
    | .gtr => whenT (ikEq k k') (K (.bool (decide (b < a))))
    | .geq => whenT (ikEq k k') (K (.bool (decide (b ≤ a))))
  | .string a, .string b => match op with
    | .add => Chk (a.size + b.size ≤ 9223372036854775807) (K (.string (a ++ b)))
    | .eql => K (.bool (decide (a = b)))
    | .neq => K (.bool (!decide (a = b)))
    | .lss => K (.bool (Op.bytesLess a.toList b.toList))
    | .gtr => K (.bool (!(Op.bytesLess a.toList b.toList || decide (a = b))))
    | .leq => K (.bool (Op.bytesLess a.toList b.toList || decide (a = b)))
    | .geq => K (.bool (!Op.bytesLess a.toList b.toList))
    | _ => False
  | .bool a, .bool b => match op, sh with
    | .eql, .bool => K (.bool (a == b))
    | .neq, .bool => K (.bool (!(a == b)))
    | _, _ => False
  | .pointer none, .pointer b => match op, sh with
    | .eql, .ptr _ => K (.bool b.isNone)
    | .neq, .ptr _ => K (.bool (!b.isNone))
    | _, _ => False
  | .pointer (some a), .pointer b => match op, sh with
    | .eql, .ptr _ => match b with
      | none => K (.bool false)
      | some _ => False
    | .neq, .ptr _ => match b with
      | none => K (.bool true)
      | some _ => False
    | _, _ => False
  | .slice a _ _, .slice none _ _ => match op, sh with
    | .eql, .slice _ => K (.bool a.isNone)
    | .neq, .slice _ => K (.bool (!a.isNone))
    | _, _ => False
  | .map a, .map none => match op, sh with
    | .eql, .map _ _ => K (.bool a.isNone)
    | .neq, .map _ _ => K (.bool (!a.isNone))
    | _, _ => False
  | _, _ => False

theorem toList_beq (a b : ByteArray) : (a.toList == b.toList) = decide (a = b) := by
  rw [ByteArray.toList_eq, ByteArray.toList_eq]
  by_cases h : a = b
  · simp [h]
  · have : ¬ a.data.toList = b.data.toList := fun e => h (by
      cases a; cases b
      simp only [ByteArray.mk.injEq]
      exact Array.toList_inj.1 e)
    simp only [h, decide_false]
    exact beq_eq_false_iff_ne.2 this

/-- what an operation on values gives in every world -/
def Gives (P : Program) (s : Sem Value) (K : Value → Prop) : Prop := ∃ v, (∀ w, s.run P w = .ok v w) ∧ K v
theorem Gives.pure {P : Program} {v : Value} {K : Value → Prop} (h : K v) : Gives P (Pure.pure v) K := ⟨v, fun _ => rfl, h⟩
theorem Gives.of_eq {P : Program} {s : Sem Value} {v : Value} {K : Value → Prop} (hs : s = Pure.pure v) (h : K v) : Gives P s K := ⟨v, fun _ => by rw [hs]; rfl, h⟩

section
variable {P : Program} {t : TypeId} (w : World)
theorem eqRun {x y : Value} {b : Bool} (h : (Op.equalIn (9999 + 1) t x y).run P w = .ok b w) :
    ((do let r ← Op.equal t x y; pure (Value.bool r)) : Sem Value).run P w = .ok (.bool b) w := by
  have h' : (Op.equal t x y).run P w = .ok b w := h
  simp [h']
theorem neqRun {x y : Value} {b : Bool} (h : (Op.equalIn (9999 + 1) t x y).run P w = .ok b w) :
    ((do let r ← Op.equal t x y; pure (Value.bool (!r))) : Sem Value).run P w = .ok (.bool (!b)) w := by
  have h' : (Op.equal t x y).run P w = .ok b w := h
  simp [h']
theorem eqIn_bool (hu : P.underlying t = some .bool) (d : Nat) (a b : Bool) : (Op.equalIn (d + 1) t (.bool a) (.bool b)).run P w = .ok (a == b) w := by
  rw [Op.equalIn]; simp [run_underlying hu]
theorem eqIn_ptrN {e : TypeId} (hu : P.underlying t = some (.pointer e)) (d : Nat) (b : Option Addr) : (Op.equalIn (d + 1) t (.pointer none) (.pointer b)).run P w = .ok b.isNone w := by
  rw [Op.equalIn]; simp [run_underlying hu]
theorem eqIn_ptrS {e : TypeId} (hu : P.underlying t = some (.pointer e)) (d : Nat) (a : Addr) : (Op.equalIn (d + 1) t (.pointer (some a)) (.pointer none)).run P w = .ok false w := by
  rw [Op.equalIn]; simp [run_underlying hu]
theorem eqIn_slice {e : TypeId} (hu : P.underlying t = some (.slice e)) (d : Nat) (a : Option Addr) (n c n' c' : Nat) : (Op.equalIn (d + 1) t (.slice a n c) (.slice none n' c')).run P w = .ok a.isNone w := by
  rw [Op.equalIn]; cases a <;> simp [run_underlying hu]
theorem eqIn_map {k e : TypeId} (hu : P.underlying t = some (.map k e)) (d : Nat) (a : Option Nat) : (Op.equalIn (d + 1) t (.map a) (.map none)).run P w = .ok a.isNone w := by
  rw [Op.equalIn]; cases a <;> simp [run_underlying hu]
end

set_option maxHeartbeats 1000000 in
theorem binV_gives {P : Program} {op : BinOp} {t : TypeId} {sh : Sh} {x y : Value} {K : Value → Prop} (hu : (P.underlying t).map shOf = some sh) (ox oy : Operand)
    (h : binV op sh x y K) : Gives P (do eqGuard op t ox oy x y; binOp op t x y) K := by
  obtain ⟨u, hu, hs⟩ : ∃ u, P.underlying t = some u ∧ shOf u = sh := by
    cases hx : P.underlying t with
    | none => simp [hx] at hu
    | some u => exact ⟨u, rfl, by simpa [hx] using hu⟩
  unfold binV at h
  split at h
  · rename_i k a k' b
    simp only [eqGuard_at_int, pure_bind]
    split at h
    · have h := h.out
      refine ⟨_, fun w => ?_, h.2⟩
      have h0 : ¬ b < 0 := by omega
      simp [binOp, Op.shift, h0]
    · have h := h.out
      refine ⟨_, fun w => ?_, h.2⟩
      have h0 : ¬ b < 0 := by omega
      simp [binOp, Op.shift, h0]
    all_goals (replace h := whenT_out h; obtain rfl := ikEq_eq h.1; replace h := h.2)
    · exact .of_eq (by simp [binOp_add, Op.intArith]) h.out
    · exact .of_eq (by simp [binOp_sub, Op.intArith]) h.out
    · exact .of_eq (by simp [binOp_mul, Op.intArith]) h.out
    · exact .of_eq (by simp [binOp_quo, Op.intDiv, h.out.1]) h.out.2
    · exact .of_eq (by simp [binOp_rem, Op.intDiv, h.out.1]) h.out.2
    · exact .of_eq (by simp [binOp_and, Op.intBits, bits]) h.out
    · exact .of_eq (by simp [binOp_or, Op.intBits, bits]) h.out
    · exact .of_eq (by simp [binOp_xor, Op.intBits, bits]) h.out
    · exact .of_eq (by simp [binOp, Op.intBits, bits]) h.out
    · exact .of_eq (by simp [binOp, Op.intCmp]; rfl) h
    · exact .of_eq (by simp [binOp, Op.intCmp]; rfl) h
    all_goals exact .of_eq (by simp [binOp, Op.intCmp]) h
  · rename_i a b
    simp only [eqGuard_at_string, pure_bind]
    split at h
    · have h := h.out
      refine .of_eq ?_ h.2
      have h0 : ¬ ((a.size + b.size : Nat) : Int) > IntKind.i64.max := by rw [IntKind.max_i64]; omega
      simp only [binOp, Op.stringOp, if_neg h0]
    all_goals first
      | exact h.elim
      | exact .of_eq (by simp [binOp, Op.stringOp, toList_beq]) h
  · simp only [eqGuard_at_bool, pure_bind]
    split at h
    · cases u <;> simp only [shOf, reduceCtorEq] at hs
      exact ⟨_, fun w => eqRun w (eqIn_bool w hu _ _ _), h⟩
    · cases u <;> simp only [shOf, reduceCtorEq] at hs
      exact ⟨_, fun w => neqRun w (eqIn_bool w hu _ _ _), h⟩
    · exact h.elim
  · simp only [eqGuard_at_pointer, pure_bind]
    split at h
    · cases u <;> simp only [shOf, reduceCtorEq] at hs
      exact ⟨_, fun w => eqRun w (eqIn_ptrN w hu _ _), h⟩
    · cases u <;> simp only [shOf, reduceCtorEq] at hs
      exact ⟨_, fun w => neqRun w (eqIn_ptrN w hu _ _), h⟩
    · exact h.elim
  · simp only [eqGuard_at_pointer, pure_bind]
    split at h
    · cases u <;> simp only [shOf, reduceCtorEq] at hs
      split at h
      · exact ⟨_, fun w => eqRun w (eqIn_ptrS w hu _ _), h⟩
      · exact h.elim
    · cases u <;> simp only [shOf, reduceCtorEq] at hs
      split at h
      · exact ⟨_, fun w => neqRun w (eqIn_ptrS w hu _ _), h⟩
      · exact h.elim
    · exact h.elim
  · simp only [eqGuard_at_slice, pure_bind]
    split at h
    · cases u <;> simp only [shOf, reduceCtorEq] at hs
      exact ⟨_, fun w => eqRun w (eqIn_slice w hu _ _ _ _ _ _), h⟩
    · cases u <;> simp only [shOf, reduceCtorEq] at hs
      exact ⟨_, fun w => neqRun w (eqIn_slice w hu _ _ _ _ _ _), h⟩
    · exact h.elim
  · simp only [eqGuard_at_map, pure_bind]
    split at h
    · cases u <;> simp only [shOf, reduceCtorEq] at hs
      exact ⟨_, fun w => eqRun w (eqIn_map w hu _ _), h⟩
    · cases u <;> simp only [shOf, reduceCtorEq] at hs
      exact ⟨_, fun w => neqRun w (eqIn_map w hu _ _), h⟩
    · exact h.elim
  · exact h.elim

end Go.Proofs.Ytlldgodjfpgbcaa
