/- Operations of a region that leave the world alone, run by reduction: slices, fields, indexes; all of them together. Nothing is claimed here. -/
import Derived.Test.YtlldgodjfpgbcaaVp
namespace Go.Proofs.Ytlldgodjfpgbcaa
set_option linter.unusedVariables false
set_option linter.unusedSimpArgs false

def bnd (e : Env) (x : Option Operand) (dflt : Int) : Option Int :=
  match x with
  | none => some dflt
  | some x => match ov e x with
    | some (.int _ n) => some n
    | _ => none

def sliceK (a : Option Addr) (sz : Nat) (l h m : Int) (K : Value → Prop) : Prop :=
  match a with
  | none => ∀ n' c' : Nat, (n' : Int) = h - l → (c' : Int) = m - l → K (.slice none n' c')
  | some ⟨b, o, none⟩ => ∀ o' n' c' : Nat, (l < m → (o' : Int) = o + l * sz) → (l = m → o' = o) → (n' : Int) = h - l → (c' : Int) = m - l → K (.slice (some ⟨b, o', none⟩) n' c')
  | some _ => False

/-- the first part: the address stays -/
def sliceK0 (a : Option Addr) (h m : Int) (K : Value → Prop) : Prop :=
  match a with
  | none => ∀ n' c' : Nat, (n' : Int) = h → (c' : Int) = m → K (.slice none n' c')
  | some ⟨b, o, none⟩ => ∀ n' c' : Nat, (n' : Int) = h → (c' : Int) = m → K (.slice (some ⟨b, o, none⟩) n' c')
  | some _ => False

def sliceV (T : Tab) (t : TypeId) (x : Value) (e : Env) (lo hi mx : Option Operand) (K : Value → Prop) : Prop :=
  match look T t with
  | some ⟨sh, _, _, _⟩ => match sh, x with
    | .slice el, .slice a n c => match look T el with
      | some ⟨_, sz, _, _⟩ => match lo with
        | none => match bnd e hi n, bnd e mx c with
          | some h, some m => Chk (0 ≤ h ∧ h ≤ m ∧ m ≤ c) (sliceK0 a h m K)
          | _, _ => False
        | some lo => match ov e lo, bnd e hi n, bnd e mx c with
          | some (.int _ l), some h, some m => Chk (0 ≤ l ∧ l ≤ h ∧ h ≤ m ∧ m ≤ c) (sliceK a sz l h m K)
          | _, _, _ => False
      | none => False
    | .str, .string s => match mx, bnd e lo 0, bnd e hi s.size with
      | none, some l, some h => Chk (0 ≤ l ∧ l ≤ h ∧ h ≤ s.size) (K (.string (s.extract l.toNat h.toNat)))
      | _, _, _ => False
    | .array n el, .pointer (some a) => match look T el with
      | some ⟨_, sz, _, _⟩ => match lo with
        | none => match bnd e hi n, bnd e mx n with
          | some h, some m => Chk (0 ≤ h ∧ h ≤ m ∧ m ≤ n) (sliceK0 (some a) h m K)
          | _, _ => False
        | some lo => match ov e lo, bnd e hi n, bnd e mx n with
          | some (.int _ l), some h, some m => Chk (0 ≤ l ∧ l ≤ h ∧ h ≤ m ∧ m ≤ n) (sliceK (some a) sz l h m K)
          | _, _, _ => False
      | none => False
    | _, _ => False
  | none => False

theorem bnd_some {N : Nat} {e : Env} {a : Act} (ha : Fits N e a) {x : Option Operand} {d n : Int} (h : bnd e x d = some n) :
    (x = none ∧ n = d) ∨ ∃ y k, x = some y ∧ a.eval y = .int k n := by
  unfold bnd at h
  split at h
  · left; exact ⟨rfl, by injection h with h; exact h.symm⟩
  · rename_i y
    split at h
    · rename_i k m hm
      injection h with h
      subst h
      exact .inr ⟨y, k, rfl, ha.ov hm⟩
    · cases h

theorem bounds_run {P : Program} (w : World) {b : Bool} {n c : Nat} {lo hi mx : Option Value} {l h m : Int}
    (hlo : (lo = none ∧ l = 0) ∨ ∃ k, lo = some (.int k l)) (hhi : (hi = none ∧ mx = none ∧ h = n) ∨ ∃ k, hi = some (.int k h)) (hmx : (mx = none ∧ m = c) ∨ ∃ k, mx = some (.int k m))
    (h0 : 0 ≤ l) (h1 : l ≤ h) (h2 : h ≤ m) (h3 : m ≤ c) : (Instr.sliceBounds b n c lo hi mx).run P w = .ok (l.toNat, h.toNat, m.toNat) w := by
  have sb : ∀ (k : IntKind) (i : Int) (y : Nat) (code : BoundsCode), 0 ≤ i → i ≤ y → (Instr.sliceBound (.int k i) y code).run P w = .ok i.toNat w :=
    fun k i y code a b => run_sliceBound (P := P) (w := w) k i y code a b
  have hmc : ((m.toNat : Nat) : Int) = m := by omega
  have hhc : ((h.toNat : Nat) : Int) = h := by omega
  rcases hmx with ⟨rfl, rfl⟩ | ⟨km, rfl⟩
  · rcases hhi with ⟨rfl, _, rfl⟩ | ⟨kh, rfl⟩
    · rcases hlo with ⟨rfl, rfl⟩ | ⟨kl, rfl⟩
      · simp [Instr.sliceBounds]
      · simp [Instr.sliceBounds, sb _ _ _ _ h0 h1]
    · have e1 := sb kh h c (if b then .sliceAcap else .sliceAlen) (by omega) h2
      rcases hlo with ⟨rfl, rfl⟩ | ⟨kl, rfl⟩
      · simp [Instr.sliceBounds, e1]
      · have e2 := sb kl l h.toNat .sliceB h0 (by omega)
        simp [Instr.sliceBounds, e1, e2]
  · have e0 := sb km m c (if b then .slice3Acap else .slice3Alen) (by omega) h3
    rcases hhi with ⟨_, hn, _⟩ | ⟨kh, rfl⟩
    · cases hn
    · have e1 := sb kh h m.toNat .slice3B (by omega) (by omega)
      rcases hlo with ⟨rfl, rfl⟩ | ⟨kl, rfl⟩
      · simp [Instr.sliceBounds, e0, e1]
      · have e2 := sb kl l h.toNat .slice3C h0 (by omega)
        simp [Instr.sliceBounds, e0, e1, e2]

theorem sliceK_of {a : Option Addr} {sz : Nat} {l h m : Int} {K : Value → Prop} (h0 : 0 ≤ l) (h1 : l ≤ h) (h2 : h ≤ m) (hk : sliceK a sz l h m K) :
    K (.slice (if m.toNat = l.toNat then a else a.map (·.add (l.toNat * sz))) (h.toNat - l.toNat) (m.toNat - l.toNat)) := by
  unfold sliceK at hk
  split at hk
  · simp only [Option.map_none, ite_self]
    exact hk _ _ (by omega) (by omega)
  · rename_i b o
    by_cases hml : m.toNat = l.toNat
    · rw [if_pos hml]
      exact hk o _ _ (fun _ => by omega) (fun _ => rfl) (by omega) (by omega)
    · rw [if_neg hml]
      simp only [Option.map_some, Addr.add_lit]
      refine hk _ _ _ (fun _ => ?_) (fun _ => by omega) (by omega) (by omega)
      rw [Int.natCast_add, Int.natCast_mul]
      rw [show ((l.toNat : Nat) : Int) = l from by omega]
  · exact hk.elim

theorem sliceK0_of {a : Option Addr} {sz : Nat} {h m : Int} {K : Value → Prop} (h1 : 0 ≤ h) (h2 : h ≤ m) (hk : sliceK0 a h m K) :
    K (.slice (if m.toNat = (0 : Int).toNat then a else a.map (·.add ((0 : Int).toNat * sz))) (h.toNat - (0 : Int).toNat) (m.toNat - (0 : Int).toNat)) := by
  have e0 : (0 : Int).toNat = 0 := rfl
  simp only [e0, Nat.zero_mul]
  have ea : (if m.toNat = 0 then a else a.map (·.add 0)) = a := by
    split
    · rfl
    · cases a <;> simp [Addr.add]
  rw [ea]
  unfold sliceK0 at hk
  split at hk
  · exact hk _ _ (by omega) (by omega)
  · exact hk _ _ (by omega) (by omega)
  · exact hk.elim

theorem opt_eval {N : Nat} {e : Env} {a : Act} (ha : Fits N e a) {x : Option Operand} {d n : Int} (h : bnd e x d = some n) : (x.map a.eval = none ∧ n = d) ∨ ∃ k, x.map a.eval = some (.int k n) := by
  rcases bnd_some ha h with ⟨rfl, h'⟩ | ⟨y, k, rfl, hy⟩
  · exact .inl ⟨rfl, h'⟩
  · exact .inr ⟨k, by simp [hy]⟩

theorem hi_eval {N : Nat} {e : Env} {a : Act} (ha : Fits N e a) {x y : Option Operand} {d h : Int} (hxy : x = none → y = none) (hx : bnd e x d = some h) : (x.map a.eval = none ∧ y.map a.eval = none ∧ h = d) ∨ ∃ k, x.map a.eval = some (.int k h) := by
  rcases bnd_some ha hx with ⟨rfl, h'⟩ | ⟨y, k, rfl, hy⟩
  · exact .inl ⟨rfl, by rw [hxy rfl]; rfl, h'⟩
  · exact .inr ⟨k, by simp [hy]⟩

theorem sliceV_gives {P : Program} {T : Tab} (hT : TabOk P T) {N : Nat} {e : Env} {a : Act} (ha : Fits N e a) {t : TypeId} {x : Value} {lo hi mx : Option Operand} {K : Value → Prop}
    (hmx : hi = none → mx = none) (h : sliceV T t x e lo hi mx K) : Gives P (Instr.sliceAt t x (lo.map a.eval) (hi.map a.eval) (mx.map a.eval)) K := by
  unfold sliceV at h
  split at h
  case h_2 => exact h.elim
  rename_i sh _ _ _ hl
  obtain ⟨u, hu, hs⟩ := shOf_cases hT hl
  split at h
  · rename_i el ao n c
    cases u <;> simp only [shOf, reduceCtorEq, Sh.slice.injEq] at hs
    subst hs
    split at h
    case h_2 => exact h.elim
    rename_i _ sz _ _ hel
    have hsz := fun w => (hT _ _ hel).run_size w
    split at h
    · split at h
      case h_2 => exact h.elim
      rename_i hh mm eh em
      obtain ⟨⟨h1, h2, h3⟩, hk⟩ := h.out
      refine ⟨_, fun w => ?_, sliceK0_of (sz := sz) h1 h2 hk⟩
      have hb := bounds_run (P := P) w (b := true) (n := n) (c := c) (lo := none) (l := 0) (.inl ⟨rfl, rfl⟩) (hi_eval ha hmx eh) (opt_eval ha em) (by omega) h1 h2 h3
      simp [Instr.sliceAt, Instr.slice, run_underlying hu, hb, hsz]
    · rename_i lo'
      split at h
      case h_2 => exact h.elim
      rename_i kl l hh mm el' eh em
      obtain ⟨⟨h0, h1, h2, h3⟩, hk⟩ := h.out
      refine ⟨_, fun w => ?_, sliceK_of h0 h1 h2 hk⟩
      have hb := bounds_run (P := P) w (b := true) (n := n) (c := c) (lo := some (a.eval lo')) (l := l) (.inr ⟨kl, by rw [ha.ov el']⟩) (hi_eval ha hmx eh) (opt_eval ha em) h0 h1 h2 h3
      simp [Instr.sliceAt, Instr.slice, run_underlying hu, hb, hsz]
  · rename_i s
    cases u <;> simp only [shOf, reduceCtorEq] at hs
    split at h
    case h_2 => exact h.elim
    rename_i l hh el' eh
    obtain ⟨⟨h0, h1, h2⟩, hk⟩ := h.out
    refine ⟨_, fun w => ?_, hk⟩
    have hb := bounds_run (P := P) w (b := false) (n := s.size) (c := s.size) (mx := none) (m := s.size) (opt_eval ha el' |>.imp (fun h => ⟨h.1, h.2⟩) id) (hi_eval (y := none) ha (fun _ => rfl) eh |>.imp (fun h => ⟨h.1, rfl, h.2.2⟩) id) (.inl ⟨rfl, rfl⟩) h0 h1 h2 (by omega)
    simp [Instr.sliceAt, Instr.slice, run_underlying hu, hb]
  · rename_i n el ad
    cases u <;> simp only [shOf, reduceCtorEq, Sh.array.injEq] at hs
    obtain ⟨rfl, rfl⟩ := hs
    split at h
    case h_2 => exact h.elim
    rename_i _ sz _ _ hel
    have hsz := fun w => (hT _ _ hel).run_size w
    split at h
    · split at h
      case h_2 => exact h.elim
      rename_i hh mm eh em
      obtain ⟨⟨h1, h2, h3⟩, hk⟩ := h.out
      refine ⟨_, fun w => ?_, sliceK0_of (sz := sz) h1 h2 hk⟩
      have hb := bounds_run (P := P) w (b := false) (lo := none) (l := 0) (.inl ⟨rfl, rfl⟩) (hi_eval ha hmx eh) (opt_eval ha em) (by omega) h1 h2 h3
      simp only [Instr.sliceAt, Sem.run_bind, run_underlying hu, Result.andThen_ok, Instr.sureAddr, Sem.run_pure, Option.map_none, hb, hsz, Option.map_some]
      congr 3
      split <;> rfl
    · rename_i lo'
      split at h
      case h_2 => exact h.elim
      rename_i kl l hh mm el' eh em
      obtain ⟨⟨h0, h1, h2, h3⟩, hk⟩ := h.out
      refine ⟨_, fun w => ?_, sliceK_of h0 h1 h2 hk⟩
      have hb := bounds_run (P := P) w (b := false) (lo := some (a.eval lo')) (l := l) (.inr ⟨kl, by rw [ha.ov el']⟩) (hi_eval ha hmx eh) (opt_eval ha em) h0 h1 h2 h3
      simp only [Instr.sliceAt, Sem.run_bind, run_underlying hu, Result.andThen_ok, Instr.sureAddr, Sem.run_pure, Option.map_some, hb, hsz]
      congr 3
      split <;> rfl
  · exact h.elim

/-! ### One operation that leaves the world alone -/
def pureV (P : Program) (T : Tab) (op : Op) (e : Env) (K : Value → Prop) : Prop :=
  match op with
  | .move x | .assign x => match ov e x with
    | some v => K v
    | none => False
  | .pick c x y => match ov e c with
    | some (.bool b) => match b with
      | true => match ov e x with
        | some v => K v
        | none => False
      | false => match ov e y with
        | some v => K v
        | none => False
    | _ => False
  | .binOp op t x y _ => match look T t, ov e x, ov e y with
    | some _, some (.agg a), some (.agg b) => match op with
      | .eql => Eg P t a b fun r => K (.bool r)
      | .neq => Eg P t a b fun r => K (.bool (!r))
      | _ => False
    | some ⟨sh, _, _, _⟩, some u, some v => binV op sh u v K
    | _, _, _ => False
  | .unOp op _ x => match ov e x with
    | some (.int k n) => match op with
      | .neg => Ar k (0 - n) fun z => K (.int k z)
      | .xor => Bt .xor k (if k.signed then -1 else k.max) n fun z => K (.int k z)
      | _ => False
    | some (.bool b) => match op with
      | .not => K (.bool (!b))
      | _ => False
    | _ => False
  | .convert s t x => match look T s, look T t, ov e x with
    | some _, some ⟨sh, _, _, _⟩, some v => match sh, v with
      | .int k, .int _ n => Ar k n fun z => K (.int k z)
      | .str, .string b => K (.string b)
      | _, _ => False
    | _, _, _ => False
  | .extract x i => match ov e x with
    | some (.tuple vs) => match lget vs.toList i with
      | some v => K v
      | none => False
    | _ => False
  | .field t x f => match look T t, ov e x with
    | some ⟨sh, _, _, _⟩, some (.agg cs) => match sh with
      | .struct fs => match lget fs f with
        | some (off, ft) => partV T ft cs off K
        | none => False
      | _ => False
    | _, _ => False
  | .fieldAddr t x f => match look T t, ov e x with
    | some ⟨sh, _, _, _⟩, some (.pointer (some ⟨b, o, none⟩)) => match sh with
      | .struct fs => match lget fs f with
        | some (off, ft) => match look T ft with
          | some ⟨_, sz, _, _⟩ => match sz with
            | 0 => False
            | _ + 1 => K (.pointer (some ⟨b, o + off, none⟩))
          | none => False
        | none => False
      | _ => False
    | _, _ => False
  | .indexAddr t x i => match look T t, ov e x, ov e i with
    | some ⟨sh, _, _, _⟩, some v, some (.int _ j) => match sh, v with
      | .slice el, .slice (some ⟨b, o, none⟩) n _ => match look T el with
        | some ⟨_, sz, _, _⟩ => Chk (0 ≤ j ∧ j < n) (∀ o' : Nat, (o' : Int) = o + j * sz → K (.pointer (some ⟨b, o', none⟩)))
        | none => False
      | .array n el, .pointer (some ⟨b, o, none⟩) => match look T el with
        | some ⟨_, sz, _, _⟩ => Chk (0 ≤ j ∧ j < n) (∀ o' : Nat, (o' : Int) = o + j * sz → K (.pointer (some ⟨b, o', none⟩)))
        | none => False
      | _, _ => False
    | _, _, _ => False
  | .index t x i => match look T t, ov e x, ov e i with
    | some ⟨sh, _, _, _⟩, some v, some (.int _ j) => match sh, v with
      | .str, .string s => Chk (0 ≤ j ∧ j < s.size) (∀ b : UInt8, s.data.toList[j.toNat]? = some b → K (.int .u8 b.toNat))
      | .array n el, .agg cs => match look T el with
        | some ⟨_, sz, _, _⟩ => Chk (0 ≤ j ∧ j < n) (partV T el cs (j.toNat * sz) K)
        | none => False
      | _, _ => False
    | _, _, _ => False
  | .slice t x lo hi mx => match ov e x with
    | some v => match hi, mx with
      | none, some _ => False
      | _, _ => sliceV T t v e lo hi mx K
    | none => False
  | .nilCheck x => match ov e x with
    | some (.pointer (some a)) => K (.pointer (some a))
    | some (.func (.func f) u v) => K (.func (.func f) u v)
    | _ => False
  | .makeFunc fn xs ys => match ovs e xs.toList, ovs e ys.toList with
    | some us, some vs => K (.func fn us.toArray vs.toArray)
    | _, _ => False
  | .makeInterface t x => match look T t, ov e x with
    | some ⟨sh, _, _, _⟩, some v => match sh with
      | .iface => False
      | .other => False
      | _ => K (.iface t v)
    | _, _ => False
  | .build t parts => match ovs e (parts.toList.map (·.2)) with
    | some vs => Qv P (Instr.build t ((parts.toList.map (·.1)).zip vs).toArray) K
    | none => False
  | .call c => match c.callee with
    | .builtin b => match ovs e c.args.toList with
      | some vs => bpureV T b c.argTypes.toList vs K
      | none => False
    | _ => False
  | _ => False

end Go.Proofs.Ytlldgodjfpgbcaa
