/- Rows over the field of 256, in plain Lean: sums of products, polynomials, the matrix of shards. Nothing is claimed here. -/
import Derived.Test.YtlldgodjfpgbcaaDoorP
namespace Go.Proofs.YtlldgodjfpgbcaaDoor
set_option linter.unusedVariables false
set_option linter.unusedSimpArgs false

theorem gmb_nat (a b : UInt8) : (gmb a b).toNat = gm a.toNat b.toNat := by
  rw [gmb, UInt8.toNat_ofNat']
  exact Nat.mod_eq_of_lt (gm_lt _ _ (u8lt a))
theorem u8ext {a b : UInt8} (h : a.toNat = b.toNat) : a = b := UInt8.toNat_inj.1 h
theorem gmb_comm (a b : UInt8) : gmb a b = gmb b a := u8ext (by rw [gmb_nat, gmb_nat, gm_comm _ _ (u8lt a) (u8lt b)])
theorem gmb_assoc (a b c : UInt8) : gmb (gmb a b) c = gmb a (gmb b c) := u8ext (by rw [gmb_nat, gmb_nat, gmb_nat, gmb_nat, gm_assoc _ _ _ (u8lt a) (u8lt b) (u8lt c)])
theorem gmb_add (a b c : UInt8) : gmb a (b ^^^ c) = gmb a b ^^^ gmb a c := u8ext (by rw [UInt8.toNat_xor, gmb_nat, gmb_nat, gmb_nat, UInt8.toNat_xor, gm_xor2 _ _ _ (u8lt b) (u8lt c)])
theorem add_gmb (a b c : UInt8) : gmb (a ^^^ b) c = gmb a c ^^^ gmb b c := by rw [gmb_comm, gmb_add, gmb_comm c a, gmb_comm c b]
theorem gmb_one (a : UInt8) : gmb a 1 = a := u8ext (by rw [gmb_nat]; exact gm_one _ (u8lt a))
theorem one_gmb (a : UInt8) : gmb 1 a = a := by rw [gmb_comm, gmb_one]
theorem gmb_zero (a : UInt8) : gmb a 0 = 0 := u8ext (by rw [gmb_nat]; exact gm_zero _ (u8lt a))
theorem zero_gmb (a : UInt8) : gmb 0 a = 0 := by rw [gmb_comm, gmb_zero]
theorem gmb_gib (a : UInt8) (h : a ≠ 0) : gmb a (gib a) = 1 := by
  have h0 : a.toNat ≠ 0 := fun e => h (u8ext e)
  have e : (gib a).toNat = gi a.toNat := by
    rw [gib, if_neg h0, UInt8.toNat_ofNat']
    exact Nat.mod_eq_of_lt (gi_lt _ (u8lt a))
  exact u8ext (by rw [gmb_nat, e]; exact gi_mul _ (u8lt a) h0)
theorem gmb_eq_zero {a b : UInt8} (h : gmb a b = 0) : a = 0 ∨ b = 0 := by
  by_cases ha : a = 0
  · exact .inl ha
  · refine .inr ?_
    have := congrArg (gmb (gib a)) h
    rwa [gmb_zero, ← gmb_assoc, gmb_comm (gib a) a, gmb_gib a ha, one_gmb] at this
theorem xor_eq_zero {a b : UInt8} : a ^^^ b = 0 ↔ a = b := by
  constructor
  · intro h
    have : a ^^^ b ^^^ b = 0 ^^^ b := by rw [h]
    rwa [UInt8.xor_assoc, UInt8.xor_self, UInt8.xor_zero, UInt8.zero_xor] at this
  · rintro rfl; exact UInt8.xor_self
theorem xor4b (a b c d : UInt8) : (a ^^^ b) ^^^ (c ^^^ d) = (a ^^^ c) ^^^ (b ^^^ d) := by
  rw [UInt8.xor_assoc, ← UInt8.xor_assoc b, UInt8.xor_comm b c, UInt8.xor_assoc c, ← UInt8.xor_assoc a]

/-! ### sums of products -/
def dot : List UInt8 → List UInt8 → UInt8
  | a :: A, b :: B => gmb a b ^^^ dot A B
  | _, _ => 0
theorem dot_nil (A : List UInt8) : dot A [] = 0 := by cases A <;> rfl
theorem dot_app : ∀ (A x B y : List UInt8), A.length = x.length → dot (A ++ B) (x ++ y) = dot A x ^^^ dot B y
  | [], [], B, y, _ => by simp [dot]
  | a :: A, b :: x, B, y, h => by
    simp only [List.cons_append, dot]
    rw [dot_app A x B y (by simpa using h), UInt8.xor_assoc]
theorem dot_scale : ∀ (A x : List UInt8) (c : UInt8), dot (A.map fun a => gmb a c) x = gmb (dot A x) c
  | [], x, c => by simp [dot, zero_gmb]
  | a :: A, [], c => by simp [dot, zero_gmb]
  | a :: A, b :: x, c => by
    simp only [List.map_cons, dot]
    rw [dot_scale A x c, add_gmb, gmb_assoc, gmb_comm c b, ← gmb_assoc]
theorem dot_add : ∀ (A B x : List UInt8), A.length = B.length → dot (List.zipWith (· ^^^ ·) A B) x = dot A x ^^^ dot B x
  | [], [], x, _ => by simp [dot]
  | a :: A, b :: B, [], _ => by simp [dot]
  | a :: A, b :: B, c :: x, h => by
    simp only [List.zipWith_cons_cons, dot]
    rw [dot_add A B x (by simpa using h), add_gmb, xor4b]
theorem dot_zero : ∀ (n : Nat) (x : List UInt8), dot (List.replicate n 0) x = 0
  | 0, x => by simp [dot]
  | n + 1, [] => dot_nil _
  | n + 1, b :: x => by rw [List.replicate_succ, dot, dot_zero n x, zero_gmb, UInt8.xor_zero]
theorem dot_one : ∀ (n i : Nat) (x : List UInt8), x.length = n → i < n → dot (oneRow n i) x = x.getD i 0
  | 0, i, x, _, h => by omega
  | n + 1, 0, b :: x, hx, _ => by
    rw [oneRow, List.replicate_succ, List.set_cons_zero, dot, dot_zero, one_gmb, UInt8.xor_zero]
    rfl
  | n + 1, i + 1, b :: x, hx, h => by
    rw [oneRow, List.replicate_succ, List.set_cons_succ, dot, zero_gmb, UInt8.zero_xor]
    have := dot_one n i x (by simpa using hx) (by omega)
    rw [oneRow] at this
    rw [this]
    rfl

/-! ### polynomials -/
def ev : List UInt8 → UInt8 → UInt8
  | [], _ => 0
  | a :: p, z => a ^^^ gmb z (ev p z)
def addP : List UInt8 → List UInt8 → List UInt8
  | a :: p, b :: q => (a ^^^ b) :: addP p q
  | [], q => q
  | p, [] => p
theorem addP_ev : ∀ (p q : List UInt8) (z : UInt8), ev (addP p q) z = ev p z ^^^ ev q z
  | a :: p, b :: q, z => by
    simp only [addP, ev]
    rw [addP_ev p q z, gmb_add, xor4b]
  | [], q, z => by simp [addP, ev]
  | a :: p, [], z => by simp [addP, ev]
theorem addP_len : ∀ (p q : List UInt8), (addP p q).length = max p.length q.length
  | a :: p, b :: q => by simp only [addP, List.length_cons, addP_len p q]; omega
  | [], q => by simp [addP]
  | a :: p, [] => by simp [addP]
def mulP (c : UInt8) (p : List UInt8) : List UInt8 := p.map fun a => gmb c a
theorem mulP_ev (c : UInt8) : ∀ (p : List UInt8) (z : UInt8), ev (mulP c p) z = gmb c (ev p z)
  | [], z => by simp [mulP, ev, gmb_zero]
  | a :: p, z => by
    have := mulP_ev c p z
    simp only [mulP, List.map_cons, ev] at *
    rw [this, gmb_add, ← gmb_assoc, ← gmb_assoc, gmb_comm z c]
/-- times z + b -/
def linP (b : UInt8) (p : List UInt8) : List UInt8 := addP (0 :: p) (mulP b p)
theorem linP_ev (b : UInt8) (p : List UInt8) (z : UInt8) : ev (linP b p) z = gmb (z ^^^ b) (ev p z) := by
  rw [linP, addP_ev, mulP_ev, ev, UInt8.zero_xor, add_gmb]
theorem linP_len (b : UInt8) (p : List UInt8) : (linP b p).length = p.length + 1 := by
  rw [linP, addP_len, List.length_cons, mulP, List.length_map]; omega
def divP (a : UInt8) : List UInt8 → List UInt8
  | [] => []
  | [_] => []
  | _ :: p => ev p a :: divP a p
theorem divP_len (a : UInt8) : ∀ p : List UInt8, (divP a p).length = p.length - 1
  | [] => rfl
  | [_] => rfl
  | _ :: b :: p => by
    have := divP_len a (b :: p)
    simp only [divP, List.length_cons] at *
    omega
theorem divP_ev (a : UInt8) : ∀ (p : List UInt8) (z : UInt8), ev p z = ev p a ^^^ gmb (z ^^^ a) (ev (divP a p) z)
  | [], z => by simp [divP, ev, gmb_zero]
  | [c], z => by simp [divP, ev, gmb_zero]
  | c :: b :: p, z => by
    have h := divP_ev a (b :: p) z
    have e1 : ev (c :: b :: p) z = c ^^^ gmb z (ev (b :: p) z) := rfl
    have e2 : ev (c :: b :: p) a = c ^^^ gmb a (ev (b :: p) a) := rfl
    have e3 : ev (divP a (c :: b :: p)) z = ev (b :: p) a ^^^ gmb z (ev (divP a (b :: p)) z) := rfl
    rw [e1, e2, e3, h]
    generalize ev (b :: p) a = y
    generalize ev (divP a (b :: p)) z = q
    rw [gmb_add z, gmb_add (z ^^^ a), add_gmb z a y, ← gmb_assoc, ← gmb_assoc, gmb_comm z (z ^^^ a)]
    -- c + (z y + s) = (c + a y) + ((z y + a y) + s)
    generalize gmb (gmb (z ^^^ a) z) q = s
    generalize gmb z y = u
    generalize gmb a y = v
    rw [UInt8.xor_assoc c, ← UInt8.xor_assoc v, ← UInt8.xor_assoc v, UInt8.xor_comm v u, UInt8.xor_assoc u v v, UInt8.xor_self, UInt8.xor_zero]
theorem roots : ∀ (R : List UInt8) (p : List UInt8), R.Nodup → p.length ≤ R.length → (∀ a ∈ R, ev p a = 0) → ∀ z, ev p z = 0
  | [], p, _, hl, _, z => by
    have : p = [] := List.length_eq_zero_iff.1 (by simpa using hl)
    rw [this]; rfl
  | a :: R, p, hnd, hl, h, z => by
    rw [List.nodup_cons] at hnd
    have h0 := h a (List.mem_cons_self ..)
    have hq : ∀ z, ev (divP a p) z = 0 := by
      refine roots R _ hnd.2 (by rw [divP_len]; simp at hl; omega) fun b hb => ?_
      have h1 := h b (List.mem_cons_of_mem _ hb)
      rw [divP_ev a p b, h0, UInt8.zero_xor] at h1
      rcases gmb_eq_zero h1 with h2 | h2
      · exact absurd ((xor_eq_zero.1 h2) ▸ hb) hnd.1
      · exact h2
    rw [divP_ev a p z, h0, hq z, gmb_zero, UInt8.xor_zero]

/-! ### sums of parts by z + b -/
def prodP : List (UInt8 × UInt8) → List UInt8
  | [] => [1]
  | (_, b) :: L => linP b (prodP L)
def partP : List (UInt8 × UInt8) → List UInt8
  | [] => []
  | (x, b) :: L => addP (mulP x (prodP L)) (linP b (partP L))
theorem prodP_len : ∀ L, (prodP L).length = L.length + 1
  | [] => rfl
  | (_, b) :: L => by rw [prodP, linP_len, prodP_len L, List.length_cons]
theorem partP_len : ∀ L, (partP L).length ≤ L.length
  | [] => by simp [partP]
  | (x, b) :: L => by
    have := partP_len L
    rw [partP, addP_len, mulP, List.length_map, prodP_len, linP_len, List.length_cons]
    omega
theorem prodP_ne : ∀ (L : List (UInt8 × UInt8)) (z : UInt8), (∀ q ∈ L, q.2 ≠ z) → ev (prodP L) z ≠ 0
  | [], z, _ => by
    simp only [prodP, ev, gmb_zero]; decide
  | (x, b) :: L, z, h => by
    rw [prodP, linP_ev]
    intro h0
    rcases gmb_eq_zero h0 with h1 | h1
    · exact h _ (List.mem_cons_self ..) (xor_eq_zero.1 h1).symm
    · exact prodP_ne L z (fun q hq => h q (List.mem_cons_of_mem _ hq)) h1
/-- the sum of the x by z + b -/
def sumF (z : UInt8) : List (UInt8 × UInt8) → UInt8
  | [] => 0
  | (x, b) :: L => gmb x (gib (z ^^^ b)) ^^^ sumF z L
theorem partP_sum : ∀ (L : List (UInt8 × UInt8)) (z : UInt8), (∀ q ∈ L, q.2 ≠ z) → ev (partP L) z = gmb (ev (prodP L) z) (sumF z L)
  | [], z, _ => by simp [partP, sumF, ev, gmb_zero]
  | (x, b) :: L, z, h => by
    have hb : z ^^^ b ≠ 0 := fun h0 => h _ (List.mem_cons_self ..) (xor_eq_zero.1 h0).symm
    rw [partP, addP_ev, mulP_ev, linP_ev, partP_sum L z (fun q hq => h q (List.mem_cons_of_mem _ hq)), sumF, prodP, linP_ev, gmb_add]
    congr 1
    · rw [gmb_comm (z ^^^ b), gmb_assoc, gmb_comm (z ^^^ b), gmb_assoc, gmb_comm (gib _), gmb_gib _ hb, gmb_one, gmb_comm]
    · rw [gmb_assoc]
theorem parts_zero : ∀ (L : List (UInt8 × UInt8)), (L.map (·.2)).Nodup → (∀ q ∈ L, ev (partP L) q.2 = 0) → ∀ q ∈ L, q.1 = 0
  | [], _, _ => by simp
  | (x, b) :: L, hnd, h => by
    rw [List.map_cons, List.nodup_cons] at hnd
    have hne : ∀ q ∈ L, q.2 ≠ b := fun q hq e => hnd.1 (List.mem_map.2 ⟨q, hq, e⟩)
    have h0 := h _ (List.mem_cons_self ..)
    simp only [partP, addP_ev, mulP_ev, linP_ev, UInt8.xor_self, zero_gmb, UInt8.xor_zero] at h0
    have hx : x = 0 := (gmb_eq_zero h0).resolve_right (prodP_ne L b hne)
    intro q hq
    rcases List.mem_cons.1 hq with rfl | hq
    · exact hx
    · refine parts_zero L hnd.2 (fun q hq => ?_) q hq
      have h1 := h q (List.mem_cons_of_mem _ hq)
      simp only [partP, addP_ev, mulP_ev, linP_ev, hx, zero_gmb, UInt8.zero_xor] at h1
      exact (gmb_eq_zero h1).resolve_left fun e => hne q hq (xor_eq_zero.1 e)
/-- as many sums as parts: all is nought -/
theorem cauchy (L : List (UInt8 × UInt8)) (R : List UInt8) (hL : (L.map (·.2)).Nodup) (hR : R.Nodup) (hn : L.length ≤ R.length) (hd : ∀ a ∈ R, ∀ q ∈ L, q.2 ≠ a) (h : ∀ a ∈ R, sumF a L = 0) : ∀ q ∈ L, q.1 = 0 := by
  have hz := roots R (partP L) hR (Nat.le_trans (partP_len L) hn) fun a ha => by
    rw [partP_sum L a (hd a ha), h a ha, gmb_zero]
  exact parts_zero L hL fun q _ => hz q.2
end Go.Proofs.YtlldgodjfpgbcaaDoor
