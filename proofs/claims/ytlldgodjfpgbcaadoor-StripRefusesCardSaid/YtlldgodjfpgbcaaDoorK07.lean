/- The field of 256, in plain Lean. Rows over the field of 256, in plain Lean: sums of products, polynomials, the matrix of shards. Nothing is claimed here. -/
import Derived.Test.YtlldgodjfpgbcaaDoorK06
namespace Go.Proofs.YtlldgodjfpgbcaaDoor
set_option linter.unusedVariables false
set_option linter.unusedSimpArgs false

def Lin (f : Nat → Nat) : Prop := ∀ a b, a < 256 → b < 256 → f (a ^^^ b) = f a ^^^ f b
theorem xlc (a b c : Nat) : a ^^^ (b ^^^ c) = b ^^^ (a ^^^ c) := by rw [← Nat.xor_assoc, Nat.xor_comm a b, Nat.xor_assoc]
theorem xor4 (a b c d : Nat) : (a ^^^ b) ^^^ (c ^^^ d) = (a ^^^ c) ^^^ (b ^^^ d) := by
  rw [Nat.xor_assoc, xlc b c d, ← Nat.xor_assoc]
def expand (a : Nat) : Nat := (a % 2 * 1) ^^^ ((a / 2 % 2 * 2) ^^^ ((a / 4 % 2 * 4) ^^^ ((a / 8 % 2 * 8) ^^^ ((a / 16 % 2 * 16) ^^^ ((a / 32 % 2 * 32) ^^^ ((a / 64 % 2 * 64) ^^^ (a / 128 % 2 * 128)))))))
theorem expand_eq : ∀ a, a < 256 → expand a = a := by decide +kernel
theorem Lin.ext {f g : Nat → Nat} (hf : Lin f) (hg : Lin g) (h : ∀ i, i < 8 → f (2 ^ i) = g (2 ^ i)) (a : Nat) (ha : a < 256) : f a = g a := by
  have z : ∀ {f : Nat → Nat}, Lin f → f 0 = 0 := by
    intro f hf
    have := hf 0 0 (by decide) (by decide)
    simpa using this
  have ht : ∀ i, i < 8 → ∀ x, x < 2 → f (x * 2 ^ i) = g (x * 2 ^ i) := by
    intro i hi x hx
    rcases (by omega : x = 0 ∨ x = 1) with rfl | rfl
    · rw [Nat.zero_mul, z hf, z hg]
    · rw [Nat.one_mul]; exact h i hi
  have t0 := ht 0 (by decide) (a % 2) (by omega)
  have t1 := ht 1 (by decide) (a / 2 % 2) (by omega)
  have t2 := ht 2 (by decide) (a / 4 % 2) (by omega)
  have t3 := ht 3 (by decide) (a / 8 % 2) (by omega)
  have t4 := ht 4 (by decide) (a / 16 % 2) (by omega)
  have t5 := ht 5 (by decide) (a / 32 % 2) (by omega)
  have t6 := ht 6 (by decide) (a / 64 % 2) (by omega)
  have t7 := ht 7 (by decide) (a / 128 % 2) (by omega)
  simp only [Nat.reducePow] at t0 t1 t2 t3 t4 t5 t6 t7
  have s7 : a / 128 % 2 * 128 < 256 := by omega
  have s6 := xor_lt8 (by omega : a / 64 % 2 * 64 < 256) s7
  have s5 := xor_lt8 (by omega : a / 32 % 2 * 32 < 256) s6
  have s4 := xor_lt8 (by omega : a / 16 % 2 * 16 < 256) s5
  have s3 := xor_lt8 (by omega : a / 8 % 2 * 8 < 256) s4
  have s2 := xor_lt8 (by omega : a / 4 % 2 * 4 < 256) s3
  have s1 := xor_lt8 (by omega : a / 2 % 2 * 2 < 256) s2
  rw [← expand_eq a ha]
  unfold expand
  rw [hf _ _ (by omega) s1, hf _ _ (by omega) s2, hf _ _ (by omega) s3, hf _ _ (by omega) s4, hf _ _ (by omega) s5, hf _ _ (by omega) s6, hf _ _ (by omega) s7]
  rw [hg _ _ (by omega) s1, hg _ _ (by omega) s2, hg _ _ (by omega) s3, hg _ _ (by omega) s4, hg _ _ (by omega) s5, hg _ _ (by omega) s6, hg _ _ (by omega) s7]
  rw [t0, t1, t2, t3, t4, t5, t6, t7]

theorem xor_mul (a c k : Nat) : (a ^^^ c) * 2 ^ k = (a * 2 ^ k) ^^^ (c * 2 ^ k) := by
  simp only [← Nat.shiftLeft_eq, Nat.shiftLeft_xor_distrib]
theorem xor_div (a c k : Nat) : (a ^^^ c) / 2 ^ k = (a / 2 ^ k) ^^^ (c / 2 ^ k) := by
  simp only [← Nat.shiftRight_eq_div_pow, Nat.shiftRight_xor_distrib]
theorem xor_mod (a c k : Nat) : (a ^^^ c) % 2 ^ k = (a % 2 ^ k) ^^^ (c % 2 ^ k) := Nat.xor_mod_two_pow
theorem mask2 (x y : Nat) (hx : x < 2) (hy : y < 2) : 255 * (x ^^^ y) = (255 * x) ^^^ (255 * y) := by
  rcases (by omega : x = 0 ∨ x = 1) with rfl | rfl <;> rcases (by omega : y = 0 ∨ y = 1) with rfl | rfl <;> decide
theorem gxt_lin (a c : Nat) (ha : a < 256) (hc : c < 256) : gxt (a ^^^ c) = gxt a ^^^ gxt c := by
  unfold gxt
  have e1 : (a ^^^ c) * 2 % 256 = (a * 2 % 256) ^^^ (c * 2 % 256) := by
    have h1 := xor_mul a c 1
    have h2 := xor_mod (a * 2) (c * 2) 8
    simp only [Nat.pow_one, Nat.reducePow] at h1 h2
    rw [h1, h2]
  have e2 : (a ^^^ c) / 128 = (a / 128) ^^^ (c / 128) := xor_div a c 7
  rw [e1, e2, mask2 _ _ (by omega) (by omega), Nat.and_xor_distrib_left, xor4]
theorem gmGo_lin1 : ∀ (n p q a c b : Nat), a < 256 → c < 256 → gmGo n (p ^^^ q) (a ^^^ c) b = gmGo n p a b ^^^ gmGo n q c b
  | 0, _, _, _, _, _, _, _ => rfl
  | n + 1, p, q, a, c, b, ha, hc => by
    simp only [gmGo]
    rw [Nat.and_xor_distrib_right, xor4, gxt_lin a c ha hc]
    exact gmGo_lin1 n _ _ _ _ _ (gxt_lt a ha) (gxt_lt c hc)
theorem gmGo_lin2 : ∀ (n p q a b d : Nat), gmGo n (p ^^^ q) a (b ^^^ d) = gmGo n p a b ^^^ gmGo n q a d
  | 0, _, _, _, _, _ => rfl
  | n + 1, p, q, a, b, d => by
    simp only [gmGo]
    have e1 : (b ^^^ d) % 2 = (b % 2) ^^^ (d % 2) := xor_mod b d 1
    have e2 : (b ^^^ d) / 2 = (b / 2) ^^^ (d / 2) := xor_div b d 1
    rw [e1, e2, mask2 _ _ (by omega) (by omega), Nat.and_xor_distrib_left, xor4]
    exact gmGo_lin2 n _ _ _ _ _
theorem gm_lin1 (b : Nat) : Lin fun a => gm a b := fun a c ha hc => gmGo_lin1 8 0 0 a c b ha hc
theorem gm_lin2 (a : Nat) : Lin fun b => gm a b := fun b d _ _ => gmGo_lin2 8 0 0 a b d
theorem gm_xor1 (a c b : Nat) (ha : a < 256) (hc : c < 256) : gm (a ^^^ c) b = gm a b ^^^ gm c b := gm_lin1 b a c ha hc
theorem gm_xor2 (a b d : Nat) (hb : b < 256) (hd : d < 256) : gm a (b ^^^ d) = gm a b ^^^ gm a d := gm_lin2 a b d hb hd

theorem bit_iff (b k : Nat) : (b / 2 ^ k % 2 = 1) ↔ b.testBit k = true := by
  rw [Nat.testBit_eq_decide_div_mod_eq]; simp
theorem rmUp_lin1 (b : Nat) : ∀ (k a c : Nat), rmUp (a ^^^ c) b k = rmUp a b k ^^^ rmUp c b k
  | 0, _, _ => by simp [rmUp]
  | k + 1, a, c => by
    simp only [rmUp]
    rw [rmUp_lin1 b k a c, xor4]
    congr 1
    split
    · exact xor_mul a c k
    · rfl
theorem rmUp_lin2 (a : Nat) : ∀ (k b d : Nat), rmUp a (b ^^^ d) k = rmUp a b k ^^^ rmUp a d k
  | 0, _, _ => by simp [rmUp]
  | k + 1, b, d => by
    simp only [rmUp]
    rw [rmUp_lin2 a k b d, xor4]
    congr 1
    simp only [bit_iff, Nat.testBit_xor]
    cases b.testBit k <;> cases d.testBit k <;> simp
theorem rmDn_lin : ∀ (k p q : Nat), rmDn k (p ^^^ q) = rmDn k p ^^^ rmDn k q
  | 0, _, _ => rfl
  | k + 1, p, q => by
    simp only [rmDn]
    rw [← rmDn_lin k]
    congr 1
    simp only [bit_iff, Nat.testBit_xor]
    cases p.testBit (k + 8) <;> cases q.testBit (k + 8) <;> simp
    · rw [Nat.xor_assoc]
    · rw [Nat.xor_assoc, Nat.xor_assoc, Nat.xor_comm q]
    · rw [Nat.xor_assoc, xlc _ q, Nat.xor_self, Nat.xor_zero]
theorem rm_lin1 (b : Nat) : Lin fun a => rm a b := fun a c _ _ => by
  simp only [rm]
  rw [rmUp_lin1, rmDn_lin]
  exact xor_mod _ _ 8
theorem rm_lin2 (a : Nat) : Lin fun b => rm a b := fun b d _ _ => by
  simp only [rm]
  rw [rmUp_lin2, rmDn_lin]
  exact xor_mod _ _ 8

theorem gm_rm (a b : Nat) (ha : a < 256) (hb : b < 256) : gm a b = rm a b :=
  Lin.ext (gm_lin1 b) (rm_lin1 b) (fun i hi => Lin.ext (gm_lin2 (2 ^ i)) (rm_lin2 (2 ^ i)) (fun j hj => by revert i j; decide +kernel) b hb) a ha
theorem gm_comm (a b : Nat) (ha : a < 256) (hb : b < 256) : gm a b = gm b a :=
  Lin.ext (gm_lin1 b) (gm_lin2 b) (fun i hi => Lin.ext (gm_lin2 (2 ^ i)) (gm_lin1 (2 ^ i)) (fun j hj => by revert i j; decide +kernel) b hb) a ha
theorem gm_assoc (a b c : Nat) (ha : a < 256) (hb : b < 256) (hc : c < 256) : gm (gm a b) c = gm a (gm b c) := by
  refine Lin.ext (f := fun a => gm (gm a b) c) (g := fun a => gm a (gm b c)) (fun x y hx hy => ?_) (gm_lin1 _) (fun i hi => ?_) a ha
  · dsimp only
    rw [gm_xor1 x y b hx hy]
    exact gm_lin1 c _ _ (gm_lt _ _ hx) (gm_lt _ _ hy)
  · have h2 : 2 ^ i < 256 := Nat.lt_of_lt_of_le (Nat.pow_lt_pow_right (by decide) hi) (by decide)
    refine Lin.ext (f := fun b => gm (gm (2 ^ i) b) c) (g := fun b => gm (2 ^ i) (gm b c)) (fun x y hx hy => ?_) (fun x y hx hy => ?_) (fun j hj => ?_) b hb
    · dsimp only
      rw [gm_xor2 _ x y hx hy]
      exact gm_lin1 c _ _ (gm_lt _ _ h2) (gm_lt _ _ h2)
    · dsimp only
      rw [gm_xor1 x y c hx hy]
      exact gm_lin2 _ _ _ (gm_lt _ _ hx) (gm_lt _ _ hy)
    · have h3 : 2 ^ j < 256 := Nat.lt_of_lt_of_le (Nat.pow_lt_pow_right (by decide) hj) (by decide)
      refine Lin.ext (f := fun c => gm (gm (2 ^ i) (2 ^ j)) c) (g := fun c => gm (2 ^ i) (gm (2 ^ j) c)) (gm_lin2 _) (fun x y hx hy => ?_) (fun k hk => ?_) c hc
      · dsimp only
        rw [gm_xor2 _ x y hx hy]
        exact gm_lin2 _ _ _ (gm_lt _ _ h3) (gm_lt _ _ h3)
      · clear h2 h3
        revert i j k; decide +kernel
theorem gi_mul : ∀ a, a < 256 → a ≠ 0 → gm a (gi a) = 1 := by decide +kernel
theorem gm_one : ∀ a, a < 256 → gm a 1 = a := by decide +kernel
theorem gm_zero : ∀ a, a < 256 → gm a 0 = 0 := by decide +kernel
theorem zero_gm (b : Nat) : gm 0 b = 0 := by
  have := gm_lin1 b 0 0 (by decide) (by decide)
  simpa using this
/-- the inverse is the one that makes 1 -/
theorem gm_unique (a b : Nat) (ha : a < 256) (hb : b < 256) (h : gm a b = 1) : b = gi a := by
  have h0 : a ≠ 0 := by rintro rfl; rw [zero_gm] at h; simp at h
  have hi := gi_lt a ha
  have h1 := gm_assoc (gi a) a b hi ha hb
  rw [h, gm_comm _ _ hi ha, gi_mul a ha h0, gm_one _ hi, gm_comm _ _ (by decide) hb, gm_one b hb] at h1
  exact h1
theorem rFind_eq (a : Nat) (ha : a < 256) (h0 : a ≠ 0) : ∀ (n i : Nat), i + n = 256 → 1 ≤ i → i ≤ gi a → rFind a n i = gi a
  | 0, i, h, h1, h2 => by have := gi_lt a ha; omega
  | n + 1, i, h, h1, h2 => by
    rw [rFind]
    split
    · rename_i hr
      rw [← gm_rm a i ha (by omega)] at hr
      exact gm_unique a i ha (by omega) hr
    · rename_i hr
      refine rFind_eq a ha h0 n (i + 1) (by omega) (by omega) ?_
      rcases Nat.lt_or_eq_of_le h2 with h3 | h3
      · exact h3
      · exfalso; apply hr
        rw [← gm_rm a i ha (by omega), h3]
        exact gi_mul a ha h0
theorem rFind_zero : ∀ n i, rFind 0 n i = 0
  | 0, _ => rfl
  | n + 1, i => by
    rw [rFind, if_neg, rFind_zero n]
    have : rm 0 i = 0 := by have := rm_lin1 i 0 0 (by decide) (by decide); simpa using this
    rw [this]; decide
theorem ri_eq (a : Nat) (ha : a < 256) : ri a = if a = 0 then 0 else gi a := by
  split
  · rename_i h; subst h; exact rFind_zero _ _
  · rename_i h
    refine rFind_eq a ha h 255 1 (by decide) (by decide) ?_
    have : gi a ≠ 0 := by
      intro h1
      have := gi_mul a ha h
      rw [h1, gm_zero a ha] at this
      simp at this
    omega
theorem rib_gib : rib = gib := funext fun a => by rw [rib, gib, ri_eq _ (u8lt a)]
theorem rmb_gmb (a b : UInt8) : rmb a b = gmb b a := by rw [rmb, gmb, ← gm_rm _ _ (u8lt a) (u8lt b), gm_comm _ _ (u8lt a) (u8lt b)]
theorem rcodeRow_eq (k i : Nat) : rcodeRow k i = codeRow k i := by rw [rcodeRow, codeRow, rib_gib]
theorem rblendB_eq (n : Nat) (c : List UInt8) (D : List (List UInt8)) : rblendB n c D = blendB n c D := by
  unfold rblendB blendB
  congr 1
  funext s p
  rw [List.zipWith_map_right]
  congr 1
  funext a b
  rw [rmb_gmb]
theorem rsumsB_eq (n m : Nat) (D : List (List UInt8)) : rsumsB n m D = sumsB n m D := by
  unfold rsumsB sumsB
  congr 1
  funext i
  rw [rcodeRow_eq, rblendB_eq]

end Go.Proofs.YtlldgodjfpgbcaaDoor
namespace Go.Proofs.YtlldgodjfpgbcaaDoor
set_option linter.unusedVariables false
set_option linter.unusedSimpArgs false

theorem gmb_nat (a b : UInt8) : (gmb a b).toNat = gm a.toNat b.toNat := by
  rw [gmb, UInt8.toNat_ofNat']
  exact Nat.mod_eq_of_lt (gm_lt _ _ (u8lt a))
theorem u8ext {a b : UInt8} (h : a.toNat = b.toNat) : a = b := UInt8.toNat_inj.1 h
theorem gmb_comm (a b : UInt8) : gmb a b = gmb b a := u8ext (by rw [gmb_nat, gmb_nat, gm_comm _ _ (u8lt a) (u8lt b)])
theorem gmb_assoc (a b c : UInt8) : gmb (gmb a b) c = gmb a (gmb b c) := u8ext (by rw [gmb_nat, gmb_nat, gmb_nat, gmb_nat, gm_assoc _ _ _ (u8lt a) (u8lt b) (u8lt c)])
theorem gmb_add (a b c : UInt8) : gmb a (b ^^^ c) = gmb a b ^^^ gmb a c := u8ext (by rw [UInt8.toNat_xor, gmb_nat, gmb_nat, gmb_nat, UInt8.toNat_xor, gm_xor2 _ _ _ (u8lt b) (u8lt c)])
theorem add_gmb (a b c : UInt8) : gmb (a ^^^ b) c = gmb a c ^^^ gmb b c := by rw [gmb_comm, gmb_add, gmb_comm c a, gmb_comm c b]
theorem gmb_one (a : UInt8) : gmb a 1 = a := u8ext (by rw [gmb_nat]; exact gm_one _ (u8lt a))
theorem one_gmb (a : UInt8) : gmb 1 a = a := by rw [gmb_comm, gmb_one]
theorem gmb_zero (a : UInt8) : gmb a 0 = 0 := u8ext (by rw [gmb_nat]; exact gm_zero _ (u8lt a))
theorem zero_gmb (a : UInt8) : gmb 0 a = 0 := by rw [gmb_comm, gmb_zero]
theorem gmb_gib (a : UInt8) (h : a ≠ 0) : gmb a (gib a) = 1 := by
  have h0 : a.toNat ≠ 0 := fun e => h (u8ext e)
  have e : (gib a).toNat = gi a.toNat := by
    rw [gib, if_neg h0, UInt8.toNat_ofNat']
    exact Nat.mod_eq_of_lt (gi_lt _ (u8lt a))
  exact u8ext (by rw [gmb_nat, e]; exact gi_mul _ (u8lt a) h0)
theorem gmb_eq_zero {a b : UInt8} (h : gmb a b = 0) : a = 0 ∨ b = 0 := by
  by_cases ha : a = 0
  · exact .inl ha
  · refine .inr ?_
    have := congrArg (gmb (gib a)) h
    rwa [gmb_zero, ← gmb_assoc, gmb_comm (gib a) a, gmb_gib a ha, one_gmb] at this
theorem xor_eq_zero {a b : UInt8} : a ^^^ b = 0 ↔ a = b := by
  constructor
  · intro h
    have : a ^^^ b ^^^ b = 0 ^^^ b := by rw [h]
    rwa [UInt8.xor_assoc, UInt8.xor_self, UInt8.xor_zero, UInt8.zero_xor] at this
  · rintro rfl; exact UInt8.xor_self
theorem xor4b (a b c d : UInt8) : (a ^^^ b) ^^^ (c ^^^ d) = (a ^^^ c) ^^^ (b ^^^ d) := by
  rw [UInt8.xor_assoc, ← UInt8.xor_assoc b, UInt8.xor_comm b c, UInt8.xor_assoc c, ← UInt8.xor_assoc a]

/-! ### sums of products -/
def dot : List UInt8 → List UInt8 → UInt8
  | a :: A, b :: B => gmb a b ^^^ dot A B
  | _, _ => 0
theorem dot_nil (A : List UInt8) : dot A [] = 0 := by cases A <;> rfl
theorem dot_app : ∀ (A x B y : List UInt8), A.length = x.length → dot (A ++ B) (x ++ y) = dot A x ^^^ dot B y
  | [], [], B, y, _ => by simp [dot]
  | a :: A, b :: x, B, y, h => by
    simp only [List.cons_append, dot]
    rw [dot_app A x B y (by simpa using h), UInt8.xor_assoc]
theorem dot_scale : ∀ (A x : List UInt8) (c : UInt8), dot (A.map fun a => gmb a c) x = gmb (dot A x) c
  | [], x, c => by simp [dot, zero_gmb]
  | a :: A, [], c => by simp [dot, zero_gmb]
  | a :: A, b :: x, c => by
    simp only [List.map_cons, dot]
    rw [dot_scale A x c, add_gmb, gmb_assoc, gmb_comm c b, ← gmb_assoc]
theorem dot_add : ∀ (A B x : List UInt8), A.length = B.length → dot (List.zipWith (· ^^^ ·) A B) x = dot A x ^^^ dot B x
  | [], [], x, _ => by simp [dot]
  | a :: A, b :: B, [], _ => by simp [dot]
  | a :: A, b :: B, c :: x, h => by
    simp only [List.zipWith_cons_cons, dot]
    rw [dot_add A B x (by simpa using h), add_gmb, xor4b]
theorem dot_zero : ∀ (n : Nat) (x : List UInt8), dot (List.replicate n 0) x = 0
  | 0, x => by simp [dot]
  | n + 1, [] => dot_nil _
  | n + 1, b :: x => by rw [List.replicate_succ, dot, dot_zero n x, zero_gmb, UInt8.xor_zero]
theorem dot_one : ∀ (n i : Nat) (x : List UInt8), x.length = n → i < n → dot (oneRow n i) x = x.getD i 0
  | 0, i, x, _, h => by omega
  | n + 1, 0, b :: x, hx, _ => by
    rw [oneRow, List.replicate_succ, List.set_cons_zero, dot, dot_zero, one_gmb, UInt8.xor_zero]
    rfl
  | n + 1, i + 1, b :: x, hx, h => by
    rw [oneRow, List.replicate_succ, List.set_cons_succ, dot, zero_gmb, UInt8.zero_xor]
    have := dot_one n i x (by simpa using hx) (by omega)
    rw [oneRow] at this
    rw [this]
    rfl

/-! ### polynomials -/
def ev : List UInt8 → UInt8 → UInt8
  | [], _ => 0
  | a :: p, z => a ^^^ gmb z (ev p z)
def addP : List UInt8 → List UInt8 → List UInt8
  | a :: p, b :: q => (a ^^^ b) :: addP p q
  | [], q => q
  | p, [] => p
theorem addP_ev : ∀ (p q : List UInt8) (z : UInt8), ev (addP p q) z = ev p z ^^^ ev q z
  | a :: p, b :: q, z => by
    simp only [addP, ev]
    rw [addP_ev p q z, gmb_add, xor4b]
  | [], q, z => by simp [addP, ev]
  | a :: p, [], z => by simp [addP, ev]
theorem addP_len : ∀ (p q : List UInt8), (addP p q).length = max p.length q.length
  | a :: p, b :: q => by simp only [addP, List.length_cons, addP_len p q]; omega
  | [], q => by simp [addP]
  | a :: p, [] => by simp [addP]
def mulP (c : UInt8) (p : List UInt8) : List UInt8 := p.map fun a => gmb c a
theorem mulP_ev (c : UInt8) : ∀ (p : List UInt8) (z : UInt8), ev (mulP c p) z = gmb c (ev p z)
  | [], z => by simp [mulP, ev, gmb_zero]
  | a :: p, z => by
    have := mulP_ev c p z
    simp only [mulP, List.map_cons, ev] at *
    rw [this, gmb_add, ← gmb_assoc, ← gmb_assoc, gmb_comm z c]
/-- times z + b -/
def linP (b : UInt8) (p : List UInt8) : List UInt8 := addP (0 :: p) (mulP b p)
theorem linP_ev (b : UInt8) (p : List UInt8) (z : UInt8) : ev (linP b p) z = gmb (z ^^^ b) (ev p z) := by
  rw [linP, addP_ev, mulP_ev, ev, UInt8.zero_xor, add_gmb]
theorem linP_len (b : UInt8) (p : List UInt8) : (linP b p).length = p.length + 1 := by
  rw [linP, addP_len, List.length_cons, mulP, List.length_map]; omega
def divP (a : UInt8) : List UInt8 → List UInt8
  | [] => []
  | [_] => []
  | _ :: p => ev p a :: divP a p
theorem divP_len (a : UInt8) : ∀ p : List UInt8, (divP a p).length = p.length - 1
  | [] => rfl
  | [_] => rfl
  | _ :: b :: p => by
    have := divP_len a (b :: p)
    simp only [divP, List.length_cons] at *
    omega
theorem divP_ev (a : UInt8) : ∀ (p : List UInt8) (z : UInt8), ev p z = ev p a ^^^ gmb (z ^^^ a) (ev (divP a p) z)
  | [], z => by simp [divP, ev, gmb_zero]
  | [c], z => by simp [divP, ev, gmb_zero]
  | c :: b :: p, z => by
    have h := divP_ev a (b :: p) z
    have e1 : ev (c :: b :: p) z = c ^^^ gmb z (ev (b :: p) z) := rfl
    have e2 : ev (c :: b :: p) a = c ^^^ gmb a (ev (b :: p) a) := rfl
    have e3 : ev (divP a (c :: b :: p)) z = ev (b :: p) a ^^^ gmb z (ev (divP a (b :: p)) z) := rfl
    rw [e1, e2, e3, h]
    generalize ev (b :: p) a = y
    generalize ev (divP a (b :: p)) z = q
    rw [gmb_add z, gmb_add (z ^^^ a), add_gmb z a y, ← gmb_assoc, ← gmb_assoc, gmb_comm z (z ^^^ a)]
    -- c + (z y + s) = (c + a y) + ((z y + a y) + s)
    generalize gmb (gmb (z ^^^ a) z) q = s
    generalize gmb z y = u
    generalize gmb a y = v
    rw [UInt8.xor_assoc c, ← UInt8.xor_assoc v, ← UInt8.xor_assoc v, UInt8.xor_comm v u, UInt8.xor_assoc u v v, UInt8.xor_self, UInt8.xor_zero]
theorem roots : ∀ (R : List UInt8) (p : List UInt8), R.Nodup → p.length ≤ R.length → (∀ a ∈ R, ev p a = 0) → ∀ z, ev p z = 0
  | [], p, _, hl, _, z => by
    have : p = [] := List.length_eq_zero_iff.1 (by simpa using hl)
    rw [this]; rfl
  | a :: R, p, hnd, hl, h, z => by
    rw [List.nodup_cons] at hnd
    have h0 := h a (List.mem_cons_self ..)
    have hq : ∀ z, ev (divP a p) z = 0 := by
      refine roots R _ hnd.2 (by rw [divP_len]; simp at hl; omega) fun b hb => ?_
      have h1 := h b (List.mem_cons_of_mem _ hb)
      rw [divP_ev a p b, h0, UInt8.zero_xor] at h1
      rcases gmb_eq_zero h1 with h2 | h2
      · exact absurd ((xor_eq_zero.1 h2) ▸ hb) hnd.1
      · exact h2
    rw [divP_ev a p z, h0, hq z, gmb_zero, UInt8.xor_zero]

/-! ### sums of parts by z + b -/
def prodP : List (UInt8 × UInt8) → List UInt8
  | [] => [1]
  | (_, b) :: L => linP b (prodP L)
def partP : List (UInt8 × UInt8) → List UInt8
  | [] => []
  | (x, b) :: L => addP (mulP x (prodP L)) (linP b (partP L))
theorem prodP_len : ∀ L, (prodP L).length = L.length + 1
  | [] => rfl
  | (_, b) :: L => by rw [prodP, linP_len, prodP_len L, List.length_cons]
theorem partP_len : ∀ L, (partP L).length ≤ L.length
  | [] => by simp [partP]
  | (x, b) :: L => by
    have := partP_len L
    rw [partP, addP_len, mulP, List.length_map, prodP_len, linP_len, List.length_cons]
    omega
theorem prodP_ne : ∀ (L : List (UInt8 × UInt8)) (z : UInt8), (∀ q ∈ L, q.2 ≠ z) → ev (prodP L) z ≠ 0
  | [], z, _ => by
    simp only [prodP, ev, gmb_zero]; decide
  | (x, b) :: L, z, h => by
    rw [prodP, linP_ev]
    intro h0
    rcases gmb_eq_zero h0 with h1 | h1
    · exact h _ (List.mem_cons_self ..) (xor_eq_zero.1 h1).symm
    · exact prodP_ne L z (fun q hq => h q (List.mem_cons_of_mem _ hq)) h1
/-- the sum of the x by z + b -/
def sumF (z : UInt8) : List (UInt8 × UInt8) → UInt8
  | [] => 0
  | (x, b) :: L => gmb x (gib (z ^^^ b)) ^^^ sumF z L
theorem partP_sum : ∀ (L : List (UInt8 × UInt8)) (z : UInt8), (∀ q ∈ L, q.2 ≠ z) → ev (partP L) z = gmb (ev (prodP L) z) (sumF z L)
  | [], z, _ => by simp [partP, sumF, ev, gmb_zero]
  | (x, b) :: L, z, h => by
    have hb : z ^^^ b ≠ 0 := fun h0 => h _ (List.mem_cons_self ..) (xor_eq_zero.1 h0).symm
    rw [partP, addP_ev, mulP_ev, linP_ev, partP_sum L z (fun q hq => h q (List.mem_cons_of_mem _ hq)), sumF, prodP, linP_ev, gmb_add]
    congr 1
    · rw [gmb_comm (z ^^^ b), gmb_assoc, gmb_comm (z ^^^ b), gmb_assoc, gmb_comm (gib _), gmb_gib _ hb, gmb_one, gmb_comm]
    · rw [gmb_assoc]
theorem parts_zero : ∀ (L : List (UInt8 × UInt8)), (L.map (·.2)).Nodup → (∀ q ∈ L, ev (partP L) q.2 = 0) → ∀ q ∈ L, q.1 = 0
  | [], _, _ => by simp
  | (x, b) :: L, hnd, h => by
    rw [List.map_cons, List.nodup_cons] at hnd
    have hne : ∀ q ∈ L, q.2 ≠ b := fun q hq e => hnd.1 (List.mem_map.2 ⟨q, hq, e⟩)
    have h0 := h _ (List.mem_cons_self ..)
    simp only [partP, addP_ev, mulP_ev, linP_ev, UInt8.xor_self, zero_gmb, UInt8.xor_zero] at h0
    have hx : x = 0 := (gmb_eq_zero h0).resolve_right (prodP_ne L b hne)
    intro q hq
    rcases List.mem_cons.1 hq with rfl | hq
    · exact hx
    · refine parts_zero L hnd.2 (fun q hq => ?_) q hq
      have h1 := h q (List.mem_cons_of_mem _ hq)
      simp only [partP, addP_ev, mulP_ev, linP_ev, hx, zero_gmb, UInt8.zero_xor] at h1
      exact (gmb_eq_zero h1).resolve_left fun e => hne q hq (xor_eq_zero.1 e)
/-- as many sums as parts: all is nought -/
theorem cauchy (L : List (UInt8 × UInt8)) (R : List UInt8) (hL : (L.map (·.2)).Nodup) (hR : R.Nodup) (hn : L.length ≤ R.length) (hd : ∀ a ∈ R, ∀ q ∈ L, q.2 ≠ a) (h : ∀ a ∈ R, sumF a L = 0) : ∀ q ∈ L, q.1 = 0 := by
  have hz := roots R (partP L) hR (Nat.le_trans (partP_len L) hn) fun a ha => by
    rw [partP_sum L a (hd a ha), h a ha, gmb_zero]
  exact parts_zero L hL fun q _ => hz q.2
end Go.Proofs.YtlldgodjfpgbcaaDoor
