/- Bit operators on numbers that are not below nought. Nothing is claimed here. -/
import Derived.Test.YtlldgodjfpgbcaaV
namespace Go.Proofs.Ytlldgodjfpgbcaa
set_option linter.unusedVariables false
set_option linter.unusedSimpArgs false

theorem ofInt_nat (n a : Nat) (ha : a < 2 ^ n) : (BitVec.ofInt n (a : Int)).toNat = a := by
  rw [BitVec.ofInt_natCast, BitVec.toNat_ofNat]; exact Nat.mod_eq_of_lt ha

theorem bits_and (k : IntKind) (a b : Nat) (ha : a < 2 ^ k.bits) (hb : b < 2 ^ k.bits) (hw : ∀ r : Nat, r ≤ a → k.wrap (r : Int) = r) : bits .and k a b = ((a &&& b : Nat) : Int) := by
  show k.wrap ((BitVec.ofInt k.bits (a : Int) &&& BitVec.ofInt k.bits (b : Int)).toNat : Int) = _
  rw [BitVec.toNat_and, ofInt_nat _ a ha, ofInt_nat _ b hb]
  exact hw _ Nat.and_le_left
theorem bits_or (k : IntKind) (a b n : Nat) (ha : a < 2 ^ n) (hb : b < 2 ^ n) (hn : n ≤ k.bits) (hw : ∀ r : Nat, r < 2 ^ n → k.wrap (r : Int) = r) : bits .or k a b = ((a ||| b : Nat) : Int) := by
  have h2 : 2 ^ n ≤ 2 ^ k.bits := Nat.pow_le_pow_right (by omega) hn
  show k.wrap ((BitVec.ofInt k.bits (a : Int) ||| BitVec.ofInt k.bits (b : Int)).toNat : Int) = _
  rw [BitVec.toNat_or, ofInt_nat _ a (by omega), ofInt_nat _ b (by omega)]
  exact hw _ (Nat.or_lt_two_pow ha hb)
theorem bits_xor (k : IntKind) (a b n : Nat) (ha : a < 2 ^ n) (hb : b < 2 ^ n) (hn : n ≤ k.bits) (hw : ∀ r : Nat, r < 2 ^ n → k.wrap (r : Int) = r) : bits .xor k a b = ((a ^^^ b : Nat) : Int) := by
  have h2 : 2 ^ n ≤ 2 ^ k.bits := Nat.pow_le_pow_right (by omega) hn
  show k.wrap ((BitVec.ofInt k.bits (a : Int) ^^^ BitVec.ofInt k.bits (b : Int)).toNat : Int) = _
  rw [BitVec.toNat_xor, ofInt_nat _ a (by omega), ofInt_nat _ b (by omega)]
  exact hw _ (Nat.xor_lt_two_pow ha hb)

theorem wrap_u8n (r : Nat) (h : r < 256) : IntKind.u8.wrap (r : Int) = r := IntWalk.u8_in _ ⟨by omega, by omega⟩
theorem wrap_u32n (r : Nat) (h : r < 4294967296) : IntKind.u32.wrap (r : Int) = r := IntWalk.u32_in _ ⟨by omega, by omega⟩
theorem wrap_u64n (r : Nat) (h : r < 18446744073709551616) : IntKind.u64.wrap (r : Int) = r := IntWalk.u64_in _ ⟨by omega, by omega⟩
theorem wrap_i64n (r : Nat) (h : r < 9223372036854775808) : IntKind.i64.wrap (r : Int) = r := IntWalk.i64_in _ ⟨by omega, by omega⟩

theorem and_u8 (a b : Nat) (ha : a < 256) (hb : b < 256) : bits .and .u8 a b = ((a &&& b : Nat) : Int) := bits_and .u8 a b ha hb fun r hr => wrap_u8n r (by omega)
theorem or_u8 (a b : Nat) (ha : a < 256) (hb : b < 256) : bits .or .u8 a b = ((a ||| b : Nat) : Int) := bits_or .u8 a b 8 ha hb (by decide) fun r hr => wrap_u8n r hr
theorem xor_u8 (a b : Nat) (ha : a < 256) (hb : b < 256) : bits .xor .u8 a b = ((a ^^^ b : Nat) : Int) := bits_xor .u8 a b 8 ha hb (by decide) fun r hr => wrap_u8n r hr
theorem and_u32 (a b : Nat) (ha : a < 4294967296) (hb : b < 4294967296) : bits .and .u32 a b = ((a &&& b : Nat) : Int) := bits_and .u32 a b ha hb fun r hr => wrap_u32n r (by omega)
theorem or_u32 (a b : Nat) (ha : a < 4294967296) (hb : b < 4294967296) : bits .or .u32 a b = ((a ||| b : Nat) : Int) := bits_or .u32 a b 32 ha hb (by decide) fun r hr => wrap_u32n r hr
theorem xor_u32 (a b : Nat) (ha : a < 4294967296) (hb : b < 4294967296) : bits .xor .u32 a b = ((a ^^^ b : Nat) : Int) := bits_xor .u32 a b 32 ha hb (by decide) fun r hr => wrap_u32n r hr
theorem and_u64 (a b : Nat) (ha : a < 18446744073709551616) (hb : b < 18446744073709551616) : bits .and .u64 a b = ((a &&& b : Nat) : Int) := bits_and .u64 a b ha hb fun r hr => wrap_u64n r (by omega)
theorem or_u64 (a b : Nat) (ha : a < 18446744073709551616) (hb : b < 18446744073709551616) : bits .or .u64 a b = ((a ||| b : Nat) : Int) := bits_or .u64 a b 64 ha hb (by decide) fun r hr => wrap_u64n r hr
theorem xor_u64 (a b : Nat) (ha : a < 18446744073709551616) (hb : b < 18446744073709551616) : bits .xor .u64 a b = ((a ^^^ b : Nat) : Int) := bits_xor .u64 a b 64 ha hb (by decide) fun r hr => wrap_u64n r hr
theorem and_i64 (a b : Nat) (ha : a < 9223372036854775808) (hb : b < 9223372036854775808) : bits .and .i64 a b = ((a &&& b : Nat) : Int) :=
  bits_and .i64 a b (Nat.lt_trans ha (by decide)) (Nat.lt_trans hb (by decide)) fun r hr => wrap_i64n r (by omega)
theorem or_i64 (a b : Nat) (ha : a < 9223372036854775808) (hb : b < 9223372036854775808) : bits .or .i64 a b = ((a ||| b : Nat) : Int) := bits_or .i64 a b 63 ha hb (by decide) fun r hr => wrap_i64n r hr
theorem xor_i64 (a b : Nat) (ha : a < 9223372036854775808) (hb : b < 9223372036854775808) : bits .xor .i64 a b = ((a ^^^ b : Nat) : Int) := bits_xor .i64 a b 63 ha hb (by decide) fun r hr => wrap_i64n r hr

/-- a shift to the right of a number that is not below nought -/
theorem shr_nat (a : Nat) (y : Int) (b : Nat) (k : IntKind) (hy : y = b) (hb : b < k.bits) : (a : Int).fdiv (2 ^ (min y.toNat k.bits)) = ((a / 2 ^ b : Nat) : Int) := by
  subst hy
  rw [Int.toNat_natCast, Nat.min_eq_left (Nat.le_of_lt hb), Int.fdiv_eq_ediv_of_nonneg _ (by exact Int.le_of_lt (Int.pow_pos (by decide)))]
  simp
theorem tdiv_nat (a b : Nat) : (a : Int).tdiv (b : Int) = ((a / b : Nat) : Int) := by
  rw [Int.tdiv_eq_ediv_of_nonneg (by omega)]; simp
theorem tmod_nat (a b : Nat) : (a : Int).tmod (b : Int) = ((a % b : Nat) : Int) := by
  rw [Int.tmod_eq_emod_of_nonneg (by omega)]; simp
theorem and15 (a : Nat) : a &&& 15 = a % 16 := Nat.and_two_pow_sub_one_eq_mod a 4

section
variable {k : IntKind} {a b : Int} {K : Int → Prop}
theorem Shl.at (n p : Nat) (hb : b = n) (hn : n ≤ k.bits) (hp : 2 ^ n = p) (h : Ar k (a * p) K) : Shl k a b K := by
  subst hb
  refine Shl.mk (by omega) ?_
  rw [Int.toNat_natCast, Nat.min_eq_left hn]
  have : (2 : Int) ^ n = (p : Int) := by rw [← hp]; simp
  rw [this]
  exact h.out
theorem Shr.at (x n p : Nat) (ha : a = x) (hb : b = n) (hn : n ≤ k.bits) (hp : 2 ^ n = p) (h : K ((x / p : Nat) : Int)) : Shr k a b K := by
  subst hb; subst ha
  refine Shr.mk (by omega) ?_
  rw [Int.toNat_natCast, Nat.min_eq_left hn, Int.fdiv_eq_ediv_of_nonneg _ (by exact Int.le_of_lt (Int.pow_pos (by decide)))]
  have : (2 : Int) ^ n = (p : Int) := by rw [← hp]; simp
  rw [this]
  exact h
theorem Shl.u8 (n p : Nat) (hb : b = n) (hn : n ≤ 8) (hp : 2 ^ n = p) (h : Ar .u8 (a * p) K) : Shl .u8 a b K := Shl.at n p hb hn hp h
theorem Shr.u8 (x n p : Nat) (ha : a = x) (hb : b = n) (hn : n ≤ 8) (hp : 2 ^ n = p) (h : K ((x / p : Nat) : Int)) : Shr .u8 a b K := Shr.at x n p ha hb hn hp h
theorem Shl.u32 (n p : Nat) (hb : b = n) (hn : n ≤ 32) (hp : 2 ^ n = p) (h : Ar .u32 (a * p) K) : Shl .u32 a b K := Shl.at n p hb hn hp h
theorem Shr.u32 (x n p : Nat) (ha : a = x) (hb : b = n) (hn : n ≤ 32) (hp : 2 ^ n = p) (h : K ((x / p : Nat) : Int)) : Shr .u32 a b K := Shr.at x n p ha hb hn hp h
theorem Shl.u64 (n p : Nat) (hb : b = n) (hn : n ≤ 64) (hp : 2 ^ n = p) (h : Ar .u64 (a * p) K) : Shl .u64 a b K := Shl.at n p hb hn hp h
theorem Shr.u64 (x n p : Nat) (ha : a = x) (hb : b = n) (hn : n ≤ 64) (hp : 2 ^ n = p) (h : K ((x / p : Nat) : Int)) : Shr .u64 a b K := Shr.at x n p ha hb hn hp h
theorem Shl.i64 (n p : Nat) (hb : b = n) (hn : n ≤ 64) (hp : 2 ^ n = p) (h : Ar .i64 (a * p) K) : Shl .i64 a b K := Shl.at n p hb hn hp h
theorem Shr.i64 (x n p : Nat) (ha : a = x) (hb : b = n) (hn : n ≤ 64) (hp : 2 ^ n = p) (h : K ((x / p : Nat) : Int)) : Shr .i64 a b K := Shr.at x n p ha hb hn hp h
theorem Quo.at (x y : Nat) (ha : a = x) (hb : b = y) (hy : 0 < y) (h : Ar k ((x / y : Nat) : Int) K) : Quo k a b K := by
  subst hb; subst ha
  exact Quo.mk (by omega) (by rw [tdiv_nat]; exact h.out)
theorem Rem.at (x y : Nat) (ha : a = x) (hb : b = y) (hy : 0 < y) (h : K ((x % y : Nat) : Int)) : Rem k a b K := by
  subst hb; subst ha
  exact Rem.mk (by omega) (by rw [tmod_nat]; exact h)
theorem Bt.and8 (x y : Nat) (ha : a = x) (hb : b = y) (hx : x < 256) (hy : y < 256) (h : K ((x &&& y : Nat) : Int)) : Bt .and .u8 a b K := by subst hb; subst ha; exact Bt.mk (by rw [and_u8 x y hx hy]; exact h)
theorem Bt.or8 (x y : Nat) (ha : a = x) (hb : b = y) (hx : x < 256) (hy : y < 256) (h : K ((x ||| y : Nat) : Int)) : Bt .or .u8 a b K := by subst hb; subst ha; exact Bt.mk (by rw [or_u8 x y hx hy]; exact h)
theorem Bt.xor8 (x y : Nat) (ha : a = x) (hb : b = y) (hx : x < 256) (hy : y < 256) (h : K ((x ^^^ y : Nat) : Int)) : Bt .xor .u8 a b K := by subst hb; subst ha; exact Bt.mk (by rw [xor_u8 x y hx hy]; exact h)
theorem Bt.and32 (x y : Nat) (ha : a = x) (hb : b = y) (hx : x < 4294967296) (hy : y < 4294967296) (h : K ((x &&& y : Nat) : Int)) : Bt .and .u32 a b K := by subst hb; subst ha; exact Bt.mk (by rw [and_u32 x y hx hy]; exact h)
theorem Bt.or32 (x y : Nat) (ha : a = x) (hb : b = y) (hx : x < 4294967296) (hy : y < 4294967296) (h : K ((x ||| y : Nat) : Int)) : Bt .or .u32 a b K := by subst hb; subst ha; exact Bt.mk (by rw [or_u32 x y hx hy]; exact h)
theorem Bt.xor32 (x y : Nat) (ha : a = x) (hb : b = y) (hx : x < 4294967296) (hy : y < 4294967296) (h : K ((x ^^^ y : Nat) : Int)) : Bt .xor .u32 a b K := by subst hb; subst ha; exact Bt.mk (by rw [xor_u32 x y hx hy]; exact h)
theorem Bt.and64 (x y : Nat) (ha : a = x) (hb : b = y) (hx : x < 18446744073709551616) (hy : y < 18446744073709551616) (h : K ((x &&& y : Nat) : Int)) : Bt .and .u64 a b K := by subst hb; subst ha; exact Bt.mk (by rw [and_u64 x y hx hy]; exact h)
theorem Bt.or64 (x y : Nat) (ha : a = x) (hb : b = y) (hx : x < 18446744073709551616) (hy : y < 18446744073709551616) (h : K ((x ||| y : Nat) : Int)) : Bt .or .u64 a b K := by subst hb; subst ha; exact Bt.mk (by rw [or_u64 x y hx hy]; exact h)
theorem Bt.xor64 (x y : Nat) (ha : a = x) (hb : b = y) (hx : x < 18446744073709551616) (hy : y < 18446744073709551616) (h : K ((x ^^^ y : Nat) : Int)) : Bt .xor .u64 a b K := by subst hb; subst ha; exact Bt.mk (by rw [xor_u64 x y hx hy]; exact h)
theorem Bt.andI (x y : Nat) (ha : a = x) (hb : b = y) (hx : x < 9223372036854775808) (hy : y < 9223372036854775808) (h : K ((x &&& y : Nat) : Int)) : Bt .and .i64 a b K := by subst hb; subst ha; exact Bt.mk (by rw [and_i64 x y hx hy]; exact h)
theorem Bt.orI (x y : Nat) (ha : a = x) (hb : b = y) (hx : x < 9223372036854775808) (hy : y < 9223372036854775808) (h : K ((x ||| y : Nat) : Int)) : Bt .or .i64 a b K := by subst hb; subst ha; exact Bt.mk (by rw [or_i64 x y hx hy]; exact h)
theorem Bt.xorI (x y : Nat) (ha : a = x) (hb : b = y) (hx : x < 9223372036854775808) (hy : y < 9223372036854775808) (h : K ((x ^^^ y : Nat) : Int)) : Bt .xor .i64 a b K := by subst hb; subst ha; exact Bt.mk (by rw [xor_i64 x y hx hy]; exact h)
end

theorem Ar.m8 {z : Int} {K : Int → Prop} (x : Nat) (hz : z = x) (h : K ((x % 256 : Nat) : Int)) : Ar .u8 z K := by
  subst hz; exact Ar.mk (by rw [IntKind.wrap_u8]; simpa using h)
theorem Ar.m32 {z : Int} {K : Int → Prop} (x : Nat) (hz : z = x) (h : K ((x % 4294967296 : Nat) : Int)) : Ar .u32 z K := by
  subst hz; exact Ar.mk (by rw [IntKind.wrap_u32]; simpa using h)
theorem Ar.m64 {z : Int} {K : Int → Prop} (x : Nat) (hz : z = x) (h : K ((x % 18446744073709551616 : Nat) : Int)) : Ar .u64 z K := by
  subst hz; exact Ar.mk (by rw [IntKind.wrap_u64]; simpa using h)
theorem neg8 (c : Nat) (h : c < 2) : IntKind.u8.wrap (-(c : Int)) = ((255 * c : Nat) : Int) := by
  rcases (by omega : c = 0 ∨ c = 1) with rfl | rfl <;> decide
theorem Ar.neg8 {z : Int} {K : Int → Prop} (c : Nat) (hc : c < 2) (hz : z = -(c : Int)) (h : K ((255 * c : Nat) : Int)) : Ar .u8 z K := by
  subst hz; exact Ar.mk (by rw [Go.Proofs.Ytlldgodjfpgbcaa.neg8 c hc]; exact h)
theorem and1 (a : Nat) : a &&& 1 = a % 2 := Nat.and_two_pow_sub_one_eq_mod a 1
theorem xor_lt8 {a b : Nat} (ha : a < 256) (hb : b < 256) : a ^^^ b < 256 := Nat.xor_lt_two_pow (n := 8) ha hb
theorem Ar.mi {z : Int} {K : Int → Prop} (x : Nat) (hz : z = x) (hx : x < 9223372036854775808) (h : K (x : Int)) : Ar .i64 z K := by
  subst hz; exact Ar.mk (by rw [wrap_i64n x hx]; exact h)

end Go.Proofs.Ytlldgodjfpgbcaa
