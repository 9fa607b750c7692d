/- Numbers of varying length: plain, and the walks of ReadUvarint. Nothing is claimed here. -/
import Derived.Test.YtlldgodjfpgbcaaR
namespace Go.Proofs.Ytlldgodjfpgbcaa
open Go.RowKit
set_option linter.unusedVariables false
set_option linter.unusedSimpArgs false
set_option maxRecDepth 100000

/-- what bytes say as a number: the number, its bytes, the error -/
def rdG : List UInt8 → Nat → Nat → Nat × Nat × Nat
  | [], _, _ => (0, 0, 2)
  | c :: l, i, v => if 128 ≤ c.toNat then (if i = 9 then (0, 0, 3) else rdG l (i + 1) (v + (c.toNat - 128) * 128 ^ i)) else
    if (c.toNat = 0 ∧ 0 < i) ∨ (i = 9 ∧ 1 < c.toNat) then (0, 0, 3) else (v + c.toNat * 128 ^ i, i + 1, 0)
def rdU (l : List UInt8) : Nat × Nat × Nat := rdG l 0 0
theorem rdG_ok : ∀ (l : List UInt8) (i v : Nat), i ≤ 9 → v < 128 ^ i → (rdG l i v).1 < 18446744073709551616 ∧ (rdG l i v).2.1 ≤ i + l.length ∧ (rdG l i v).2.2 ≤ 3 ∧ ((rdG l i v).2.2 = 0 → i < (rdG l i v).2.1)
  | [], i, v, _, _ => by simp [rdG]
  | c :: l, i, v, hi, hv => by
    have hc := c.toNat_lt
    unfold rdG
    split
    · split
      · simp
      · have hp : 128 ^ (i + 1) = 128 * 128 ^ i := by rw [Nat.pow_succ, Nat.mul_comm]
        have hm : (c.toNat - 128) * 128 ^ i ≤ 127 * 128 ^ i := Nat.mul_le_mul_right _ (by omega)
        have := rdG_ok l (i + 1) (v + (c.toNat - 128) * 128 ^ i) (by omega) (by omega)
        simp only [List.length_cons]
        exact ⟨this.1, by omega, this.2.2.1, fun h => by have := this.2.2.2 h; omega⟩
    · split
      · simp
      · rename_i h1 h2
        refine ⟨?_, by simp, by simp, by simp⟩
        by_cases h9 : i = 9
        · subst h9
          have : c.toNat * 128 ^ 9 ≤ 1 * 128 ^ 9 := Nat.mul_le_mul_right _ (by omega)
          simp only at hv ⊢
          omega
        · have h8 : (128 : Nat) ^ i ≤ 128 ^ 8 := Nat.pow_le_pow_right (by decide) (by omega)
          have hm : c.toNat * 128 ^ i ≤ 127 * 128 ^ i := Nat.mul_le_mul_right _ (by omega)
          have e8 : (128 : Nat) ^ 8 = 72057594037927936 := by decide
          simp only
          omega
theorem rdU_ok (l : List UInt8) : (rdU l).1 < 18446744073709551616 ∧ (rdU l).2.1 ≤ l.length ∧ (rdU l).2.2 ≤ 3 ∧ ((rdU l).2.2 = 0 → 0 < (rdU l).2.1) := by
  have := rdG_ok l 0 0 (by decide) (by decide)
  simpa [rdU] using this
theorem pow7 (i : Nat) : 2 ^ (7 * i) = 128 ^ i := by rw [Nat.pow_mul]
theorem p128 {i : Nat} (h : i ≤ 9) : 128 ^ i ≤ 9223372036854775808 := by
  have : (128 : Nat) ^ i ≤ 128 ^ 9 := Nat.pow_le_pow_right (by decide) h
  simpa using this
theorem p128' {i : Nat} (h : i ≤ 8) : 128 ^ i ≤ 72057594037927936 := by
  have : (128 : Nat) ^ i ≤ 128 ^ 8 := Nat.pow_le_pow_right (by decide) h
  simpa using this
theorem and127 (c : Nat) : c &&& 127 = c % 128 := Nat.and_two_pow_sub_one_eq_mod c 7
theorem or128 {v d i : Nat} (h : v < 128 ^ i) : v ||| d * 128 ^ i = v + d * 128 ^ i := by
  rw [Nat.or_comm, or_add d v (7 * i) (128 ^ i) (pow7 i) h, Nat.add_comm]
theorem Ar.n64 {z : Int} {K : Int → Prop} (x : Nat) (hz : z = x) (hx : x ≤ 18446744073709551615) (h : K (x : Int)) : Ar .u64 z K := by
  subst hz; exact Ar.u64 (by omega) (by omega) h
def ruV (x : Nat × Nat × Nat) : Value := .tuple #[.int .u64 (x.1 : Int), .int .i64 (x.2.1 : Int), .int .i64 (x.2.2 : Int)]

set_option maxHeartbeats 4000000 in
theorem readUv_fn (v : Value) (l : List UInt8) (w0 : World) (hs : Sl w0 v (bv l)) : Fn Try.prog 71 #[v] w0 fun r w' => r = ruV (rdU l) ∧ w' = w0 := by
  have hle := hs.le
  obtain ⟨a, cp, rfl⟩ := hs.shape
  simp only [bv_length] at *
  refine Fn.mk Try.func71 rfl (by kernel_rfl) Try.ntmps71 rfl (by rw [Try.results71]) ?_
  refine RunR ?_
  refine V.loop (α := Nat × Nat) (fun z => [(8, .slice a l.length cp), (9, .int .i64 (l.length : Int)), (10, .int .i64 (z.1 : Int)), (5, .int .u64 (z.2 : Int))])
    (fun z w' => z.1 ≤ l.length ∧ z.1 ≤ 9 ∧ z.2 < 128 ^ z.1 ∧ rdU l = rdG (l.drop z.1) z.1 z.2 ∧ w' = w0)
    (fun z => l.length - z.1) (0, 0) ⟨rfl, rfl, rfl, rfl, trivial⟩ ⟨by simp, by simp, by simp, rfl, rfl⟩ ?_
  rintro ⟨i, x⟩ w ⟨hi, h9, hx, hr, rfl⟩
  dsimp only at *
  refine RunR ?_
  refine Br.dec (fun hlt => ?_) (fun hlt => ?_)
  · have hil : i < l.length := by omega
    obtain ⟨b, o, rfl, hrow⟩ := hs.addr (by omega)
    have hg : l.drop i = l[i] :: l.drop (i + 1) := List.drop_eq_getElem_cons hil
    generalize hc : l[i] = c at *
    have hcc : (bv l)[i]? = some (.int .u8 (c.toNat : Int)) := bv_get (by rw [List.getElem?_eq_getElem hil, hc])
    have hcl := c.toNat_lt
    rw [hg, rdG] at hr
    have hp9 := p128 h9
    refine RunR ?_
    intro o1 ho1
    conv => whnf
    refine Ld.row1 ttOk hrow rfl rfl hcc (by omega) ?_
    conv => whnf
    by_cases h128 : 128 ≤ c.toNat
    · rw [if_pos h128] at hr
      by_cases hi9 : i = 9
      · rw [if_pos hi9] at hr
        refine RunR ?_
        exact ⟨by rw [hr]; rfl, rfl⟩
      · rw [if_neg hi9] at hr
        have hp8 := p128' (show i ≤ 8 by omega)
        have hm : (c.toNat - 128) * 128 ^ i ≤ 127 * 128 ^ i := Nat.mul_le_mul_right _ (by omega)
        have hp : 128 ^ (i + 1) = 128 * 128 ^ i := by rw [Nat.pow_succ, Nat.mul_comm]
        refine RunR ?_
        refine Bt.and8 c.toNat 127 rfl rfl hcl (by decide) ?_
        rw [and127, show c.toNat % 128 = c.toNat - 128 by omega]
        conv => whnf
        refine RunR ?_
        refine Shl.u64 (7 * i) (128 ^ i) (by first | rfl | (push_cast; rfl)) (by omega) (pow7 i) ?_
        refine Ar.n64 ((c.toNat - 128) * 128 ^ i) (by first | rfl | (push_cast; rfl)) (by omega) ?_
        refine Bt.or64 x ((c.toNat - 128) * 128 ^ i) rfl rfl (by omega) (by omega) ?_
        rw [or128 hx]
        conv => whnf
        refine RunR ?_
        exact ⟨(i + 1, x + (c.toNat - 128) * 128 ^ i), ⟨rfl, rfl, vint (by push_cast; omega), rfl, trivial⟩, ⟨hil, by dsimp only; omega, by dsimp only; omega, hr, rfl⟩, (by first | omega | (dsimp only; omega))⟩
    · rw [if_neg h128] at hr
      by_cases hbad : (c.toNat = 0 ∧ 0 < i) ∨ (i = 9 ∧ 1 < c.toNat)
      · rw [if_pos hbad] at hr
        by_cases hc0 : c.toNat = 0 ∧ 0 < i
        · refine RunR ?_
          exact ⟨by rw [hr]; rfl, rfl⟩
        · by_cases hc00 : c.toNat = 0
          · exfalso; omega
          · refine RunR ?_
            exact ⟨by rw [hr]; rfl, rfl⟩
      · rw [if_neg hbad] at hr
        have hm : c.toNat * 128 ^ i ≤ 9223372036854775808 := by
          by_cases hi9 : i = 9
          · subst hi9
            exact Nat.le_trans (Nat.mul_le_mul_right _ (show c.toNat ≤ 1 by omega)) (by decide)
          · have hp8 := p128' (show i ≤ 8 by omega)
            have hm : c.toNat * 128 ^ i ≤ 127 * 128 ^ i := Nat.mul_le_mul_right _ (by omega)
            omega
        by_cases hc00 : c.toNat = 0
        · obtain rfl : i = 0 := by omega
          refine RunR ?_
          refine Shl.u64 (7 * 0) (128 ^ 0) (by first | rfl | (push_cast; rfl)) (by omega) (pow7 0) ?_
          refine Ar.n64 (c.toNat * 128 ^ 0) (by first | rfl | (push_cast; rfl)) (by omega) ?_
          refine Bt.or64 x (c.toNat * 128 ^ 0) rfl rfl (by omega) (by omega) ?_
          rw [or128 hx]
          conv => whnf
          refine RunR ?_
          exact ⟨by rw [hr]; rfl, rfl⟩
        · by_cases hi9 : i = 9
          · refine RunR ?_
            refine Shl.u64 (7 * i) (128 ^ i) (by first | rfl | (push_cast; rfl)) (by omega) (pow7 i) ?_
            refine Ar.n64 (c.toNat * 128 ^ i) (by first | rfl | (push_cast; rfl)) (by omega) ?_
            refine Bt.or64 x (c.toNat * 128 ^ i) rfl rfl (by omega) (by omega) ?_
            rw [or128 hx]
            conv => whnf
            refine RunR ?_
            exact ⟨by rw [hr]; rfl, rfl⟩
          · refine RunR ?_
            refine Shl.u64 (7 * i) (128 ^ i) (by first | rfl | (push_cast; rfl)) (by omega) (pow7 i) ?_
            refine Ar.n64 (c.toNat * 128 ^ i) (by first | rfl | (push_cast; rfl)) (by omega) ?_
            refine Bt.or64 x (c.toNat * 128 ^ i) rfl rfl (by omega) (by omega) ?_
            rw [or128 hx]
            conv => whnf
            refine RunR ?_
            exact ⟨by rw [hr]; rfl, rfl⟩
  · obtain rfl : i = l.length := by omega
    rw [List.drop_length, rdG] at hr
    refine RunR ?_
    exact ⟨by rw [hr]; rfl, rfl⟩

set_option maxHeartbeats 4000000 in
theorem readUvR_fn (v : Value) (l : List UInt8) (w0 : World) (hs : Sl w0 v (bv l)) : Fn Try.prog 49 #[v] w0 fun r w' => r = ruV (rdU l) ∧ w' = w0 := by
  have hle := hs.le
  obtain ⟨a, cp, rfl⟩ := hs.shape
  simp only [bv_length] at *
  refine Fn.mk Try.func49 rfl (by kernel_rfl) Try.ntmps49 rfl (by rw [Try.results49]) ?_
  refine RunR ?_
  refine V.loop (α := Nat × Nat) (fun z => [(0, .slice a l.length cp), (6, .int .i64 (z.1 : Int)), (5, .int .u64 (z.2 : Int))])
    (fun z w' => z.1 ≤ l.length ∧ z.1 ≤ 9 ∧ z.2 < 128 ^ z.1 ∧ rdU l = rdG (l.drop z.1) z.1 z.2 ∧ w' = w0)
    (fun z => l.length - z.1) (0, 0) ⟨rfl, rfl, rfl, trivial⟩ ⟨by simp, by simp, by simp, rfl, rfl⟩ ?_
  rintro ⟨i, x⟩ w ⟨hi, h9, hx, hr, rfl⟩
  dsimp only at *
  refine RunR ?_
  refine Br.dec (fun hlt => ?_) (fun hlt => ?_)
  · have hil : i < l.length := by omega
    obtain ⟨b, o, rfl, hrow⟩ := hs.addr (by omega)
    have hg : l.drop i = l[i] :: l.drop (i + 1) := List.drop_eq_getElem_cons hil
    generalize hc : l[i] = c at *
    have hcc : (bv l)[i]? = some (.int .u8 (c.toNat : Int)) := bv_get (by rw [List.getElem?_eq_getElem hil, hc])
    have hcl := c.toNat_lt
    rw [hg, rdG] at hr
    have hp9 := p128 h9
    refine RunR ?_
    intro o1 ho1
    conv => whnf
    refine Ld.row1 ttOk hrow rfl rfl hcc (by omega) ?_
    conv => whnf
    refine Rem.at c.toNat 128 rfl rfl (by decide) ?_
    conv => whnf
    by_cases hi9 : i = 9
    · by_cases h128 : 128 ≤ c.toNat
      · rw [if_pos h128, if_pos hi9] at hr
        repeat (first | (intro o2 ho2; conv => whnf) | (refine Ld.row1 ttOk hrow rfl rfl hcc (by omega) ?_; conv => whnf) | refine V.seq ?_ | (refine V.reg ttOk ?_; conv => whnf) | refine V.cnd rfl ?_ | refine V.blk ?_ | (refine V.ext ?_; conv => whnf) | (refine V.rt ?_; conv => whnf) | (refine V.skp ?_; conv => whnf) | (refine V.lab ?_; conv => whnf) | (refine Ar.i64 (by omega) (by omega) ?_; conv => whnf) | (refine Ar.u64 (by omega) (by omega) ?_; conv => whnf) | (refine Ar.u32 (by omega) (by omega) ?_; conv => whnf) | (refine Ar.u8 (by omega) (by omega) ?_; conv => whnf) | (refine Br.tt ?_; conv => whnf) | (refine Br.ff ?_; conv => whnf) | refine Br.not ?_ | (refine Br.yes (by assumption) ?_; conv => whnf) | (refine Br.no (by assumption) ?_; conv => whnf) | (refine Br.dec_t (by omega) ?_; conv => whnf) | (refine Br.dec_f (by omega) ?_; conv => whnf) | (refine Chk.mk (by omega) ?_; conv => whnf))
        exact ⟨by rw [hr]; rfl, rfl⟩
      · rw [if_neg h128] at hr
        have hcm : c.toNat % 128 = c.toNat := by omega
        by_cases h1 : 1 < c.toNat
        · rw [if_pos (.inr ⟨hi9, h1⟩)] at hr
          repeat (first | (intro o2 ho2; conv => whnf) | (refine Ld.row1 ttOk hrow rfl rfl hcc (by omega) ?_; conv => whnf) | refine V.seq ?_ | (refine V.reg ttOk ?_; conv => whnf) | refine V.cnd rfl ?_ | refine V.blk ?_ | (refine V.ext ?_; conv => whnf) | (refine V.rt ?_; conv => whnf) | (refine V.skp ?_; conv => whnf) | (refine V.lab ?_; conv => whnf) | (refine Ar.i64 (by omega) (by omega) ?_; conv => whnf) | (refine Ar.u64 (by omega) (by omega) ?_; conv => whnf) | (refine Ar.u32 (by omega) (by omega) ?_; conv => whnf) | (refine Ar.u8 (by omega) (by omega) ?_; conv => whnf) | (refine Br.tt ?_; conv => whnf) | (refine Br.ff ?_; conv => whnf) | refine Br.not ?_ | (refine Br.yes (by assumption) ?_; conv => whnf) | (refine Br.no (by assumption) ?_; conv => whnf) | (refine Br.dec_t (by omega) ?_; conv => whnf) | (refine Br.dec_f (by omega) ?_; conv => whnf) | (refine Chk.mk (by omega) ?_; conv => whnf))
          exact ⟨by rw [hr]; rfl, rfl⟩
        · have hm : c.toNat * 128 ^ i ≤ 9223372036854775808 := by
            subst hi9
            exact Nat.le_trans (Nat.mul_le_mul_right _ (show c.toNat ≤ 1 by omega)) (by decide)
          repeat (first | (intro o2 ho2; conv => whnf) | (refine Ld.row1 ttOk hrow rfl rfl hcc (by omega) ?_; conv => whnf) | (refine Shl.u64 (7 * i) (128 ^ i) (by first | rfl | (push_cast; rfl)) (by omega) (pow7 i) ?_; rw [hcm]; refine Ar.n64 (c.toNat * 128 ^ i) (by first | rfl | (push_cast; rfl)) (by omega) ?_; refine Bt.or64 x (c.toNat * 128 ^ i) rfl rfl (by omega) (by omega) ?_; rw [or128 hx]; conv => whnf) | refine V.seq ?_ | (refine V.reg ttOk ?_; conv => whnf) | refine V.cnd rfl ?_ | refine V.blk ?_ | (refine V.ext ?_; conv => whnf) | (refine V.rt ?_; conv => whnf) | (refine V.skp ?_; conv => whnf) | (refine V.lab ?_; conv => whnf) | (refine Ar.i64 (by omega) (by omega) ?_; conv => whnf) | (refine Ar.u64 (by omega) (by omega) ?_; conv => whnf) | (refine Ar.u32 (by omega) (by omega) ?_; conv => whnf) | (refine Ar.u8 (by omega) (by omega) ?_; conv => whnf) | (refine Br.tt ?_; conv => whnf) | (refine Br.ff ?_; conv => whnf) | refine Br.not ?_ | (refine Br.yes (by assumption) ?_; conv => whnf) | (refine Br.no (by assumption) ?_; conv => whnf) | (refine Br.dec_t (by omega) ?_; conv => whnf) | (refine Br.dec_f (by omega) ?_; conv => whnf) | (refine Chk.mk (by omega) ?_; conv => whnf))
          by_cases h0 : c.toNat = 0
          · rw [if_pos (.inl ⟨h0, by omega⟩)] at hr
            repeat (first | (intro o2 ho2; conv => whnf) | (refine Ld.row1 ttOk hrow rfl rfl hcc (by omega) ?_; conv => whnf) | refine V.seq ?_ | (refine V.reg ttOk ?_; conv => whnf) | refine V.cnd rfl ?_ | refine V.blk ?_ | (refine V.ext ?_; conv => whnf) | (refine V.rt ?_; conv => whnf) | (refine V.skp ?_; conv => whnf) | (refine V.lab ?_; conv => whnf) | (refine Ar.i64 (by omega) (by omega) ?_; conv => whnf) | (refine Ar.u64 (by omega) (by omega) ?_; conv => whnf) | (refine Ar.u32 (by omega) (by omega) ?_; conv => whnf) | (refine Ar.u8 (by omega) (by omega) ?_; conv => whnf) | (refine Br.tt ?_; conv => whnf) | (refine Br.ff ?_; conv => whnf) | refine Br.not ?_ | (refine Br.yes (by assumption) ?_; conv => whnf) | (refine Br.no (by assumption) ?_; conv => whnf) | (refine Br.dec_t (by omega) ?_; conv => whnf) | (refine Br.dec_f (by omega) ?_; conv => whnf) | (refine Chk.mk (by omega) ?_; conv => whnf))
            exact ⟨by rw [hr]; rfl, rfl⟩
          · rw [if_neg (by omega)] at hr
            repeat (first | (intro o2 ho2; conv => whnf) | (refine Ld.row1 ttOk hrow rfl rfl hcc (by omega) ?_; conv => whnf) | refine V.seq ?_ | (refine V.reg ttOk ?_; conv => whnf) | refine V.cnd rfl ?_ | refine V.blk ?_ | (refine V.ext ?_; conv => whnf) | (refine V.rt ?_; conv => whnf) | (refine V.skp ?_; conv => whnf) | (refine V.lab ?_; conv => whnf) | (refine Ar.i64 (by omega) (by omega) ?_; conv => whnf) | (refine Ar.u64 (by omega) (by omega) ?_; conv => whnf) | (refine Ar.u32 (by omega) (by omega) ?_; conv => whnf) | (refine Ar.u8 (by omega) (by omega) ?_; conv => whnf) | (refine Br.tt ?_; conv => whnf) | (refine Br.ff ?_; conv => whnf) | refine Br.not ?_ | (refine Br.yes (by assumption) ?_; conv => whnf) | (refine Br.no (by assumption) ?_; conv => whnf) | (refine Br.dec_t (by omega) ?_; conv => whnf) | (refine Br.dec_f (by omega) ?_; conv => whnf) | (refine Chk.mk (by omega) ?_; conv => whnf))
            exact ⟨by rw [hr]; rfl, rfl⟩
    · have hi8 : i ≤ 8 := by omega
      have hp8 := p128' hi8
      have hmm : c.toNat % 128 * 128 ^ i ≤ 127 * 128 ^ i := Nat.mul_le_mul_right _ (by omega)
      repeat (first | (intro o2 ho2; conv => whnf) | (refine Ld.row1 ttOk hrow rfl rfl hcc (by omega) ?_; conv => whnf) | (refine Shl.u64 (7 * i) (128 ^ i) (by first | rfl | (push_cast; rfl)) (by omega) (pow7 i) ?_; refine Ar.n64 (c.toNat % 128 * 128 ^ i) (by first | rfl | (push_cast; rfl)) (by omega) ?_; refine Bt.or64 x (c.toNat % 128 * 128 ^ i) rfl rfl (by omega) (by omega) ?_; rw [or128 hx]; conv => whnf) | refine V.seq ?_ | (refine V.reg ttOk ?_; conv => whnf) | refine V.cnd rfl ?_ | refine V.blk ?_ | (refine V.ext ?_; conv => whnf) | (refine V.rt ?_; conv => whnf) | (refine V.skp ?_; conv => whnf) | (refine V.lab ?_; conv => whnf) | (refine Ar.i64 (by omega) (by omega) ?_; conv => whnf) | (refine Ar.u64 (by omega) (by omega) ?_; conv => whnf) | (refine Ar.u32 (by omega) (by omega) ?_; conv => whnf) | (refine Ar.u8 (by omega) (by omega) ?_; conv => whnf) | (refine Br.tt ?_; conv => whnf) | (refine Br.ff ?_; conv => whnf) | refine Br.not ?_ | (refine Br.yes (by assumption) ?_; conv => whnf) | (refine Br.no (by assumption) ?_; conv => whnf) | (refine Br.dec_t (by omega) ?_; conv => whnf) | (refine Br.dec_f (by omega) ?_; conv => whnf) | (refine Chk.mk (by omega) ?_; conv => whnf))
      by_cases h128 : 128 ≤ c.toNat
      · rw [if_pos h128, if_neg hi9] at hr
        rw [show c.toNat - 128 = c.toNat % 128 by omega] at hr
        have hp : 128 ^ (i + 1) = 128 * 128 ^ i := by rw [Nat.pow_succ, Nat.mul_comm]
        repeat (first | (intro o2 ho2; conv => whnf) | (refine Ld.row1 ttOk hrow rfl rfl hcc (by omega) ?_; conv => whnf) | refine V.seq ?_ | (refine V.reg ttOk ?_; conv => whnf) | refine V.cnd rfl ?_ | refine V.blk ?_ | (refine V.ext ?_; conv => whnf) | (refine V.rt ?_; conv => whnf) | (refine V.skp ?_; conv => whnf) | (refine V.lab ?_; conv => whnf) | (refine Ar.i64 (by omega) (by omega) ?_; conv => whnf) | (refine Ar.u64 (by omega) (by omega) ?_; conv => whnf) | (refine Ar.u32 (by omega) (by omega) ?_; conv => whnf) | (refine Ar.u8 (by omega) (by omega) ?_; conv => whnf) | (refine Br.tt ?_; conv => whnf) | (refine Br.ff ?_; conv => whnf) | refine Br.not ?_ | (refine Br.yes (by assumption) ?_; conv => whnf) | (refine Br.no (by assumption) ?_; conv => whnf) | (refine Br.dec_t (by omega) ?_; conv => whnf) | (refine Br.dec_f (by omega) ?_; conv => whnf) | (refine Chk.mk (by omega) ?_; conv => whnf))
        exact ⟨(i + 1, x + c.toNat % 128 * 128 ^ i), ⟨rfl, vint (by push_cast; omega), rfl, trivial⟩, ⟨hil, by dsimp only; omega, by dsimp only; omega, hr, rfl⟩, (by first | omega | (dsimp only; omega))⟩
      · rw [if_neg h128] at hr
        by_cases h0 : c.toNat = 0
        · by_cases hi0 : 0 < i
          · rw [if_pos (.inl ⟨h0, hi0⟩)] at hr
            repeat (first | (intro o2 ho2; conv => whnf) | (refine Ld.row1 ttOk hrow rfl rfl hcc (by omega) ?_; conv => whnf) | refine V.seq ?_ | (refine V.reg ttOk ?_; conv => whnf) | refine V.cnd rfl ?_ | refine V.blk ?_ | (refine V.ext ?_; conv => whnf) | (refine V.rt ?_; conv => whnf) | (refine V.skp ?_; conv => whnf) | (refine V.lab ?_; conv => whnf) | (refine Ar.i64 (by omega) (by omega) ?_; conv => whnf) | (refine Ar.u64 (by omega) (by omega) ?_; conv => whnf) | (refine Ar.u32 (by omega) (by omega) ?_; conv => whnf) | (refine Ar.u8 (by omega) (by omega) ?_; conv => whnf) | (refine Br.tt ?_; conv => whnf) | (refine Br.ff ?_; conv => whnf) | refine Br.not ?_ | (refine Br.yes (by assumption) ?_; conv => whnf) | (refine Br.no (by assumption) ?_; conv => whnf) | (refine Br.dec_t (by omega) ?_; conv => whnf) | (refine Br.dec_f (by omega) ?_; conv => whnf) | (refine Chk.mk (by omega) ?_; conv => whnf))
            exact ⟨by rw [hr]; rfl, rfl⟩
          · rw [if_neg (by omega)] at hr
            repeat (first | (intro o2 ho2; conv => whnf) | (refine Ld.row1 ttOk hrow rfl rfl hcc (by omega) ?_; conv => whnf) | refine V.seq ?_ | (refine V.reg ttOk ?_; conv => whnf) | refine V.cnd rfl ?_ | refine V.blk ?_ | (refine V.ext ?_; conv => whnf) | (refine V.rt ?_; conv => whnf) | (refine V.skp ?_; conv => whnf) | (refine V.lab ?_; conv => whnf) | (refine Ar.i64 (by omega) (by omega) ?_; conv => whnf) | (refine Ar.u64 (by omega) (by omega) ?_; conv => whnf) | (refine Ar.u32 (by omega) (by omega) ?_; conv => whnf) | (refine Ar.u8 (by omega) (by omega) ?_; conv => whnf) | (refine Br.tt ?_; conv => whnf) | (refine Br.ff ?_; conv => whnf) | refine Br.not ?_ | (refine Br.yes (by assumption) ?_; conv => whnf) | (refine Br.no (by assumption) ?_; conv => whnf) | (refine Br.dec_t (by omega) ?_; conv => whnf) | (refine Br.dec_f (by omega) ?_; conv => whnf) | (refine Chk.mk (by omega) ?_; conv => whnf))
            exact ⟨by rw [hr, show c.toNat % 128 = c.toNat by omega]; rfl, rfl⟩
        · rw [if_neg (by omega)] at hr
          repeat (first | (intro o2 ho2; conv => whnf) | (refine Ld.row1 ttOk hrow rfl rfl hcc (by omega) ?_; conv => whnf) | refine V.seq ?_ | (refine V.reg ttOk ?_; conv => whnf) | refine V.cnd rfl ?_ | refine V.blk ?_ | (refine V.ext ?_; conv => whnf) | (refine V.rt ?_; conv => whnf) | (refine V.skp ?_; conv => whnf) | (refine V.lab ?_; conv => whnf) | (refine Ar.i64 (by omega) (by omega) ?_; conv => whnf) | (refine Ar.u64 (by omega) (by omega) ?_; conv => whnf) | (refine Ar.u32 (by omega) (by omega) ?_; conv => whnf) | (refine Ar.u8 (by omega) (by omega) ?_; conv => whnf) | (refine Br.tt ?_; conv => whnf) | (refine Br.ff ?_; conv => whnf) | refine Br.not ?_ | (refine Br.yes (by assumption) ?_; conv => whnf) | (refine Br.no (by assumption) ?_; conv => whnf) | (refine Br.dec_t (by omega) ?_; conv => whnf) | (refine Br.dec_f (by omega) ?_; conv => whnf) | (refine Chk.mk (by omega) ?_; conv => whnf))
          exact ⟨by rw [hr, show c.toNat % 128 = c.toNat by omega]; rfl, rfl⟩
  · obtain rfl : i = l.length := by omega
    rw [List.drop_length, rdG] at hr
    refine RunR ?_
    exact ⟨by rw [hr]; rfl, rfl⟩
end Go.Proofs.Ytlldgodjfpgbcaa
