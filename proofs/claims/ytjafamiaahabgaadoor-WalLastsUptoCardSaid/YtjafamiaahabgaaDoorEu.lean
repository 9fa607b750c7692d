/- Numbers of varying length: plain, and the walks of ReadUvarint and Uvarint, for any seat. Nothing is claimed here. -/
import Derived.Test.YtjafamiaahabgaaDoorWf
namespace Go.Proofs.YtjafamiaahabgaaDoor
open Go.RowKit
set_option linter.unusedVariables false
set_option linter.unusedSimpArgs false
set_option maxRecDepth 100000

/-- what bytes say as a number: the number, its bytes, the error -/
def rdG : List UInt8 → Nat → Nat → Nat × Nat × Nat
  | [], _, _ => (0, 0, 2)
  | c :: l, i, v => if 128 ≤ c.toNat then (if i = 9 then (0, 0, 3) else rdG l (i + 1) (v + (c.toNat - 128) * 128 ^ i)) else
    if (c.toNat = 0 ∧ 0 < i) ∨ (i = 9 ∧ 1 < c.toNat) then (0, 0, 3) else (v + c.toNat * 128 ^ i, i + 1, 0)
def rdU (l : List UInt8) : Nat × Nat × Nat := rdG l 0 0
theorem rdG_ok : ∀ (l : List UInt8) (i v : Nat), i ≤ 9 → v < 128 ^ i → (rdG l i v).1 < 18446744073709551616 ∧ (rdG l i v).2.1 ≤ i + l.length ∧ (rdG l i v).2.2 ≤ 3 ∧ ((rdG l i v).2.2 = 0 → i < (rdG l i v).2.1)
  | [], i, v, _, _ => by simp [rdG]
  | c :: l, i, v, hi, hv => by
    have hc := c.toNat_lt
    unfold rdG
    split
    · split
      · simp
      · have hp : 128 ^ (i + 1) = 128 * 128 ^ i := by rw [Nat.pow_succ, Nat.mul_comm]
        have hm : (c.toNat - 128) * 128 ^ i ≤ 127 * 128 ^ i := Nat.mul_le_mul_right _ (by omega)
        have := rdG_ok l (i + 1) (v + (c.toNat - 128) * 128 ^ i) (by omega) (by omega)
        simp only [List.length_cons]
        exact ⟨this.1, by omega, this.2.2.1, fun h => by have := this.2.2.2 h; omega⟩
    · split
      · simp
      · rename_i h1 h2
        refine ⟨?_, by simp, by simp, by simp⟩
        by_cases h9 : i = 9
        · subst h9
          have : c.toNat * 128 ^ 9 ≤ 1 * 128 ^ 9 := Nat.mul_le_mul_right _ (by omega)
          simp only at hv ⊢
          omega
        · have h8 : (128 : Nat) ^ i ≤ 128 ^ 8 := Nat.pow_le_pow_right (by decide) (by omega)
          have hm : c.toNat * 128 ^ i ≤ 127 * 128 ^ i := Nat.mul_le_mul_right _ (by omega)
          have e8 : (128 : Nat) ^ 8 = 72057594037927936 := by decide
          simp only
          omega
theorem rdU_ok (l : List UInt8) : (rdU l).1 < 18446744073709551616 ∧ (rdU l).2.1 ≤ l.length ∧ (rdU l).2.2 ≤ 3 ∧ ((rdU l).2.2 = 0 → 0 < (rdU l).2.1) := by
  have := rdG_ok l 0 0 (by decide) (by decide)
  simpa [rdU] using this
theorem pow7 (i : Nat) : 2 ^ (7 * i) = 128 ^ i := by rw [Nat.pow_mul]
theorem p128 {i : Nat} (h : i ≤ 9) : 128 ^ i ≤ 9223372036854775808 := by
  have : (128 : Nat) ^ i ≤ 128 ^ 9 := Nat.pow_le_pow_right (by decide) h
  simpa using this
theorem p128' {i : Nat} (h : i ≤ 8) : 128 ^ i ≤ 72057594037927936 := by
  have : (128 : Nat) ^ i ≤ 128 ^ 8 := Nat.pow_le_pow_right (by decide) h
  simpa using this
theorem and127 (c : Nat) : c &&& 127 = c % 128 := Nat.and_two_pow_sub_one_eq_mod c 7
theorem or128 {v d i : Nat} (h : v < 128 ^ i) : v ||| d * 128 ^ i = v + d * 128 ^ i := by
  rw [Nat.or_comm, or_add d v (7 * i) (128 ^ i) (pow7 i) h, Nat.add_comm]
theorem Ar.n64 {z : Int} {K : Int → Prop} (x : Nat) (hz : z = x) (hx : x ≤ 18446744073709551615) (h : K (x : Int)) : Ar .u64 z K := by
  subst hz; exact Ar.u64 (by omega) (by omega) h
def ruV (x : Nat × Nat × Nat) : Value := .tuple #[.int .u64 (x.1 : Int), .int .i64 (x.2.1 : Int), .int .i64 (x.2.2 : Int)]

set_option maxHeartbeats 4000000 in
theorem readUv_fn (v : Value) (l : List UInt8) (w0 : World) (hs : Sl w0 v (bv l)) : Fn Tryd.prog 33 #[v] w0 fun r w' => r = ruV (rdU l) ∧ w' = w0 := by
  have hle := hs.le
  obtain ⟨a, cp, rfl⟩ := hs.shape
  simp only [bv_length] at *
  refine Fn.mk Tryd.func33 rfl (by kernel_rfl) Tryd.ntmps33 rfl (by rw [Tryd.results33]) ?_
  refine RunR ?_
  refine V.loop (α := Nat × Nat) (fun z => [(8, .slice a l.length cp), (9, .int .i64 (l.length : Int)), (10, .int .i64 (z.1 : Int)), (5, .int .u64 (z.2 : Int))])
    (fun z w' => z.1 ≤ l.length ∧ z.1 ≤ 9 ∧ z.2 < 128 ^ z.1 ∧ rdU l = rdG (l.drop z.1) z.1 z.2 ∧ w' = w0)
    (fun z => l.length - z.1) (0, 0) ⟨rfl, rfl, rfl, rfl, trivial⟩ ⟨by simp, by simp, by simp, rfl, rfl⟩ ?_
  rintro ⟨i, x⟩ w ⟨hi, h9, hx, hr, rfl⟩
  dsimp only at *
  refine RunR ?_
  refine Br.dec (fun hlt => ?_) (fun hlt => ?_)
  · have hil : i < l.length := by omega
    obtain ⟨b, o, rfl, hrow⟩ := hs.addr (by omega)
    have hg : l.drop i = l[i] :: l.drop (i + 1) := List.drop_eq_getElem_cons hil
    generalize hc : l[i] = c at *
    have hcc : (bv l)[i]? = some (.int .u8 (c.toNat : Int)) := bv_get (by rw [List.getElem?_eq_getElem hil, hc])
    have hcl := c.toNat_lt
    rw [hg, rdG] at hr
    have hp9 := p128 h9
    refine RunR ?_
    intro o1 ho1
    conv => whnf
    refine Ld.row1 ttOk hrow rfl rfl hcc (by omega) ?_
    conv => whnf
    by_cases h128 : 128 ≤ c.toNat
    · rw [if_pos h128] at hr
      by_cases hi9 : i = 9
      · rw [if_pos hi9] at hr
        refine RunR ?_
        exact ⟨by rw [hr]; rfl, rfl⟩
      · rw [if_neg hi9] at hr
        have hp8 := p128' (show i ≤ 8 by omega)
        have hm : (c.toNat - 128) * 128 ^ i ≤ 127 * 128 ^ i := Nat.mul_le_mul_right _ (by omega)
        have hp : 128 ^ (i + 1) = 128 * 128 ^ i := by rw [Nat.pow_succ, Nat.mul_comm]
        refine RunR ?_
        refine Bt.and8 c.toNat 127 rfl rfl hcl (by decide) ?_
        rw [and127, show c.toNat % 128 = c.toNat - 128 by omega]
        conv => whnf
        refine RunR ?_
        refine Shl.u64 (7 * i) (128 ^ i) (by first | rfl | (push_cast; rfl)) (by omega) (pow7 i) ?_
        refine Ar.n64 ((c.toNat - 128) * 128 ^ i) (by first | rfl | (push_cast; rfl)) (by omega) ?_
        refine Bt.or64 x ((c.toNat - 128) * 128 ^ i) rfl rfl (by omega) (by omega) ?_
        rw [or128 hx]
        conv => whnf
        refine RunR ?_
        exact ⟨(i + 1, x + (c.toNat - 128) * 128 ^ i), ⟨rfl, rfl, vint (by push_cast; omega), rfl, trivial⟩, ⟨hil, by dsimp only; omega, by dsimp only; omega, hr, rfl⟩, (by first | omega | (dsimp only; omega))⟩
    · rw [if_neg h128] at hr
      by_cases hbad : (c.toNat = 0 ∧ 0 < i) ∨ (i = 9 ∧ 1 < c.toNat)
      · rw [if_pos hbad] at hr
        by_cases hc0 : c.toNat = 0 ∧ 0 < i
        · refine RunR ?_
          exact ⟨by rw [hr]; rfl, rfl⟩
        · by_cases hc00 : c.toNat = 0
          · exfalso; omega
          · refine RunR ?_
            exact ⟨by rw [hr]; rfl, rfl⟩
      · rw [if_neg hbad] at hr
        have hm : c.toNat * 128 ^ i ≤ 9223372036854775808 := by
          by_cases hi9 : i = 9
          · subst hi9
            exact Nat.le_trans (Nat.mul_le_mul_right _ (show c.toNat ≤ 1 by omega)) (by decide)
          · have hp8 := p128' (show i ≤ 8 by omega)
            have hm : c.toNat * 128 ^ i ≤ 127 * 128 ^ i := Nat.mul_le_mul_right _ (by omega)
            omega
        by_cases hc00 : c.toNat = 0
        · obtain rfl : i = 0 := by omega
          refine RunR ?_
          refine Shl.u64 (7 * 0) (128 ^ 0) (by first | rfl | (push_cast; rfl)) (by omega) (pow7 0) ?_
          refine Ar.n64 (c.toNat * 128 ^ 0) (by first | rfl | (push_cast; rfl)) (by omega) ?_
          refine Bt.or64 x (c.toNat * 128 ^ 0) rfl rfl (by omega) (by omega) ?_
          rw [or128 hx]
          conv => whnf
          refine RunR ?_
          exact ⟨by rw [hr]; rfl, rfl⟩
        · by_cases hi9 : i = 9
          · refine RunR ?_
            refine Shl.u64 (7 * i) (128 ^ i) (by first | rfl | (push_cast; rfl)) (by omega) (pow7 i) ?_
            refine Ar.n64 (c.toNat * 128 ^ i) (by first | rfl | (push_cast; rfl)) (by omega) ?_
            refine Bt.or64 x (c.toNat * 128 ^ i) rfl rfl (by omega) (by omega) ?_
            rw [or128 hx]
            conv => whnf
            refine RunR ?_
            exact ⟨by rw [hr]; rfl, rfl⟩
          · refine RunR ?_
            refine Shl.u64 (7 * i) (128 ^ i) (by first | rfl | (push_cast; rfl)) (by omega) (pow7 i) ?_
            refine Ar.n64 (c.toNat * 128 ^ i) (by first | rfl | (push_cast; rfl)) (by omega) ?_
            refine Bt.or64 x (c.toNat * 128 ^ i) rfl rfl (by omega) (by omega) ?_
            rw [or128 hx]
            conv => whnf
            refine RunR ?_
            exact ⟨by rw [hr]; rfl, rfl⟩
  · obtain rfl : i = l.length := by omega
    rw [List.drop_length, rdG] at hr
    refine RunR ?_
    exact ⟨by rw [hr]; rfl, rfl⟩

def encG : Nat → Nat → List UInt8
  | 0, _ => []
  | f + 1, v => if v < 128 then [UInt8.ofNat v] else UInt8.ofNat (v % 128 + 128) :: encG f (v / 128)
/-- a number's bytes -/
def encU (v : Nat) : List UInt8 := encG 10 v
theorem encG_len : ∀ (f v : Nat), (encG f v).length ≤ f
  | 0, v => by simp [encG]
  | f + 1, v => by
    unfold encG
    split
    · simp
    · have := encG_len f (v / 128); simp; omega
theorem encU_len (v : Nat) : (encU v).length ≤ 10 := encG_len 10 v
theorem encG_pos {f v : Nat} (h : 0 < f) : 0 < (encG f v).length := by
  match f, h with
  | f + 1, _ => unfold encG; split <;> simp
theorem or8b : ∀ x, x < 256 → x ||| 128 = x % 128 + 128 := by decide

set_option maxHeartbeats 4000000 in
theorem uvarint_fn (v : Nat) (hv : v < 18446744073709551616) (w0 : World) : Fn Tryd.prog 20 #[.int .u64 (v : Int)] w0 fun r w' => w'.ownsRow w0.heap.size 5 1 r (encU v).length (bv (encU v)) ∧ Below w0.heap.size w0 w' := by
  have hL := Sep.start Tryd.prog w0
  have hB := Nat.le_refl w0.heap.size
  refine Fn.mk Tryd.func20 rfl (by kernel_rfl) Tryd.ntmps20 rfl (by rw [Tryd.results20]) ?_
  replace hL := hL.nilRow 5 1
  repeat (first | (refine RunH ?_; intro w hL hB; try clear w) | (refine Both.mk ?_ ?_ <;> conv => whnf) | fail)
  refine V.loop (α := Nat × Nat × Value × List UInt8) (fun z => [(0, .int .u64 (z.2.1 : Int)), (3, z.2.2.1)])
    (fun z w' => z.1 ≤ 9 ∧ z.2.1 * 128 ^ (9 - z.1) < 18446744073709551616 ∧ encU v = z.2.2.2 ++ encG (z.1 + 1) z.2.1 ∧ z.2.2.2.length + z.1 = 9 ∧ w0.heap.size ≤ w'.heap.size ∧ Sep Tryd.prog w0.heap.size w0 w' [.row 5 1 z.2.2.1 z.2.2.2.length (bv z.2.2.2)])
    (fun z => z.1) (9, v, .slice none 0 0, []) ⟨rfl, rfl, trivial⟩ ⟨by simp, by simpa using hv, rfl, rfl, hB, hL⟩ ?_
  clear hL hB
  rintro ⟨f, x, u, acc⟩ w ⟨hf, hx, he, hfl, hB, hL⟩
  dsimp only at *
  obtain ⟨ua, uc, rfl⟩ := (show SlN w 1 u acc.length _ from hL.rowN (i := 0) rfl).shape
  have hx64 : x < 18446744073709551616 := Nat.lt_of_le_of_lt (Nat.le_mul_of_pos_right x (Nat.pow_pos (by decide))) hx
  repeat (first | (refine RunH ?_; intro w hL hB; try clear w) | (refine Both.mk ?_ ?_ <;> conv => whnf) | fail)
  by_cases h128 : x < 128
  · repeat (first | (refine RunH ?_; intro w hL hB; try clear w) | (refine Both.mk ?_ ?_ <;> conv => whnf) | fail)
    refine Rv.buildS (len := 1) (vs := [.int .u8 (x : Int)]) ttOk hL tl23 tl5 rfl rfl (by intro u hu; simp only [List.mem_singleton] at hu; subst hu; rfl) (by decide) (by decide) hB fun bo w hL hB => ?_
    conv => whnf
    refine Rv.appendS ttOk hL tl23 tl5 rfl (by decide) 1 rfl (hL.rowN (i := 0) rfl) (allOne_mem rfl) (by simp only [maxLen]; omega) (by omega) hB fun vo w hL hB => ?_
    dsimp only [List.set] at hL
    conv => whnf
    repeat (first | (refine RunH ?_; intro w hL hB; try clear w) | (refine Both.mk ?_ ?_ <;> conv => whnf) | fail)
    refine ⟨?_, hL.below⟩
    have e : encU v = acc ++ [UInt8.ofNat x] := by rw [he, encG, if_pos h128]
    have hr := hL.ownR (i := 1) rfl
    rw [e]
    have e2 : bv (acc ++ [UInt8.ofNat x]) = bv acc ++ List.flatMap cellsL [Value.int IntKind.u8 (x : Int)] := by
      have : ((UInt8.ofNat x).toNat : Int) = x := by simp; omega
      simp [bv, u8, cellsL]; omega
    rw [e2, List.length_append]
    exact hr
  · have hf0 : f ≠ 0 := by
      rintro rfl
      simp only [Nat.sub_zero] at hx
      omega
    repeat (first | (refine RunH ?_; intro w hL hB; try clear w) | (refine Both.mk ?_ ?_ <;> conv => whnf) | fail)
    refine Ar.m8 x rfl ?_
    refine Bt.or8 (x % 256) 128 rfl rfl (by omega) (by decide) ?_
    rw [or8b _ (by omega), show x % 256 % 128 = x % 128 by omega]
    conv => whnf
    repeat (first | (refine RunH ?_; intro w hL hB; try clear w) | (refine Both.mk ?_ ?_ <;> conv => whnf) | fail)
    refine Rv.buildS (len := 1) (vs := [.int .u8 ((x % 128 + 128 : Nat) : Int)]) ttOk hL tl23 tl5 rfl rfl (by intro u hu; simp only [List.mem_singleton] at hu; subst hu; rfl) (by decide) (by decide) hB fun bo w hL hB => ?_
    conv => whnf
    refine Rv.appendS ttOk hL tl23 tl5 rfl (by decide) 1 rfl (hL.rowN (i := 0) rfl) (allOne_mem rfl) (by simp only [maxLen]; omega) (by omega) hB fun vo w hL hB => ?_
    dsimp only [List.set] at hL
    conv => whnf
    repeat (first | (refine RunH ?_; intro w hL hB; try clear w) | (refine Both.mk ?_ ?_ <;> conv => whnf) | fail)
    refine Shr.u64 x 7 128 rfl rfl (by decide) (by decide) ?_
    conv => whnf
    repeat (first | (refine RunH ?_; intro w hL hB; try clear w) | (refine Both.mk ?_ ?_ <;> conv => whnf) | fail)
    refine ⟨(f - 1, x / 128, vo, acc ++ [UInt8.ofNat (x % 128 + 128)]), ⟨rfl, rfl, trivial⟩, ⟨by dsimp only; omega, ?_, ?_, by simp; omega, hB, ?_⟩, (by first | omega | (dsimp only; omega))⟩
    · dsimp only
      rw [show 9 - (f - 1) = (9 - f) + 1 by omega, Nat.pow_succ, Nat.mul_comm (128 ^ (9 - f)), ← Nat.mul_assoc]
      exact Nat.lt_of_le_of_lt (Nat.mul_le_mul_right _ (Nat.div_mul_le_self x 128)) hx
    · dsimp only
      obtain ⟨g, rfl⟩ : ∃ g, f = g + 1 := ⟨f - 1, by omega⟩
      rw [he, encG, if_neg h128]
      simp
    · have e2 : bv (acc ++ [UInt8.ofNat (x % 128 + 128)]) = bv acc ++ List.flatMap cellsL [Value.int IntKind.u8 ((x % 128 + 128 : Nat) : Int)] := by
        simp [bv, u8, cellsL]; omega
      dsimp only
      rw [e2, List.length_append]
      exact hL.tl

end Go.Proofs.YtjafamiaahabgaaDoor
