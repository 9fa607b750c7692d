/- StripRows. Nothing is claimed here. -/
import Derived.Test.YtlldgodjfpgbcaaLb
namespace Go.Proofs.Ytlldgodjfpgbcaa
open Go.RowKit
set_option linter.unusedVariables false
set_option maxRecDepth 100000

theorem rows_slice (W : List UInt8) (k j : Nat) (hj : j < k) : ∀ h, h * k * 16 ≤ W.length → ∀ r, r < h → (((List.range h).flatMap (fun r => chunk W (r * k + j))).drop (16 * r)).take 16 = chunk W (r * k + j)
  | 0, _, r, hr => by omega
  | h + 1, hW, r, hr => by
    have hW' : h * k * 16 ≤ W.length := by rw [Nat.add_mul, Nat.one_mul, Nat.add_mul] at hW; omega
    have hl := rows_len W k j hj h hW'
    have hc : (chunk W (h * k + j)).length = 16 := chunk_len _ _ (by rw [Nat.add_mul, Nat.one_mul, Nat.add_mul] at hW; omega)
    rw [List.range_succ, List.flatMap_append]
    simp only [List.flatMap_cons, List.flatMap_nil, List.append_nil]
    by_cases e : r = h
    · subst e
      rw [List.drop_append, List.drop_eq_nil_of_le (by omega), hl, Nat.sub_self, List.drop_zero, List.nil_append, List.take_of_length_le (by omega)]
    · rw [List.drop_append, hl, (by omega : 16 * r - 16 * h = 0), List.drop_zero, List.take_append_of_le_length (by rw [List.length_drop]; omega)]
      exact rows_slice W k j hj h hW' r (by omega)
theorem take_chunk (W : List UInt8) (t : Nat) : W.take (16 * (t + 1)) = W.take (16 * t) ++ chunk W t := by
  rw [Nat.mul_add, Nat.mul_one, List.take_add]
  rfl
theorem cutB_get (b : List UInt8) (k m j : Nat) (hj : j < k) : (cutB b k m)[j]? = some (col (wholeB b k) k j (hgt b.length k * k)) := by
  unfold cutB cutD
  rw [List.getElem?_append_left (by rw [colsB_len]; exact hj), colsB_get _ _ _ _ hj]

theorem stripRows_fn (v : Value) (l : List UInt8) (k m : Int) (w : World) (hs : Sl w v (bv l)) :
    Fn Try.prog 4 #[v, .int .i64 k, .int .i64 m] w fun r w' => r = .bool true ∧ Below w.heap.size w w' := by
  have hle := hs.le
  obtain ⟨a, cp, rfl⟩ := hs.shape
  simp only [bv_length] at *
  refine Fn.mk Try.func4 rfl (by kernel_rfl) Try.ntmps4 rfl (by rw [Try.results4]) ?_
  by_cases h0 : 3000 < l.length
  · repeat (first | refine V.seq ?_ | (refine V.reg ttOk ?_; conv => whnf) | refine V.cnd rfl ?_ | refine V.blk ?_ | (refine V.ext ?_; conv => whnf) | (refine V.rt ?_; conv => whnf) | (refine V.skp ?_; conv => whnf) | (refine V.lab ?_; conv => whnf) | (refine Ar.i64 (by omega) (by omega) ?_; conv => whnf) | (refine Ar.u64 (by omega) (by omega) ?_; conv => whnf) | (refine Ar.u32 (by omega) (by omega) ?_; conv => whnf) | (refine Ar.u8 (by omega) (by omega) ?_; conv => whnf) | refine Br.tt ?_ | refine Br.ff ?_ | refine Br.dec_t (by omega) ?_ | refine Br.dec_f (by omega) ?_ | refine Br.not ?_ | (refine Chk.mk (by omega) ?_; conv => whnf))
    exact ⟨rfl, Below.refl _ _⟩
  repeat (first | refine V.seq ?_ | (refine V.reg ttOk ?_; conv => whnf) | refine V.cnd rfl ?_ | refine V.blk ?_ | (refine V.ext ?_; conv => whnf) | (refine V.rt ?_; conv => whnf) | (refine V.skp ?_; conv => whnf) | (refine V.lab ?_; conv => whnf) | (refine Ar.i64 (by omega) (by omega) ?_; conv => whnf) | (refine Ar.u64 (by omega) (by omega) ?_; conv => whnf) | (refine Ar.u32 (by omega) (by omega) ?_; conv => whnf) | (refine Ar.u8 (by omega) (by omega) ?_; conv => whnf) | refine Br.tt ?_ | refine Br.ff ?_ | refine Br.dec_t (by omega) ?_ | refine Br.dec_f (by omega) ?_ | refine Br.not ?_ | (refine Chk.mk (by omega) ?_; conv => whnf))
  refine (small_fn k m w).mono fun r w1 ⟨hr, hw⟩ => ?_
  subst hr; subst hw
  conv => whnf
  by_cases hsm : k < 20 ∧ m < 20 ∧ -20 < k ∧ -20 < m
  case neg =>
    rw [decide_eq_false hsm]
    repeat (first | refine V.seq ?_ | (refine V.reg ttOk ?_; conv => whnf) | refine V.cnd rfl ?_ | refine V.blk ?_ | (refine V.ext ?_; conv => whnf) | (refine V.rt ?_; conv => whnf) | (refine V.skp ?_; conv => whnf) | (refine V.lab ?_; conv => whnf) | (refine Ar.i64 (by omega) (by omega) ?_; conv => whnf) | (refine Ar.u64 (by omega) (by omega) ?_; conv => whnf) | (refine Ar.u32 (by omega) (by omega) ?_; conv => whnf) | (refine Ar.u8 (by omega) (by omega) ?_; conv => whnf) | refine Br.tt ?_ | refine Br.ff ?_ | refine Br.dec_t (by omega) ?_ | refine Br.dec_f (by omega) ?_ | refine Br.not ?_ | (refine Chk.mk (by omega) ?_; conv => whnf))
    exact ⟨rfl, Below.refl _ _⟩
  rw [decide_eq_true hsm]
  repeat (first | refine V.seq ?_ | (refine V.reg ttOk ?_; conv => whnf) | refine V.cnd rfl ?_ | refine V.blk ?_ | (refine V.ext ?_; conv => whnf) | (refine V.rt ?_; conv => whnf) | (refine V.skp ?_; conv => whnf) | (refine V.lab ?_; conv => whnf) | (refine Ar.i64 (by omega) (by omega) ?_; conv => whnf) | (refine Ar.u64 (by omega) (by omega) ?_; conv => whnf) | (refine Ar.u32 (by omega) (by omega) ?_; conv => whnf) | (refine Ar.u8 (by omega) (by omega) ?_; conv => whnf) | refine Br.tt ?_ | refine Br.ff ?_ | refine Br.dec_t (by omega) ?_ | refine Br.dec_f (by omega) ?_ | refine Br.not ?_ | (refine Chk.mk (by omega) ?_; conv => whnf))
  by_cases hbad : k < 1 ∨ m < 0 ∨ 14 < k ∨ 14 - k < m
  · refine (cut_bad _ l k m hbad (by omega) (by omega) w1 hs).mono fun r w3 ⟨hr, hw⟩ => ?_
    subst hr; subst hw
    conv => whnf
    repeat (first | refine V.seq ?_ | (refine V.reg ttOk ?_; conv => whnf) | refine V.cnd rfl ?_ | refine V.blk ?_ | (refine V.ext ?_; conv => whnf) | (refine V.rt ?_; conv => whnf) | (refine V.skp ?_; conv => whnf) | (refine V.lab ?_; conv => whnf) | (refine Ar.i64 (by omega) (by omega) ?_; conv => whnf) | (refine Ar.u64 (by omega) (by omega) ?_; conv => whnf) | (refine Ar.u32 (by omega) (by omega) ?_; conv => whnf) | (refine Ar.u8 (by omega) (by omega) ?_; conv => whnf) | refine Br.tt ?_ | refine Br.ff ?_ | refine Br.dec_t (by omega) ?_ | refine Br.dec_f (by omega) ?_ | refine Br.not ?_ | (refine Chk.mk (by omega) ?_; conv => whnf))
    refine (known_fn w3).mono fun r w7 ⟨hr, hB7⟩ => ?_
    subst hr
    conv => whnf
    repeat (first | refine V.seq ?_ | (refine V.reg ttOk ?_; conv => whnf) | refine V.cnd rfl ?_ | refine V.blk ?_ | (refine V.ext ?_; conv => whnf) | (refine V.rt ?_; conv => whnf) | (refine V.skp ?_; conv => whnf) | (refine V.lab ?_; conv => whnf) | (refine Ar.i64 (by omega) (by omega) ?_; conv => whnf) | (refine Ar.u64 (by omega) (by omega) ?_; conv => whnf) | (refine Ar.u32 (by omega) (by omega) ?_; conv => whnf) | (refine Ar.u8 (by omega) (by omega) ?_; conv => whnf) | refine Br.tt ?_ | refine Br.ff ?_ | refine Br.dec_t (by omega) ?_ | refine Br.dec_f (by omega) ?_ | refine Br.not ?_ | (refine Chk.mk (by omega) ?_; conv => whnf))
    exact ⟨rfl, hB7⟩
  obtain ⟨k, rfl⟩ : ∃ k' : Nat, k = k' := ⟨k.toNat, by omega⟩
  obtain ⟨m, rfl⟩ : ∃ m' : Nat, m = m' := ⟨m.toNat, by omega⟩
  by_cases hl0 : l.length = 0
  · obtain rfl : l = [] := List.eq_nil_of_length_eq_zero hl0
    refine (cut_none _ k m (by omega) (by omega) w1 hs).mono fun r w3 ⟨hr, hB3⟩ => ?_
    subst hr
    conv => whnf
    repeat (first | refine V.seq ?_ | (refine V.reg ttOk ?_; conv => whnf) | refine V.cnd rfl ?_ | refine V.blk ?_ | (refine V.ext ?_; conv => whnf) | (refine V.rt ?_; conv => whnf) | (refine V.skp ?_; conv => whnf) | (refine V.lab ?_; conv => whnf) | (refine Ar.i64 (by omega) (by omega) ?_; conv => whnf) | (refine Ar.u64 (by omega) (by omega) ?_; conv => whnf) | (refine Ar.u32 (by omega) (by omega) ?_; conv => whnf) | (refine Ar.u8 (by omega) (by omega) ?_; conv => whnf) | refine Br.tt ?_ | refine Br.ff ?_ | refine Br.dec_t (by omega) ?_ | refine Br.dec_f (by omega) ?_ | refine Br.not ?_ | (refine Chk.mk (by omega) ?_; conv => whnf))
    refine (known_fn w3).mono fun r w7 ⟨hr, hB7⟩ => ?_
    subst hr
    conv => whnf
    repeat (first | refine V.seq ?_ | (refine V.reg ttOk ?_; conv => whnf) | refine V.cnd rfl ?_ | refine V.blk ?_ | (refine V.ext ?_; conv => whnf) | (refine V.rt ?_; conv => whnf) | (refine V.skp ?_; conv => whnf) | (refine V.lab ?_; conv => whnf) | (refine Ar.i64 (by omega) (by omega) ?_; conv => whnf) | (refine Ar.u64 (by omega) (by omega) ?_; conv => whnf) | (refine Ar.u32 (by omega) (by omega) ?_; conv => whnf) | (refine Ar.u8 (by omega) (by omega) ?_; conv => whnf) | refine Br.tt ?_ | refine Br.ff ?_ | refine Br.dec_t (by omega) ?_ | refine Br.dec_f (by omega) ?_ | refine Br.not ?_ | (refine Chk.mk (by omega) ?_; conv => whnf))
    exact ⟨rfl, hB3.trans (hB7.mono hB3.size)⟩
  have hk : 0 < k := by omega
  refine (cut_fn _ l k m (by omega) (by omega) (by omega) (by omega) w1 hs).mono fun r w2 ⟨u, hr, hss, hB2⟩ => ?_
  subst hr
  obtain ⟨us, hu, hi⟩ := hss.of
  have hul := hi.len
  obtain ⟨hcl, hcr⟩ := cutB_rows l k m hk (by omega)
  have hule := hu.le
  obtain ⟨au, cu, rfl⟩ := hu.shape
  rw [hul, hcl] at hu hule ⊢
  obtain ⟨b1, o1, rfl, hr1⟩ := hu.addr (by omega)
  have hg1 := hgt_le l.length k
  have hg2 := hgt_ge l.length k hk (by omega)
  have hWl := wholeB_len l k hk (by omega)
  have hg4 : hgt l.length k ≤ hgt l.length k * k := Nat.le_mul_of_pos_right _ hk
  have hs2 := hs.below hB2
  conv => whnf
  repeat (first | refine V.seq ?_ | (refine V.reg ttOk ?_; conv => whnf) | refine V.cnd rfl ?_ | refine V.blk ?_ | (refine V.ext ?_; conv => whnf) | (refine V.rt ?_; conv => whnf) | (refine V.skp ?_; conv => whnf) | (refine V.lab ?_; conv => whnf) | (refine Ar.i64 (by omega) (by omega) ?_; conv => whnf) | (refine Ar.u64 (by omega) (by omega) ?_; conv => whnf) | (refine Ar.u32 (by omega) (by omega) ?_; conv => whnf) | (refine Ar.u8 (by omega) (by omega) ?_; conv => whnf) | refine Br.tt ?_ | refine Br.ff ?_ | refine Br.dec_t (by omega) ?_ | refine Br.dec_f (by omega) ?_ | refine Br.not ?_ | (refine Chk.mk (by omega) ?_; conv => whnf))
  refine (heightR_fn l.length k (by omega) hk (by omega) w2).mono fun r w3 ⟨hw, hr⟩ => ?_
  subst hr; subst hw
  conv => whnf
  repeat (first | refine V.seq ?_ | (refine V.reg ttOk ?_; conv => whnf) | refine V.cnd rfl ?_ | refine V.blk ?_ | (refine V.ext ?_; conv => whnf) | (refine V.rt ?_; conv => whnf) | (refine V.skp ?_; conv => whnf) | (refine V.lab ?_; conv => whnf) | (refine Ar.i64 (by omega) (by omega) ?_; conv => whnf) | (refine Ar.u64 (by omega) (by omega) ?_; conv => whnf) | (refine Ar.u32 (by omega) (by omega) ?_; conv => whnf) | (refine Ar.u8 (by omega) (by omega) ?_; conv => whnf) | refine Br.tt ?_ | refine Br.ff ?_ | refine Br.dec_t (by omega) ?_ | refine Br.dec_f (by omega) ?_ | refine Br.not ?_ | (refine Chk.mk (by omega) ?_; conv => whnf))
  refine V.loop (α := Nat × Value) (fun (r, x) => [(0, .slice a l.length cp), (1, .int .i64 k), (7, .slice (some ⟨b1, o1, none⟩) ((k + m : Nat)) cu), (9, .int .i64 (hgt l.length k)), (10, x), (11, .int .i64 r)])
    (fun (r, x) w' => r ≤ hgt l.length k ∧ w'.ownsRow w3.heap.size 5 1 x (16 * (r * k)) (bv ((wholeB l k).take (16 * (r * k)))) ∧ Below w3.heap.size w3 w')
    (fun (r, _) => hgt l.length k - r) (0, .slice none 0 0) ⟨rfl, rfl, rfl, rfl, rfl, rfl, trivial⟩ ⟨by omega, by simpa using World.ownsRow_nil _ _ _ _, Below.refl _ _⟩ ?_
  rintro ⟨r, x⟩ w4 ⟨hr, ho4, hB4⟩
  dsimp only at *
  repeat (first | refine V.seq ?_ | (refine V.reg ttOk ?_; conv => whnf) | refine V.cnd rfl ?_ | refine V.blk ?_ | (refine V.ext ?_; conv => whnf) | (refine V.rt ?_; conv => whnf) | (refine V.skp ?_; conv => whnf) | (refine V.lab ?_; conv => whnf) | (refine Ar.i64 (by omega) (by omega) ?_; conv => whnf) | (refine Ar.u64 (by omega) (by omega) ?_; conv => whnf) | (refine Ar.u32 (by omega) (by omega) ?_; conv => whnf) | (refine Ar.u8 (by omega) (by omega) ?_; conv => whnf) | refine Br.tt ?_ | refine Br.ff ?_ | refine Br.dec_t (by omega) ?_ | refine Br.dec_f (by omega) ?_ | refine Br.not ?_ | (refine Chk.mk (by omega) ?_; conv => whnf))
  refine Br.dec (fun h => ?_) (fun h => ?_)
  · have hrH : r < hgt l.length k := by omega
    have hrk : r * k + k ≤ hgt l.length k * k := by
      rw [← Nat.succ_mul]; exact Nat.mul_le_mul_right k hrH
    repeat (first | refine V.seq ?_ | (refine V.reg ttOk ?_; conv => whnf) | refine V.cnd rfl ?_ | refine V.blk ?_ | (refine V.ext ?_; conv => whnf) | (refine V.rt ?_; conv => whnf) | (refine V.skp ?_; conv => whnf) | (refine V.lab ?_; conv => whnf) | (refine Ar.i64 (by omega) (by omega) ?_; conv => whnf) | (refine Ar.u64 (by omega) (by omega) ?_; conv => whnf) | (refine Ar.u32 (by omega) (by omega) ?_; conv => whnf) | (refine Ar.u8 (by omega) (by omega) ?_; conv => whnf) | refine Br.tt ?_ | refine Br.ff ?_ | refine Br.dec_t (by omega) ?_ | refine Br.dec_f (by omega) ?_ | refine Br.not ?_ | (refine Chk.mk (by omega) ?_; conv => whnf))
    refine V.loop (α := Nat × Value) (fun (i, x) => [(0, .slice a l.length cp), (1, .int .i64 k), (7, .slice (some ⟨b1, o1, none⟩) ((k + m : Nat)) cu), (9, .int .i64 (hgt l.length k)), (10, x), (11, .int .i64 r), (12, .int .i64 i)])
      (fun (i, x) w' => i ≤ k ∧ w'.ownsRow w3.heap.size 5 1 x (16 * (r * k + i)) (bv ((wholeB l k).take (16 * (r * k + i)))) ∧ Below w3.heap.size w3 w')
      (fun (i, _) => k - i) (0, x) ⟨rfl, rfl, rfl, rfl, rfl, rfl, rfl, trivial⟩ ⟨by omega, ho4, hB4⟩ ?_
    rintro ⟨i, x⟩ w5 ⟨hik, ho5, hB5⟩
    dsimp only at *
    repeat (first | refine V.seq ?_ | (refine V.reg ttOk ?_; conv => whnf) | refine V.cnd rfl ?_ | refine V.blk ?_ | (refine V.ext ?_; conv => whnf) | (refine V.rt ?_; conv => whnf) | (refine V.skp ?_; conv => whnf) | (refine V.lab ?_; conv => whnf) | (refine Ar.i64 (by omega) (by omega) ?_; conv => whnf) | (refine Ar.u64 (by omega) (by omega) ?_; conv => whnf) | (refine Ar.u32 (by omega) (by omega) ?_; conv => whnf) | (refine Ar.u8 (by omega) (by omega) ?_; conv => whnf) | refine Br.tt ?_ | refine Br.ff ?_ | refine Br.dec_t (by omega) ?_ | refine Br.dec_f (by omega) ?_ | refine Br.not ?_ | (refine Chk.mk (by omega) ?_; conv => whnf))
    refine Br.dec (fun h => ?_) (fun h => ?_)
    · have hik' : i < k := by omega
      obtain ⟨y, hy, hsy⟩ := (hi.below hB5).get (cutB_get l k m i hik')
      obtain ⟨b9, o9, e9, hr9⟩ := (hu.below hB5).addr (by omega)
      injection e9 with e9; injection e9 with e9a e9b; subst e9a; subst e9b
      have hylen : (col (wholeB l k) k i (hgt l.length k * k)).length = 16 * hgt l.length k := by
        rw [col_full _ _ _ _ hik', rows_len _ _ _ hik' _ (by omega)]
      obtain ⟨b3, o3, c3, rfl⟩ : ∃ b3 o3 c3, y = .slice (some ⟨b3, o3, none⟩) (16 * hgt l.length k) c3 := by
        obtain ⟨ay, cy, rfl⟩ := hsy.shape
        rw [bv_length, hylen] at hsy
        obtain ⟨b3, o3, rfl, _⟩ := hsy.addr (by omega)
        exact ⟨b3, o3, cy, by rw [bv_length, hylen]⟩
      obtain ⟨qy1, qy2, qy3⟩ := hsy.len
      repeat (first | refine V.seq ?_ | (refine V.reg ttOk ?_; conv => whnf) | refine V.cnd rfl ?_ | refine V.blk ?_ | (refine V.ext ?_; conv => whnf) | (refine V.rt ?_; conv => whnf) | (refine V.skp ?_; conv => whnf) | (refine V.lab ?_; conv => whnf) | (refine Ar.i64 (by omega) (by omega) ?_; conv => whnf) | (refine Ar.u64 (by omega) (by omega) ?_; conv => whnf) | (refine Ar.u32 (by omega) (by omega) ?_; conv => whnf) | (refine Ar.u8 (by omega) (by omega) ?_; conv => whnf) | refine Br.tt ?_ | refine Br.ff ?_ | refine Br.dec_t (by omega) ?_ | refine Br.dec_f (by omega) ?_ | refine Br.not ?_ | (refine Chk.mk (by omega) ?_; conv => whnf))
      intro o' ho'
      conv => whnf
      refine Ld.one ttOk tl22 rfl (hr9.at hy (by omega)) ?_
      conv => whnf
      repeat (first | refine V.seq ?_ | (refine V.reg ttOk ?_; conv => whnf) | refine V.cnd rfl ?_ | refine V.blk ?_ | (refine V.ext ?_; conv => whnf) | (refine V.rt ?_; conv => whnf) | (refine V.skp ?_; conv => whnf) | (refine V.lab ?_; conv => whnf) | (refine Ar.i64 (by omega) (by omega) ?_; conv => whnf) | (refine Ar.u64 (by omega) (by omega) ?_; conv => whnf) | (refine Ar.u32 (by omega) (by omega) ?_; conv => whnf) | (refine Ar.u8 (by omega) (by omega) ?_; conv => whnf) | refine Br.tt ?_ | refine Br.ff ?_ | refine Br.dec_t (by omega) ?_ | refine Br.dec_f (by omega) ?_ | refine Br.not ?_ | (refine Chk.mk (by omega) ?_; conv => whnf))
      intro o4 ho4
      conv => whnf
      refine Ld.one ttOk tl22 rfl (hr9.at hy (by omega)) ?_
      conv => whnf
      repeat (first | refine V.seq ?_ | (refine V.reg ttOk ?_; conv => whnf) | refine V.cnd rfl ?_ | refine V.blk ?_ | (refine V.ext ?_; conv => whnf) | (refine V.rt ?_; conv => whnf) | (refine V.skp ?_; conv => whnf) | (refine V.lab ?_; conv => whnf) | (refine Ar.i64 (by omega) (by omega) ?_; conv => whnf) | (refine Ar.u64 (by omega) (by omega) ?_; conv => whnf) | (refine Ar.u32 (by omega) (by omega) ?_; conv => whnf) | (refine Ar.u8 (by omega) (by omega) ?_; conv => whnf) | refine Br.tt ?_ | refine Br.ff ?_ | refine Br.dec_t (by omega) ?_ | refine Br.dec_f (by omega) ?_ | refine Br.not ?_ | (refine Chk.mk (by omega) ?_; conv => whnf))
      intro o6 n6 c6 q1 q2 q3 q4
      conv => whnf
      repeat (first | refine V.seq ?_ | (refine V.reg ttOk ?_; conv => whnf) | refine V.cnd rfl ?_ | refine V.blk ?_ | (refine V.ext ?_; conv => whnf) | (refine V.rt ?_; conv => whnf) | (refine V.skp ?_; conv => whnf) | (refine V.lab ?_; conv => whnf) | (refine Ar.i64 (by omega) (by omega) ?_; conv => whnf) | (refine Ar.u64 (by omega) (by omega) ?_; conv => whnf) | (refine Ar.u32 (by omega) (by omega) ?_; conv => whnf) | (refine Ar.u8 (by omega) (by omega) ?_; conv => whnf) | refine Br.tt ?_ | refine Br.ff ?_ | refine Br.dec_t (by omega) ?_ | refine Br.dec_f (by omega) ?_ | refine Br.not ?_ | (refine Chk.mk (by omega) ?_; conv => whnf))
      have hch : SlN w5 1 (.slice (some ⟨b3, o6, none⟩) n6 c6) 16 (bv (chunk (wholeB l k) (r * k + i))) := by
        have hd := hsy.drop (k := 16 * r) (by rw [bv_length, hylen]; omega) (o' := o6) (n' := 16 * hgt l.length k - 16 * r) (c' := c6) (fun h => by have := q1 (by omega); omega) rfl (by omega)
        have ht := hd.take (k := 16) (by simp [hylen]; omega) (c' := c6) (by omega) (Nat.le_refl _)
        obtain rfl : n6 = 16 := by omega
        have e := rows_slice (wholeB l k) k i hik' (hgt l.length k) (by omega) r hrH
        rw [← col_full _ _ _ _ hik'] at e
        rw [← e, bv_take, bv_drop]
        have := Sl.toN ht
        rw [List.length_take, List.length_drop, bv_length, hylen, Nat.min_eq_left (by omega)] at this
        exact this
      refine Rv.append' ttOk tl22 tl5 rfl (by decide) ho5 hch (bv_one _) (by simp only [maxLen]; omega) (by omega) hB5.size fun v7 w7 ho7 hg7 hb7 => ?_
      rw [← bv_append, ← take_chunk] at ho7
      conv => whnf
      repeat (first | refine V.seq ?_ | (refine V.reg ttOk ?_; conv => whnf) | refine V.cnd rfl ?_ | refine V.blk ?_ | (refine V.ext ?_; conv => whnf) | (refine V.rt ?_; conv => whnf) | (refine V.skp ?_; conv => whnf) | (refine V.lab ?_; conv => whnf) | (refine Ar.i64 (by omega) (by omega) ?_; conv => whnf) | (refine Ar.u64 (by omega) (by omega) ?_; conv => whnf) | (refine Ar.u32 (by omega) (by omega) ?_; conv => whnf) | (refine Ar.u8 (by omega) (by omega) ?_; conv => whnf) | refine Br.tt ?_ | refine Br.ff ?_ | refine Br.dec_t (by omega) ?_ | refine Br.dec_f (by omega) ?_ | refine Br.not ?_ | (refine Chk.mk (by omega) ?_; conv => whnf))
      exact ⟨(i + 1, v7), ⟨rfl, rfl, rfl, rfl, rfl, rfl, rfl, trivial⟩, ⟨by dsimp only; omega, ho7, hB5.trans ((Below.refl _ w5).grown hg7 hB5.size fun q hq => (ho5.lt q hq).1)⟩, (by first | omega | (dsimp only; omega))⟩
    · obtain rfl : i = k := by omega
      repeat (first | refine V.seq ?_ | (refine V.reg ttOk ?_; conv => whnf) | refine V.cnd rfl ?_ | refine V.blk ?_ | (refine V.ext ?_; conv => whnf) | (refine V.rt ?_; conv => whnf) | (refine V.skp ?_; conv => whnf) | (refine V.lab ?_; conv => whnf) | (refine Ar.i64 (by omega) (by omega) ?_; conv => whnf) | (refine Ar.u64 (by omega) (by omega) ?_; conv => whnf) | (refine Ar.u32 (by omega) (by omega) ?_; conv => whnf) | (refine Ar.u8 (by omega) (by omega) ?_; conv => whnf) | refine Br.tt ?_ | refine Br.ff ?_ | refine Br.dec_t (by omega) ?_ | refine Br.dec_f (by omega) ?_ | refine Br.not ?_ | (refine Chk.mk (by omega) ?_; conv => whnf))
      refine ⟨(r + 1, x), ⟨rfl, rfl, rfl, rfl, rfl, rfl, trivial⟩, ⟨by dsimp only; omega, ?_, hB5⟩, (by first | omega | (dsimp only; omega))⟩
      dsimp only
      rw [Nat.add_mul, Nat.one_mul]
      exact ho5
  obtain rfl : r = hgt l.length k := by omega
  have hWf : (wholeB l k).take (16 * (hgt l.length k * k)) = wholeB l k := List.take_of_length_le (by omega)
  rw [hWf] at ho4
  have hsw := Sl.of_own ho4
  have hs4 := hs2.below hB4
  obtain ⟨gw, cw, rfl⟩ := Joins.ownsRow_form ho4 (by omega)
  obtain ⟨qw1, qw2, qw3⟩ := hsw.len
  repeat (first | refine V.seq ?_ | (refine V.reg ttOk ?_; conv => whnf) | refine V.cnd rfl ?_ | refine V.blk ?_ | (refine V.ext ?_; conv => whnf) | (refine V.rt ?_; conv => whnf) | (refine V.skp ?_; conv => whnf) | (refine V.lab ?_; conv => whnf) | (refine Ar.i64 (by omega) (by omega) ?_; conv => whnf) | (refine Ar.u64 (by omega) (by omega) ?_; conv => whnf) | (refine Ar.u32 (by omega) (by omega) ?_; conv => whnf) | (refine Ar.u8 (by omega) (by omega) ?_; conv => whnf) | refine Br.tt ?_ | refine Br.ff ?_ | refine Br.dec_t (by omega) ?_ | refine Br.dec_f (by omega) ?_ | refine Br.not ?_ | (refine Chk.mk (by omega) ?_; conv => whnf))
  intro n' c' hn' hc'
  conv => whnf
  repeat (first | refine V.seq ?_ | (refine V.reg ttOk ?_; conv => whnf) | refine V.cnd rfl ?_ | refine V.blk ?_ | (refine V.ext ?_; conv => whnf) | (refine V.rt ?_; conv => whnf) | (refine V.skp ?_; conv => whnf) | (refine V.lab ?_; conv => whnf) | (refine Ar.i64 (by omega) (by omega) ?_; conv => whnf) | (refine Ar.u64 (by omega) (by omega) ?_; conv => whnf) | (refine Ar.u32 (by omega) (by omega) ?_; conv => whnf) | (refine Ar.u8 (by omega) (by omega) ?_; conv => whnf) | refine Br.tt ?_ | refine Br.ff ?_ | refine Br.dec_t (by omega) ?_ | refine Br.dec_f (by omega) ?_ | refine Br.not ?_ | (refine Chk.mk (by omega) ?_; conv => whnf))
  obtain rfl : n' = l.length := by omega
  have ht := hsw.take (k := l.length) (by rw [bv_length]; omega) (c' := c') (by omega) (by omega)
  rw [← bv_take] at ht
  have eW : (wholeB l k).take l.length = l := by rw [wholeB, List.take_left' rfl]
  rw [eW] at ht
  refine (same_fn _ _ l l w4 ht hs4).mono fun r w5 ⟨hr, hB5⟩ => ?_
  subst hr
  rw [decide_eq_true rfl]
  have hsw5 := hsw.below hB5
  obtain ⟨b9, o9, e9, hr9⟩ := hsw5.addr (by omega)
  injection e9 with e9; injection e9 with e9a e9b; subst e9a; subst e9b
  conv => whnf
  repeat (first | refine V.seq ?_ | (refine V.reg ttOk ?_; conv => whnf) | refine V.cnd rfl ?_ | refine V.blk ?_ | (refine V.ext ?_; conv => whnf) | (refine V.rt ?_; conv => whnf) | (refine V.skp ?_; conv => whnf) | (refine V.lab ?_; conv => whnf) | (refine Ar.i64 (by omega) (by omega) ?_; conv => whnf) | (refine Ar.u64 (by omega) (by omega) ?_; conv => whnf) | (refine Ar.u32 (by omega) (by omega) ?_; conv => whnf) | (refine Ar.u8 (by omega) (by omega) ?_; conv => whnf) | refine Br.tt ?_ | refine Br.ff ?_ | refine Br.dec_t (by omega) ?_ | refine Br.dec_f (by omega) ?_ | refine Br.not ?_ | (refine Chk.mk (by omega) ?_; conv => whnf))
  refine V.loop (α := Nat) (fun i => [(10, .slice (some ⟨gw, 0, none⟩) (16 * (hgt l.length k * k)) cw), (13, .int .i64 ((l.length + i : Nat) : Int))])
    (fun i w' => l.length + i ≤ 16 * (hgt l.length k * k) ∧ w' = w5)
    (fun i => 16 * (hgt l.length k * k) - i) 0 ⟨rfl, rfl, trivial⟩ ⟨by omega, rfl⟩ ?_
  rintro i w6 ⟨hi6, rfl⟩
  repeat (first | refine V.seq ?_ | (refine V.reg ttOk ?_; conv => whnf) | refine V.cnd rfl ?_ | refine V.blk ?_ | (refine V.ext ?_; conv => whnf) | (refine V.rt ?_; conv => whnf) | (refine V.skp ?_; conv => whnf) | (refine V.lab ?_; conv => whnf) | (refine Ar.i64 (by omega) (by omega) ?_; conv => whnf) | (refine Ar.u64 (by omega) (by omega) ?_; conv => whnf) | (refine Ar.u32 (by omega) (by omega) ?_; conv => whnf) | (refine Ar.u8 (by omega) (by omega) ?_; conv => whnf) | refine Br.tt ?_ | refine Br.ff ?_ | refine Br.dec_t (by omega) ?_ | refine Br.dec_f (by omega) ?_ | refine Br.not ?_ | (refine Chk.mk (by omega) ?_; conv => whnf))
  refine Br.dec (fun h => ?_) (fun h => ?_)
  · have hli : l.length + i < 16 * (hgt l.length k * k) := by omega
    have e0 : (bv (wholeB l k))[l.length + i]? = some (u8 0) := by
      rw [bv, List.getElem?_map, wholeB, List.getElem?_append_right (by omega), List.getElem?_replicate, if_pos (by omega)]
      rfl
    repeat (first | refine V.seq ?_ | (refine V.reg ttOk ?_; conv => whnf) | refine V.cnd rfl ?_ | refine V.blk ?_ | (refine V.ext ?_; conv => whnf) | (refine V.rt ?_; conv => whnf) | (refine V.skp ?_; conv => whnf) | (refine V.lab ?_; conv => whnf) | (refine Ar.i64 (by omega) (by omega) ?_; conv => whnf) | (refine Ar.u64 (by omega) (by omega) ?_; conv => whnf) | (refine Ar.u32 (by omega) (by omega) ?_; conv => whnf) | (refine Ar.u8 (by omega) (by omega) ?_; conv => whnf) | refine Br.tt ?_ | refine Br.ff ?_ | refine Br.dec_t (by omega) ?_ | refine Br.dec_f (by omega) ?_ | refine Br.not ?_ | (refine Chk.mk (by omega) ?_; conv => whnf))
    intro o' ho'
    conv => whnf
    refine Ld.one ttOk tl5 rfl (hr9.at e0 (by omega)) ?_
    conv => whnf
    repeat (first | refine V.seq ?_ | (refine V.reg ttOk ?_; conv => whnf) | refine V.cnd rfl ?_ | refine V.blk ?_ | (refine V.ext ?_; conv => whnf) | (refine V.rt ?_; conv => whnf) | (refine V.skp ?_; conv => whnf) | (refine V.lab ?_; conv => whnf) | (refine Ar.i64 (by omega) (by omega) ?_; conv => whnf) | (refine Ar.u64 (by omega) (by omega) ?_; conv => whnf) | (refine Ar.u32 (by omega) (by omega) ?_; conv => whnf) | (refine Ar.u8 (by omega) (by omega) ?_; conv => whnf) | refine Br.tt ?_ | refine Br.ff ?_ | refine Br.dec_t (by omega) ?_ | refine Br.dec_f (by omega) ?_ | refine Br.not ?_ | (refine Chk.mk (by omega) ?_; conv => whnf))
    exact ⟨i + 1, ⟨rfl, vint (by push_cast; omega), trivial⟩, ⟨by omega, rfl⟩, (by first | omega | (dsimp only; omega))⟩
  · repeat (first | refine V.seq ?_ | (refine V.reg ttOk ?_; conv => whnf) | refine V.cnd rfl ?_ | refine V.blk ?_ | (refine V.ext ?_; conv => whnf) | (refine V.rt ?_; conv => whnf) | (refine V.skp ?_; conv => whnf) | (refine V.lab ?_; conv => whnf) | (refine Ar.i64 (by omega) (by omega) ?_; conv => whnf) | (refine Ar.u64 (by omega) (by omega) ?_; conv => whnf) | (refine Ar.u32 (by omega) (by omega) ?_; conv => whnf) | (refine Ar.u8 (by omega) (by omega) ?_; conv => whnf) | refine Br.tt ?_ | refine Br.ff ?_ | refine Br.dec_t (by omega) ?_ | refine Br.dec_f (by omega) ?_ | refine Br.not ?_ | (refine Chk.mk (by omega) ?_; conv => whnf))
    refine (known_fn w6).mono fun r w7 ⟨hr, hB7⟩ => ?_
    subst hr
    conv => whnf
    repeat (first | refine V.seq ?_ | (refine V.reg ttOk ?_; conv => whnf) | refine V.cnd rfl ?_ | refine V.blk ?_ | (refine V.ext ?_; conv => whnf) | (refine V.rt ?_; conv => whnf) | (refine V.skp ?_; conv => whnf) | (refine V.lab ?_; conv => whnf) | (refine Ar.i64 (by omega) (by omega) ?_; conv => whnf) | (refine Ar.u64 (by omega) (by omega) ?_; conv => whnf) | (refine Ar.u32 (by omega) (by omega) ?_; conv => whnf) | (refine Ar.u8 (by omega) (by omega) ?_; conv => whnf) | refine Br.tt ?_ | refine Br.ff ?_ | refine Br.dec_t (by omega) ?_ | refine Br.dec_f (by omega) ?_ | refine Br.not ?_ | (refine Chk.mk (by omega) ?_; conv => whnf))
    have b3 := hB2.trans (hB4.mono hB2.size)
    have b4 := b3.trans (hB5.mono b3.size)
    exact ⟨rfl, b4.trans (hB7.mono b4.size)⟩

end Go.Proofs.Ytlldgodjfpgbcaa
