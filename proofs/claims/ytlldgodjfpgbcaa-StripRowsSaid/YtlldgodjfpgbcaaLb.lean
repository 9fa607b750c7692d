/- StripCuts. Nothing is claimed here. -/
import Derived.Test.YtlldgodjfpgbcaaLa
namespace Go.Proofs.Ytlldgodjfpgbcaa
open Go.RowKit
set_option linter.unusedVariables false
set_option maxRecDepth 100000

theorem SS.same {w : World} {v : Value} (L : List (List UInt8)) (h : SS w v L) : ∃ a c, v = .slice a L.length c := by
  obtain ⟨us, h1, h2⟩ := h.of
  obtain ⟨a, c, rfl⟩ := h1.shape
  exact ⟨a, c, by rw [h2.len]⟩

theorem stripCuts_fn (v : Value) (l : List UInt8) (k m : Int) (w : World) (hs : Sl w v (bv l)) :
    Fn Try.prog 3 #[v, .int .i64 k, .int .i64 m] w fun r w' => r = .bool true ∧ Below w.heap.size w w' := by
  have hle := hs.le
  obtain ⟨a, cp, rfl⟩ := hs.shape
  simp only [bv_length] at *
  refine Fn.mk Try.func3 rfl (by kernel_rfl) Try.ntmps3 rfl (by rw [Try.results3]) ?_
  by_cases h0 : 3000 < l.length
  · repeat (first | refine V.seq ?_ | (refine V.reg ttOk ?_; conv => whnf) | refine V.cnd rfl ?_ | refine V.blk ?_ | (refine V.ext ?_; conv => whnf) | (refine V.rt ?_; conv => whnf) | (refine V.skp ?_; conv => whnf) | (refine V.lab ?_; conv => whnf) | (refine Ar.i64 (by omega) (by omega) ?_; conv => whnf) | (refine Ar.u64 (by omega) (by omega) ?_; conv => whnf) | (refine Ar.u32 (by omega) (by omega) ?_; conv => whnf) | (refine Ar.u8 (by omega) (by omega) ?_; conv => whnf) | refine Br.tt ?_ | refine Br.ff ?_ | refine Br.dec_t (by omega) ?_ | refine Br.dec_f (by omega) ?_ | refine Br.not ?_ | (refine Chk.mk (by omega) ?_; conv => whnf))
    exact ⟨rfl, Below.refl _ _⟩
  repeat (first | refine V.seq ?_ | (refine V.reg ttOk ?_; conv => whnf) | refine V.cnd rfl ?_ | refine V.blk ?_ | (refine V.ext ?_; conv => whnf) | (refine V.rt ?_; conv => whnf) | (refine V.skp ?_; conv => whnf) | (refine V.lab ?_; conv => whnf) | (refine Ar.i64 (by omega) (by omega) ?_; conv => whnf) | (refine Ar.u64 (by omega) (by omega) ?_; conv => whnf) | (refine Ar.u32 (by omega) (by omega) ?_; conv => whnf) | (refine Ar.u8 (by omega) (by omega) ?_; conv => whnf) | refine Br.tt ?_ | refine Br.ff ?_ | refine Br.dec_t (by omega) ?_ | refine Br.dec_f (by omega) ?_ | refine Br.not ?_ | (refine Chk.mk (by omega) ?_; conv => whnf))
  refine (small_fn k m w).mono fun r w1 ⟨hr, hw⟩ => ?_
  subst hr; subst hw
  conv => whnf
  by_cases hsm : k < 20 ∧ m < 20 ∧ -20 < k ∧ -20 < m
  case neg =>
    rw [decide_eq_false hsm]
    repeat (first | refine V.seq ?_ | (refine V.reg ttOk ?_; conv => whnf) | refine V.cnd rfl ?_ | refine V.blk ?_ | (refine V.ext ?_; conv => whnf) | (refine V.rt ?_; conv => whnf) | (refine V.skp ?_; conv => whnf) | (refine V.lab ?_; conv => whnf) | (refine Ar.i64 (by omega) (by omega) ?_; conv => whnf) | (refine Ar.u64 (by omega) (by omega) ?_; conv => whnf) | (refine Ar.u32 (by omega) (by omega) ?_; conv => whnf) | (refine Ar.u8 (by omega) (by omega) ?_; conv => whnf) | refine Br.tt ?_ | refine Br.ff ?_ | refine Br.dec_t (by omega) ?_ | refine Br.dec_f (by omega) ?_ | refine Br.not ?_ | (refine Chk.mk (by omega) ?_; conv => whnf))
    exact ⟨rfl, Below.refl _ _⟩
  rw [decide_eq_true hsm]
  repeat (first | refine V.seq ?_ | (refine V.reg ttOk ?_; conv => whnf) | refine V.cnd rfl ?_ | refine V.blk ?_ | (refine V.ext ?_; conv => whnf) | (refine V.rt ?_; conv => whnf) | (refine V.skp ?_; conv => whnf) | (refine V.lab ?_; conv => whnf) | (refine Ar.i64 (by omega) (by omega) ?_; conv => whnf) | (refine Ar.u64 (by omega) (by omega) ?_; conv => whnf) | (refine Ar.u32 (by omega) (by omega) ?_; conv => whnf) | (refine Ar.u8 (by omega) (by omega) ?_; conv => whnf) | refine Br.tt ?_ | refine Br.ff ?_ | refine Br.dec_t (by omega) ?_ | refine Br.dec_f (by omega) ?_ | refine Br.not ?_ | (refine Chk.mk (by omega) ?_; conv => whnf))
  refine (roomy_fn _ l (by omega) w1 hs).mono fun r w2 ⟨⟨g, c, hr⟩, hrs, hB2⟩ => ?_
  subst hr
  have hlt := hrs.len
  have hs2 := hs.below hB2
  conv => whnf
  repeat (first | refine V.seq ?_ | (refine V.reg ttOk ?_; conv => whnf) | refine V.cnd rfl ?_ | refine V.blk ?_ | (refine V.ext ?_; conv => whnf) | (refine V.rt ?_; conv => whnf) | (refine V.skp ?_; conv => whnf) | (refine V.lab ?_; conv => whnf) | (refine Ar.i64 (by omega) (by omega) ?_; conv => whnf) | (refine Ar.u64 (by omega) (by omega) ?_; conv => whnf) | (refine Ar.u32 (by omega) (by omega) ?_; conv => whnf) | (refine Ar.u8 (by omega) (by omega) ?_; conv => whnf) | refine Br.tt ?_ | refine Br.ff ?_ | refine Br.dec_t (by omega) ?_ | refine Br.dec_f (by omega) ?_ | refine Br.not ?_ | (refine Chk.mk (by omega) ?_; conv => whnf))
  intro n' c' hn' hc'
  conv => whnf
  repeat (first | refine V.seq ?_ | (refine V.reg ttOk ?_; conv => whnf) | refine V.cnd rfl ?_ | refine V.blk ?_ | (refine V.ext ?_; conv => whnf) | (refine V.rt ?_; conv => whnf) | (refine V.skp ?_; conv => whnf) | (refine V.lab ?_; conv => whnf) | (refine Ar.i64 (by omega) (by omega) ?_; conv => whnf) | (refine Ar.u64 (by omega) (by omega) ?_; conv => whnf) | (refine Ar.u32 (by omega) (by omega) ?_; conv => whnf) | (refine Ar.u8 (by omega) (by omega) ?_; conv => whnf) | refine Br.tt ?_ | refine Br.ff ?_ | refine Br.dec_t (by omega) ?_ | refine Br.dec_f (by omega) ?_ | refine Br.not ?_ | (refine Chk.mk (by omega) ?_; conv => whnf))
  obtain rfl : n' = l.length := by omega
  have ht := hrs.take (k := l.length) (by simp) (c' := c') (by omega) (by omega)
  rw [← bv_take, List.take_left' rfl] at ht
  by_cases hbad : k < 1 ∨ m < 0 ∨ 14 < k ∨ 14 - k < m
  · refine (cut_bad _ l k m hbad (by omega) (by omega) w2 ht).mono fun r w3 ⟨hr, hw⟩ => ?_
    subst hr; subst hw
    conv => whnf
    repeat (first | refine V.seq ?_ | (refine V.reg ttOk ?_; conv => whnf) | refine V.cnd rfl ?_ | refine V.blk ?_ | (refine V.ext ?_; conv => whnf) | (refine V.rt ?_; conv => whnf) | (refine V.skp ?_; conv => whnf) | (refine V.lab ?_; conv => whnf) | (refine Ar.i64 (by omega) (by omega) ?_; conv => whnf) | (refine Ar.u64 (by omega) (by omega) ?_; conv => whnf) | (refine Ar.u32 (by omega) (by omega) ?_; conv => whnf) | (refine Ar.u8 (by omega) (by omega) ?_; conv => whnf) | refine Br.tt ?_ | refine Br.ff ?_ | refine Br.dec_t (by omega) ?_ | refine Br.dec_f (by omega) ?_ | refine Br.not ?_ | (refine Chk.mk (by omega) ?_; conv => whnf))
    refine (cutR_bad _ l k m hbad (by omega) (by omega) w3 hs2).mono fun r w4 ⟨hr, hw⟩ => ?_
    subst hr; subst hw
    conv => whnf
    repeat (first | refine V.seq ?_ | (refine V.reg ttOk ?_; conv => whnf) | refine V.cnd rfl ?_ | refine V.blk ?_ | (refine V.ext ?_; conv => whnf) | (refine V.rt ?_; conv => whnf) | (refine V.skp ?_; conv => whnf) | (refine V.lab ?_; conv => whnf) | (refine Ar.i64 (by omega) (by omega) ?_; conv => whnf) | (refine Ar.u64 (by omega) (by omega) ?_; conv => whnf) | (refine Ar.u32 (by omega) (by omega) ?_; conv => whnf) | (refine Ar.u8 (by omega) (by omega) ?_; conv => whnf) | refine Br.tt ?_ | refine Br.ff ?_ | refine Br.dec_t (by omega) ?_ | refine Br.dec_f (by omega) ?_ | refine Br.not ?_ | (refine Chk.mk (by omega) ?_; conv => whnf))
    refine (rows_fn _ _ [] [] w4 (SS.nil _) (SS.nil _)).mono fun r w5 ⟨hr, hB5⟩ => ?_
    subst hr
    conv => whnf
    repeat (first | refine V.seq ?_ | (refine V.reg ttOk ?_; conv => whnf) | refine V.cnd rfl ?_ | refine V.blk ?_ | (refine V.ext ?_; conv => whnf) | (refine V.rt ?_; conv => whnf) | (refine V.skp ?_; conv => whnf) | (refine V.lab ?_; conv => whnf) | (refine Ar.i64 (by omega) (by omega) ?_; conv => whnf) | (refine Ar.u64 (by omega) (by omega) ?_; conv => whnf) | (refine Ar.u32 (by omega) (by omega) ?_; conv => whnf) | (refine Ar.u8 (by omega) (by omega) ?_; conv => whnf) | refine Br.tt ?_ | refine Br.ff ?_ | refine Br.dec_t (by omega) ?_ | refine Br.dec_f (by omega) ?_ | refine Br.not ?_ | (refine Chk.mk (by omega) ?_; conv => whnf))
    refine (stands_fn _ _ l (by omega) w5 (hrs.below hB5) (hs2.below hB5)).mono fun r w6 ⟨hr, hB6⟩ => ?_
    subst hr
    conv => whnf
    repeat (first | refine V.seq ?_ | (refine V.reg ttOk ?_; conv => whnf) | refine V.cnd rfl ?_ | refine V.blk ?_ | (refine V.ext ?_; conv => whnf) | (refine V.rt ?_; conv => whnf) | (refine V.skp ?_; conv => whnf) | (refine V.lab ?_; conv => whnf) | (refine Ar.i64 (by omega) (by omega) ?_; conv => whnf) | (refine Ar.u64 (by omega) (by omega) ?_; conv => whnf) | (refine Ar.u32 (by omega) (by omega) ?_; conv => whnf) | (refine Ar.u8 (by omega) (by omega) ?_; conv => whnf) | refine Br.tt ?_ | refine Br.ff ?_ | refine Br.dec_t (by omega) ?_ | refine Br.dec_f (by omega) ?_ | refine Br.not ?_ | (refine Chk.mk (by omega) ?_; conv => whnf))
    refine (known_fn w6).mono fun r w7 ⟨hr, hB7⟩ => ?_
    subst hr
    conv => whnf
    repeat (first | refine V.seq ?_ | (refine V.reg ttOk ?_; conv => whnf) | refine V.cnd rfl ?_ | refine V.blk ?_ | (refine V.ext ?_; conv => whnf) | (refine V.rt ?_; conv => whnf) | (refine V.skp ?_; conv => whnf) | (refine V.lab ?_; conv => whnf) | (refine Ar.i64 (by omega) (by omega) ?_; conv => whnf) | (refine Ar.u64 (by omega) (by omega) ?_; conv => whnf) | (refine Ar.u32 (by omega) (by omega) ?_; conv => whnf) | (refine Ar.u8 (by omega) (by omega) ?_; conv => whnf) | refine Br.tt ?_ | refine Br.ff ?_ | refine Br.dec_t (by omega) ?_ | refine Br.dec_f (by omega) ?_ | refine Br.not ?_ | (refine Chk.mk (by omega) ?_; conv => whnf))
    have b5 := hB2.trans (hB5.mono hB2.size)
    have b6 := b5.trans (hB6.mono b5.size)
    exact ⟨rfl, b6.trans (hB7.mono b6.size)⟩
  obtain ⟨k, rfl⟩ : ∃ k' : Nat, k = k' := ⟨k.toNat, by omega⟩
  obtain ⟨m, rfl⟩ : ∃ m' : Nat, m = m' := ⟨m.toNat, by omega⟩
  by_cases hl0 : l.length = 0
  · obtain rfl : l = [] := List.eq_nil_of_length_eq_zero hl0
    refine (cut_none _ k m (by omega) (by omega) w2 ht).mono fun r w3 ⟨hr, hB3⟩ => ?_
    subst hr
    have hs3 := hs2.below hB3
    have hrs3 := hrs.below hB3
    conv => whnf
    repeat (first | refine V.seq ?_ | (refine V.reg ttOk ?_; conv => whnf) | refine V.cnd rfl ?_ | refine V.blk ?_ | (refine V.ext ?_; conv => whnf) | (refine V.rt ?_; conv => whnf) | (refine V.skp ?_; conv => whnf) | (refine V.lab ?_; conv => whnf) | (refine Ar.i64 (by omega) (by omega) ?_; conv => whnf) | (refine Ar.u64 (by omega) (by omega) ?_; conv => whnf) | (refine Ar.u32 (by omega) (by omega) ?_; conv => whnf) | (refine Ar.u8 (by omega) (by omega) ?_; conv => whnf) | refine Br.tt ?_ | refine Br.ff ?_ | refine Br.dec_t (by omega) ?_ | refine Br.dec_f (by omega) ?_ | refine Br.not ?_ | (refine Chk.mk (by omega) ?_; conv => whnf))
    refine (cutR_none _ k m (by omega) (by omega) w3 hs3).mono fun r w4 ⟨hr, hB4⟩ => ?_
    subst hr
    conv => whnf
    repeat (first | refine V.seq ?_ | (refine V.reg ttOk ?_; conv => whnf) | refine V.cnd rfl ?_ | refine V.blk ?_ | (refine V.ext ?_; conv => whnf) | (refine V.rt ?_; conv => whnf) | (refine V.skp ?_; conv => whnf) | (refine V.lab ?_; conv => whnf) | (refine Ar.i64 (by omega) (by omega) ?_; conv => whnf) | (refine Ar.u64 (by omega) (by omega) ?_; conv => whnf) | (refine Ar.u32 (by omega) (by omega) ?_; conv => whnf) | (refine Ar.u8 (by omega) (by omega) ?_; conv => whnf) | refine Br.tt ?_ | refine Br.ff ?_ | refine Br.dec_t (by omega) ?_ | refine Br.dec_f (by omega) ?_ | refine Br.not ?_ | (refine Chk.mk (by omega) ?_; conv => whnf))
    refine (rows_fn _ _ [] [] w4 (SS.nil _) (SS.nil _)).mono fun r w5 ⟨hr, hB5⟩ => ?_
    subst hr
    conv => whnf
    repeat (first | refine V.seq ?_ | (refine V.reg ttOk ?_; conv => whnf) | refine V.cnd rfl ?_ | refine V.blk ?_ | (refine V.ext ?_; conv => whnf) | (refine V.rt ?_; conv => whnf) | (refine V.skp ?_; conv => whnf) | (refine V.lab ?_; conv => whnf) | (refine Ar.i64 (by omega) (by omega) ?_; conv => whnf) | (refine Ar.u64 (by omega) (by omega) ?_; conv => whnf) | (refine Ar.u32 (by omega) (by omega) ?_; conv => whnf) | (refine Ar.u8 (by omega) (by omega) ?_; conv => whnf) | refine Br.tt ?_ | refine Br.ff ?_ | refine Br.dec_t (by omega) ?_ | refine Br.dec_f (by omega) ?_ | refine Br.not ?_ | (refine Chk.mk (by omega) ?_; conv => whnf))
    refine (stands_fn _ _ [] (by omega) w5 ((hrs3.below hB4).below hB5) ((hs3.below hB4).below hB5)).mono fun r w6 ⟨hr, hB6⟩ => ?_
    subst hr
    conv => whnf
    repeat (first | refine V.seq ?_ | (refine V.reg ttOk ?_; conv => whnf) | refine V.cnd rfl ?_ | refine V.blk ?_ | (refine V.ext ?_; conv => whnf) | (refine V.rt ?_; conv => whnf) | (refine V.skp ?_; conv => whnf) | (refine V.lab ?_; conv => whnf) | (refine Ar.i64 (by omega) (by omega) ?_; conv => whnf) | (refine Ar.u64 (by omega) (by omega) ?_; conv => whnf) | (refine Ar.u32 (by omega) (by omega) ?_; conv => whnf) | (refine Ar.u8 (by omega) (by omega) ?_; conv => whnf) | refine Br.tt ?_ | refine Br.ff ?_ | refine Br.dec_t (by omega) ?_ | refine Br.dec_f (by omega) ?_ | refine Br.not ?_ | (refine Chk.mk (by omega) ?_; conv => whnf))
    refine (known_fn w6).mono fun r w7 ⟨hr, hB7⟩ => ?_
    subst hr
    conv => whnf
    repeat (first | refine V.seq ?_ | (refine V.reg ttOk ?_; conv => whnf) | refine V.cnd rfl ?_ | refine V.blk ?_ | (refine V.ext ?_; conv => whnf) | (refine V.rt ?_; conv => whnf) | (refine V.skp ?_; conv => whnf) | (refine V.lab ?_; conv => whnf) | (refine Ar.i64 (by omega) (by omega) ?_; conv => whnf) | (refine Ar.u64 (by omega) (by omega) ?_; conv => whnf) | (refine Ar.u32 (by omega) (by omega) ?_; conv => whnf) | (refine Ar.u8 (by omega) (by omega) ?_; conv => whnf) | refine Br.tt ?_ | refine Br.ff ?_ | refine Br.dec_t (by omega) ?_ | refine Br.dec_f (by omega) ?_ | refine Br.not ?_ | (refine Chk.mk (by omega) ?_; conv => whnf))
    have b3 := hB2.trans (hB3.mono hB2.size)
    have b4 := b3.trans (hB4.mono b3.size)
    have b5 := b4.trans (hB5.mono b4.size)
    have b6 := b5.trans (hB6.mono b5.size)
    exact ⟨rfl, b6.trans (hB7.mono b6.size)⟩
  · refine (cut_fn _ l k m (by omega) (by omega) (by omega) (by omega) w2 ht).mono fun r w3 ⟨u3, hr, hss3, hB3⟩ => ?_
    subst hr
    have hs3 := hs2.below hB3
    have hrs3 := hrs.below hB3
    conv => whnf
    repeat (first | refine V.seq ?_ | (refine V.reg ttOk ?_; conv => whnf) | refine V.cnd rfl ?_ | refine V.blk ?_ | (refine V.ext ?_; conv => whnf) | (refine V.rt ?_; conv => whnf) | (refine V.skp ?_; conv => whnf) | (refine V.lab ?_; conv => whnf) | (refine Ar.i64 (by omega) (by omega) ?_; conv => whnf) | (refine Ar.u64 (by omega) (by omega) ?_; conv => whnf) | (refine Ar.u32 (by omega) (by omega) ?_; conv => whnf) | (refine Ar.u8 (by omega) (by omega) ?_; conv => whnf) | refine Br.tt ?_ | refine Br.ff ?_ | refine Br.dec_t (by omega) ?_ | refine Br.dec_f (by omega) ?_ | refine Br.not ?_ | (refine Chk.mk (by omega) ?_; conv => whnf))
    refine (cutR_fn _ l k m (by omega) (by omega) (by omega) (by omega) w3 hs3).mono fun r w4 ⟨u4, hr, hss4, hB4⟩ => ?_
    subst hr
    conv => whnf
    repeat (first | refine V.seq ?_ | (refine V.reg ttOk ?_; conv => whnf) | refine V.cnd rfl ?_ | refine V.blk ?_ | (refine V.ext ?_; conv => whnf) | (refine V.rt ?_; conv => whnf) | (refine V.skp ?_; conv => whnf) | (refine V.lab ?_; conv => whnf) | (refine Ar.i64 (by omega) (by omega) ?_; conv => whnf) | (refine Ar.u64 (by omega) (by omega) ?_; conv => whnf) | (refine Ar.u32 (by omega) (by omega) ?_; conv => whnf) | (refine Ar.u8 (by omega) (by omega) ?_; conv => whnf) | refine Br.tt ?_ | refine Br.ff ?_ | refine Br.dec_t (by omega) ?_ | refine Br.dec_f (by omega) ?_ | refine Br.not ?_ | (refine Chk.mk (by omega) ?_; conv => whnf))
    refine (rows_fn _ _ _ _ w4 (hss3.below hB4) hss4).mono fun r w5 ⟨hr, hB5⟩ => ?_
    subst hr
    rw [decide_eq_true rfl]
    conv => whnf
    repeat (first | refine V.seq ?_ | (refine V.reg ttOk ?_; conv => whnf) | refine V.cnd rfl ?_ | refine V.blk ?_ | (refine V.ext ?_; conv => whnf) | (refine V.rt ?_; conv => whnf) | (refine V.skp ?_; conv => whnf) | (refine V.lab ?_; conv => whnf) | (refine Ar.i64 (by omega) (by omega) ?_; conv => whnf) | (refine Ar.u64 (by omega) (by omega) ?_; conv => whnf) | (refine Ar.u32 (by omega) (by omega) ?_; conv => whnf) | (refine Ar.u8 (by omega) (by omega) ?_; conv => whnf) | refine Br.tt ?_ | refine Br.ff ?_ | refine Br.dec_t (by omega) ?_ | refine Br.dec_f (by omega) ?_ | refine Br.not ?_ | (refine Chk.mk (by omega) ?_; conv => whnf))
    refine (stands_fn _ _ l (by omega) w5 ((hrs3.below hB4).below hB5) ((hs3.below hB4).below hB5)).mono fun r w6 ⟨hr, hB6⟩ => ?_
    subst hr
    conv => whnf
    repeat (first | refine V.seq ?_ | (refine V.reg ttOk ?_; conv => whnf) | refine V.cnd rfl ?_ | refine V.blk ?_ | (refine V.ext ?_; conv => whnf) | (refine V.rt ?_; conv => whnf) | (refine V.skp ?_; conv => whnf) | (refine V.lab ?_; conv => whnf) | (refine Ar.i64 (by omega) (by omega) ?_; conv => whnf) | (refine Ar.u64 (by omega) (by omega) ?_; conv => whnf) | (refine Ar.u32 (by omega) (by omega) ?_; conv => whnf) | (refine Ar.u8 (by omega) (by omega) ?_; conv => whnf) | refine Br.tt ?_ | refine Br.ff ?_ | refine Br.dec_t (by omega) ?_ | refine Br.dec_f (by omega) ?_ | refine Br.not ?_ | (refine Chk.mk (by omega) ?_; conv => whnf))
    refine (known_fn w6).mono fun r w7 ⟨hr, hB7⟩ => ?_
    subst hr
    conv => whnf
    repeat (first | refine V.seq ?_ | (refine V.reg ttOk ?_; conv => whnf) | refine V.cnd rfl ?_ | refine V.blk ?_ | (refine V.ext ?_; conv => whnf) | (refine V.rt ?_; conv => whnf) | (refine V.skp ?_; conv => whnf) | (refine V.lab ?_; conv => whnf) | (refine Ar.i64 (by omega) (by omega) ?_; conv => whnf) | (refine Ar.u64 (by omega) (by omega) ?_; conv => whnf) | (refine Ar.u32 (by omega) (by omega) ?_; conv => whnf) | (refine Ar.u8 (by omega) (by omega) ?_; conv => whnf) | refine Br.tt ?_ | refine Br.ff ?_ | refine Br.dec_t (by omega) ?_ | refine Br.dec_f (by omega) ?_ | refine Br.not ?_ | (refine Chk.mk (by omega) ?_; conv => whnf))
    have b3 := hB2.trans (hB3.mono hB2.size)
    have b4 := b3.trans (hB4.mono b3.size)
    have b5 := b4.trans (hB5.mono b4.size)
    have b6 := b5.trans (hB6.mono b5.size)
    exact ⟨rfl, b6.trans (hB7.mono b6.size)⟩

end Go.Proofs.Ytlldgodjfpgbcaa
