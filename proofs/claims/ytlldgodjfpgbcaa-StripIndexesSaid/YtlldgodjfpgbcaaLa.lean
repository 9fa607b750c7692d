/- roomy, stands, known; StripCuts. Nothing is claimed here. -/
import Derived.Test.YtlldgodjfpgbcaaL
namespace Go.Proofs.Ytlldgodjfpgbcaa
open Go.RowKit
set_option linter.unusedVariables false
set_option linter.unusedSimpArgs false
set_option maxRecDepth 100000

theorem roomy_fn (v : Value) (l : List UInt8) (hl : l.length ≤ 100000) (w : World) (hs : Sl w v (bv l)) :
    Fn Try.prog 10 #[v] w fun r w' => (∃ g c, r = .slice (some ⟨g, 0, none⟩) (l.length + 1) c) ∧ Sl w' r (bv (l ++ [171])) ∧ Below w.heap.size w w' := by
  obtain ⟨a, cp, rfl⟩ := hs.shape
  simp only [bv_length] at *
  refine Fn.mk Try.func10 rfl (by kernel_rfl) Try.ntmps10 rfl (by rw [Try.results10]) ?_
  refine RunR ?_
  refine Rv.build (vs := []) ttOk tl22 tl5 rfl rfl (by simp) (by decide) (by decide) fun w1 ho1 hg1 _ => ?_
  conv => whnf
  refine Rv.append' ttOk tl22 tl5 rfl (by decide) ho1 (Sl.toN (hs.below (below_of_grown0 hg1 (Nat.le_refl _)))) (bv_one _) (by simp only [maxLen, bv_length]; omega) (by simp; omega) hg1.size fun v2 w2 ho2 hg2 hb2 => ?_
  have hB1 : Below w.heap.size w w1 := below_of_grown0 hg1 (Nat.le_refl _)
  have hB2 : Below w.heap.size w w2 := hB1.trans ((Below.refl _ w1).grown hg2 hg1.size fun q hq => (ho1.lt q hq).1)
  obtain ⟨qa, qc, rfl⟩ := (Sl.of_own ho2).shape
  conv => whnf
  refine Rv.build ttOk tl22 tl5 rfl rfl (by simp [cellsL]) (by decide) (by decide) fun w3 ho3 hg3 _ => ?_
  have hB3 := hB2.trans (below_of_grown0 hg3 hB2.size)
  conv => whnf
  refine Rv.append' ttOk tl22 tl5 rfl (by decide) (own_keep0 ho2 hg3) (SlN.of_own ho3) (by simp [cellsL, Value.oneCell']) (by simp only [maxLen, bv_length]; omega) (by simp; omega) hB3.size fun v4 w4 ho4 hg4 hb4 => ?_
  have hB4 : Below w.heap.size w w4 := hB3.trans ((Below.refl _ w3).grown hg4 hB3.size fun q hq => (ho2.lt q hq).1)
  obtain ⟨qa4, qc4, rfl⟩ := (Sl.of_own ho4).shape
  conv => whnf
  refine Rv.build ttOk tl22 tl5 rfl rfl (by simp [cellsL]) (by decide) (by decide) fun w5 ho5 hg5 _ => ?_
  have hB5 := hB4.trans (below_of_grown0 hg5 hB4.size)
  conv => whnf
  refine Rv.append' ttOk tl22 tl5 rfl (by decide) (own_keep0 ho4 hg5) (SlN.of_own ho5) (by simp [cellsL, Value.oneCell']) (by simp only [maxLen, bv_length]; omega) (by simp; omega) hB5.size fun v6 w6 ho6 hg6 hb6 => ?_
  have hB6 : Below w.heap.size w w6 := hB5.trans ((Below.refl _ w5).grown hg6 hB5.size fun q hq => (ho4.lt q hq).1)
  have e6 : List.flatMap cellsL [] ++ bv l ++ List.flatMap cellsL [Value.int .u8 171] ++ List.flatMap cellsL [Value.int .u8 171] = bv (l ++ [171, 171]) := by simp [bv, cellsL, u8]
  have en : 0 + (bv l).length + 1 + 1 = l.length + 2 := by simp
  rw [e6, en] at ho6
  obtain ⟨g, c, rfl⟩ := Joins.ownsRow_form ho6 (by omega)
  have hsl := Sl.of_own ho6
  obtain ⟨q1, q2, q3⟩ := hsl.len
  conv => whnf
  refine RunR ?_
  intro n' c' hn' hc'
  conv => whnf
  refine RunR ?_
  obtain rfl : n' = l.length + 1 := by omega
  refine ⟨⟨g, c', rfl⟩, ?_, hB6⟩
  have := hsl.take (k := l.length + 1) (by simp) (c' := c') (by omega) (by omega)
  rw [← bv_take] at this
  have e : (l ++ [171, 171]).take (l.length + 1) = l ++ [171] := by
    rw [List.take_append, List.take_of_length_le (by omega)]
    simp
  rwa [e] at this

theorem stands_fn (v1 v2 : Value) (l : List UInt8) (hl : l.length ≤ 100000) (w : World) (h1 : Sl w v1 (bv (l ++ [171]))) (h2 : Sl w v2 (bv l)) :
    Fn Try.prog 14 #[v1, v2] w fun r w' => r = .bool true ∧ Below w.heap.size w w' := by
  obtain ⟨a, cp, rfl⟩ := h1.shape
  obtain ⟨a2, cp2, rfl⟩ := h2.shape
  have e0 : (bv (l ++ [171])).length = l.length + 1 := by simp
  rw [e0] at h1 ⊢
  rw [bv_length] at h2 ⊢
  obtain ⟨b1, o1, rfl, hr1⟩ := h1.addr (by omega)
  obtain ⟨q1, q2, q3⟩ := h1.len
  refine Fn.mk Try.func14 rfl (by kernel_rfl) Try.ntmps14 rfl (by rw [Try.results14]) ?_
  refine RunR ?_
  intro n' c' hn' hc'
  conv => whnf
  refine RunR ?_
  obtain rfl : n' = l.length := by omega
  have ht := h1.take (k := l.length) (by simp) (c' := c') (by omega) (by omega)
  rw [← bv_take, List.take_left' rfl] at ht
  refine (same_fn _ _ l l w ht h2).mono fun r w1 ⟨hr, hW⟩ => ?_
  subst hr
  rw [decide_eq_true rfl]
  conv => whnf
  refine RunR ?_
  intro o' ho'
  conv => whnf
  refine RunR ?_
  have hc1 : w1.cell? ⟨b1, o', none⟩ = some (u8 171) := (hW.cell (p := ⟨b1, o', none⟩) (hr1.lt (by simp [bv]))).trans (hr1.at (i := l.length) (by simp [bv]) (by omega))
  refine Ld.one ttOk tl5 rfl hc1 ?_
  conv => whnf
  refine RunR ?_
  exact ⟨rfl, hW⟩

theorem cutB_rows (b : List UInt8) (k m : Nat) (hk : 0 < k) (hb : 0 < b.length) : (cutB b k m).length = k + m ∧ ∀ l ∈ cutB b k m, l.length = 16 * hgt b.length k := by
  refine ⟨by simp [cutB, cutD, colsB, sumsB], fun l hl => ?_⟩
  rcases List.mem_append.1 hl with h | h
  · exact cutD_len b k hk hb l h
  · obtain ⟨i, _, rfl⟩ := List.mem_map.1 h
    exact blendB_len _ _ _ (cutD_len b k hk hb)

theorem known_fn (w : World) : Fn Try.prog 15 #[] w fun r w' => r = .bool true ∧ Below w.heap.size w w' := by
  refine Fn.mk Try.func15 rfl (by kernel_rfl) Try.ntmps15 rfl (by rw [Try.results15]) ?_
  refine RunR ?_
  refine Rv.make ttOk 40 40 tl22 tl5 rfl rfl rfl (Nat.le_refl _) (by omega) (by simp only [maxLen]; omega) fun w1 ho hg => ?_
  have hB1 : Below w.heap.size w w1 := below_of_grown0 hg (Nat.le_refl _)
  have e : List.replicate 40 (Value.int .u8 0) = bv (List.replicate 40 0) := by simp [bv, u8]
  rw [e] at ho
  conv => whnf
  refine (cut_fn _ (List.replicate 40 0) 2 1 (by decide) (by decide) (by decide) (by decide) w1 (Sl.of_own ho)).mono fun r w2 ⟨u, hr, hss, hW⟩ => ?_
  subst hr
  obtain ⟨hlen, hrow⟩ := cutB_rows (List.replicate 40 0) 2 1 (by decide) (by decide)
  have hh : hgt (List.replicate 40 (0 : UInt8)).length 2 = 2 := by decide
  rw [hh] at hrow
  obtain ⟨us, hs, hi⟩ := hss.of
  have hul := hi.len
  have hle := hs.le
  obtain ⟨a, c, rfl⟩ := hs.shape
  rw [hul, hlen] at hs ⊢
  obtain ⟨b1, o1, rfl, hr1⟩ := hs.addr (by omega)
  obtain ⟨x0, hx0, hs0⟩ := hi.get (List.getElem?_eq_getElem (by omega : 0 < (cutB (List.replicate 40 0) 2 1).length))
  obtain ⟨x2, hx2, hs2⟩ := hi.get (List.getElem?_eq_getElem (by omega : 2 < (cutB (List.replicate 40 0) 2 1).length))
  have l0 := hrow _ (List.getElem_mem (by omega : 0 < (cutB (List.replicate 40 0) 2 1).length))
  have l2 := hrow _ (List.getElem_mem (by omega : 2 < (cutB (List.replicate 40 0) 2 1).length))
  obtain ⟨a0, c0, rfl⟩ := hs0.shape
  obtain ⟨a2, c2, rfl⟩ := hs2.shape
  rw [bv_length, l0] at hx0
  rw [bv_length, l2] at hx2
  conv => whnf
  refine RunR ?_
  intro o' ho'
  conv => whnf
  refine RunR ?_
  refine Ld.one ttOk tl22 rfl (hr1.at hx0 (by omega)) ?_
  conv => whnf
  refine RunR ?_
  intro o2 ho2
  conv => whnf
  refine RunR ?_
  refine Ld.one ttOk tl22 rfl (hr1.at hx2 (by omega)) ?_
  conv => whnf
  refine RunR ?_
  exact ⟨rfl, hB1.trans (hW.mono hB1.size)⟩

end Go.Proofs.Ytlldgodjfpgbcaa
