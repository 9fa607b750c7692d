/- garnerref14.Cut; what is refused. Nothing is claimed here. -/
import Derived.Test.YtlldgodjfpgbcaaKa
namespace Go.Proofs.Ytlldgodjfpgbcaa
open Go.RowKit
set_option linter.unusedVariables false
set_option linter.unusedSimpArgs false
set_option maxRecDepth 100000

theorem cut_bad (vb : Value) (b : List UInt8) (k m : Int) (h : k < 1 ∨ m < 0 ∨ 14 < k ∨ 14 - k < m) (hk : -1000 < k ∧ k < 1000) (hm : -1000 < m ∧ m < 1000) (w : World) (hs : Sl w vb (bv b)) :
    Fn Try.prog 11 #[vb, .int .i64 k, .int .i64 m] w fun r w' => r = .tuple #[.slice none 0 0, .int .i64 1] ∧ w' = w := by
  refine Fn.mk Try.func11 rfl (by kernel_rfl) Try.ntmps11 rfl (by rw [Try.results11]) ?_
  refine RunR ?_
  refine (code_bad k m h hk hm w).mono fun r w1 ⟨hr, hw⟩ => ?_
  subst hr; subst hw
  conv => whnf
  refine RunR ?_
  exact ⟨rfl, rfl⟩
theorem cut_none (vb : Value) (k m : Nat) (h1 : 1 ≤ k) (h2 : k + m ≤ 14) (w : World) (hs : Sl w vb (bv [])) :
    Fn Try.prog 11 #[vb, .int .i64 k, .int .i64 m] w fun r w' => r = .tuple #[.slice none 0 0, .int .i64 1] ∧ Below w.heap.size w w' := by
  obtain ⟨a, cp, rfl⟩ := hs.shape
  refine Fn.mk Try.func11 rfl (by kernel_rfl) Try.ntmps11 rfl (by rw [Try.results11]) ?_
  refine RunR ?_
  refine (code_fn k m h1 h2 w).mono fun r w1 ⟨u, hr, hm, hW1⟩ => ?_
  subst hr
  conv => whnf
  refine RunR ?_
  exact ⟨rfl, hW1⟩
theorem cutR_bad (vb : Value) (b : List UInt8) (k m : Int) (h : k < 1 ∨ m < 0 ∨ 14 < k ∨ 14 - k < m) (hk : -1000 < k ∧ k < 1000) (hm : -1000 < m ∧ m < 1000) (w : World) (hs : Sl w vb (bv b)) :
    Fn Try.prog 12 #[vb, .int .i64 k, .int .i64 m] w fun r w' => r = .tuple #[.slice none 0 0, .int .i64 1] ∧ w' = w := by
  refine Fn.mk Try.func12 rfl (by kernel_rfl) Try.ntmps12 rfl (by rw [Try.results12]) ?_
  refine RunR ?_
  refine (codeR_bad k m h hk hm w).mono fun r w1 ⟨hr, hw⟩ => ?_
  subst hr; subst hw
  conv => whnf
  refine RunR ?_
  exact ⟨rfl, rfl⟩
theorem cutR_none (vb : Value) (k m : Nat) (h1 : 1 ≤ k) (h2 : k + m ≤ 14) (w : World) (hs : Sl w vb (bv [])) :
    Fn Try.prog 12 #[vb, .int .i64 k, .int .i64 m] w fun r w' => r = .tuple #[.slice none 0 0, .int .i64 1] ∧ Below w.heap.size w w' := by
  obtain ⟨a, cp, rfl⟩ := hs.shape
  refine Fn.mk Try.func12 rfl (by kernel_rfl) Try.ntmps12 rfl (by rw [Try.results12]) ?_
  refine RunR ?_
  refine (codeR_fn k m h1 h2 w).mono fun r w1 ⟨u, hr, hm, hW1⟩ => ?_
  subst hr
  conv => whnf
  refine RunR ?_
  exact ⟨rfl, hW1⟩

theorem cutR_fn (vb : Value) (b : List UInt8) (k m : Nat) (h1 : 1 ≤ k) (h2 : k + m ≤ 14) (hb0 : 0 < b.length) (hb : b.length ≤ 3000) (w : World) (hs : Sl w vb (bv b)) :
    Fn Try.prog 12 #[vb, .int .i64 k, .int .i64 m] w fun r w' => ∃ u, r = .tuple #[u, .int .i64 0] ∧ SS w' u (cutB b k m) ∧ Below w.heap.size w w' := by
  have hg1 := hgt_le b.length k
  have hg2 := hgt_ge b.length k h1 hb0
  have hg3 := hgt_pos b.length k h1 hb0
  have hg4 : hgt b.length k ≤ hgt b.length k * k := Nat.le_mul_of_pos_right _ h1
  have hWl := wholeB_len b k h1 hb0
  have hDl := cutD_len b k h1 hb0
  unfold cutB
  unfold cutD at *
  generalize hN : hgt b.length k * k = N at *
  have hNi : ((hgt b.length k : Nat) : Int) * (k : Int) = N := by rw [← hN]; simp
  obtain ⟨a, cp, rfl⟩ := hs.shape
  simp only [bv_length] at *
  refine Fn.mk Try.func12 rfl (by kernel_rfl) Try.ntmps12 rfl (by rw [Try.results12]) ?_
  refine RunR ?_
  refine (codeR_fn k m h1 h2 w).mono fun r w1 ⟨u, hr, hm, hW1⟩ => ?_
  subst hr
  conv => whnf
  refine RunR ?_
  have hs1 := hs.below hW1
  refine (heightR_fn b.length k (by omega) h1 (by omega) w1).mono fun r w2 ⟨hw, hr⟩ => ?_
  subst hr; subst hw
  conv => whnf
  refine RunR ?_
  refine Rv.build (vs := []) ttOk tl22 tl5 rfl rfl (by simp) (by decide) (by decide) fun w3 ho3 hg3 _ => ?_
  conv => whnf
  refine Rv.append' ttOk tl22 tl5 rfl (by decide) ho3 (Sl.toN (hs1.below (below_of_grown0 hg3 (Nat.le_refl _)))) (bv_one _) (by simp only [maxLen, bv_length]; omega) (by simp; omega) hg3.size fun v4 w4 ho4 hg4 hb4 => ?_
  obtain ⟨qa, qc, rfl⟩ := (Sl.of_own ho4).shape
  conv => whnf
  refine RunR ?_
  refine Rv.appendZ (kn := .i64) (m := N * 16 - b.length) ttOk tl22 tl5 (by kernel_rfl) rfl rfl ho4 (by omega) (by simp only [maxLen, bv_length]; omega) (by simp; omega) (Nat.le_trans hg3.size hg4.size) fun v5 w5 ho5 hg5 hb5 => ?_
  have hB5 : Below w2.heap.size w2 w5 := ((below_of_grown0 hg3 (Nat.le_refl _)).trans ((Below.refl _ w3).grown hg4 hg3.size fun q hq => (ho3.lt q hq).1)).trans ((Below.refl _ w4).grown hg5 (Nat.le_trans hg3.size hg4.size) fun q hq => (ho4.lt q hq).1)
  have eW : bv b ++ List.replicate (N * 16 - b.length) (Value.int .u8 0) = bv (wholeB b k) := by
    simp [wholeB, bv, u8, hN]
  have eN : 0 + (bv b).length + (N * 16 - b.length) = N * 16 := by rw [bv_length]; omega
  have e0 : List.flatMap cellsL [] ++ bv b = bv b := rfl
  rw [e0, eW, eN] at ho5
  obtain ⟨gw, cw, rfl⟩ := Joins.ownsRow_form ho5 (by omega)
  have hltw := (ho5.lt gw rfl).2
  conv => whnf
  refine RunR ?_
  refine Rv.make ttOk k k tl25 tl22 rfl rfl rfl (Nat.le_refl _) (by omega) (by simp only [maxLen]; omega) fun w6 ho6 hg6 => ?_
  have hWn : N * 16 = (wholeB b k).length := hWl.symm
  conv => whnf
  refine RunR ?_
  refine V.loop (α := Nat × List Value) (fun (t, us) => [(1, .int .i64 k), (2, .int .i64 m), (10, .int .i64 (hgt b.length k)), (11, .slice (some ⟨gw, 0, none⟩) (N * 16) cw), (12, .slice (some ⟨w5.heap.size, 0, none⟩) k k), (13, .int .i64 t)])
    (fun (t, us) w' => t ≤ N ∧ w'.ownsRow w5.heap.size 22 1 (.slice (some ⟨w5.heap.size, 0, none⟩) k k) k us ∧ InsO w' w5.heap.size 5 us (colsB (wholeB b k) k t) ∧ Below w5.heap.size w5 w')
    (fun (t, _) => N - t) (0, List.replicate k (.slice none 0 0)) ⟨rfl, rfl, rfl, rfl, rfl, rfl, trivial⟩ ⟨by omega, ho6, ?_, below_of_grown0 hg6 (Nat.le_refl _)⟩ ?_
  · refine ⟨by simp [colsB], fun i u l q1 q2 => ?_, fun i j u u' _ q1 q2 => ?_⟩
    · have e1 := List.eq_of_mem_replicate (List.mem_of_getElem? q1)
      have e2 := List.mem_of_getElem? q2
      simp [colsB, col] at e2
      subst e1
      obtain ⟨_, rfl⟩ := e2
      exact World.ownsRow_nil _ _ _ _
    · have e1 := List.eq_of_mem_replicate (List.mem_of_getElem? q1)
      subst e1; exact .inl rfl
  rintro ⟨t, us⟩ w7 ⟨ht, ho7, hi7, hB7⟩
  dsimp only at *
  refine RunR ?_
  refine Br.dec (fun h => ?_) (fun h => ?_)
  · have htN : t < N := by omega
    have htk := Nat.mod_lt t h1
    have hwh := own_below ho5 hB7 (Nat.le_refl _)
    have hwr := Sl.of_own hwh
    obtain ⟨qq1, qq2, qq3⟩ := hwr.len
    obtain ⟨uj, huj, hoj⟩ := hi7.get (colsB_get (wholeB b k) k t (t % k) htk)
    have hcl := col_le (wholeB b k) k (t % k) t
    refine RunR ?_
    refine V.plan ttOk [(0, true), (1, true), (2, true), (3, true), (4, true), (5, true), (6, true), (7, true), (8, true), (10, true), (11, true), (12, true), (13, true), (14, true), (15, true), (16, true), (9, false), (17, false), (18, true), (19, false)] mixed (by kernel_rfl) ?_
    conv => whnf
    refine RunR ?_
    refine Rem.at t k rfl rfl h1 ?_
    conv => whnf
    refine RunR ?_
    refine Rem.at t k rfl rfl h1 ?_
    conv => whnf
    refine RunR ?_
    intro p1 hp1
    obtain rfl : p1 = t % k := by omega
    conv => whnf
    refine RunR ?_
    intro o' n' c' q1 q2 q3 q4
    conv => whnf
    refine RunR ?_
    refine Ld.own ttOk tl22 rfl ho7.drew (by omega) huj ?_
    conv => whnf
    refine RunR ?_
    have hch : SlN w7.drew 1 (.slice (some ⟨gw, o', none⟩) n' c') 16 (bv (chunk (wholeB b k) t)) := by
      have hd := hwr.drop (k := 16 * t) (by rw [bv_length, hWl]; omega) (o' := o') (n' := N * 16 - 16 * t) (c' := c') (fun h => by have := q1 (by omega); omega) rfl (by omega)
      have ht := hd.take (k := 16) (by simp [hWl]; omega) (c' := c') (by omega) (Nat.le_refl _)
      obtain rfl : n' = 16 := by omega
      rw [chunk_bv]
      have := Sl.toN ht
      rw [List.length_take, List.length_drop, bv_length, hWl, Nat.min_eq_left (by omega)] at this
      exact ⟨this.1, this.2⟩
    refine Rv.append' ttOk tl22 tl5 rfl (by decide) hoj.drew hch (bv_one _) (by simp only [maxLen]; omega) (by omega) hB7.size fun v8 w8 ho8 hg8 hb8 => ?_
    have hcb := colsB_succ (wholeB b k) k t h1
    have hch16 := chunk_len (wholeB b k) t (by omega)
    have hi8 : InsO w8 w5.heap.size 5 (us.set (t % k) v8) (colsB (wholeB b k) k (t + 1)) := by
      rw [hcb]
      refine hi7.drew.set huj hg8 ?_ (hb8.imp id .inl)
      rw [List.length_append, hch16, bv_append]
      exact ho8
    have hout8 : w8.ownsRow w5.heap.size 22 1 (.slice (some ⟨w5.heap.size, 0, none⟩) k k) k us := by
      refine ho7.drew.kept hg8 (.inr fun h => ?_)
      rcases hi7.apart ho7 (by decide) uj (List.mem_of_getElem? huj) with q | q
      · rw [q] at h; cases h
      · exact q h.symm
    have hB8 : Below w5.heap.size w5 w8 := hB7.drew.trans ((Below.refl _ w7.drew).grown hg8 hB7.size fun q hq => (hoj.lt q hq).1)
    obtain ⟨qa, qc, rfl⟩ := (Sl.of_own ho8).shape
    conv => whnf
    refine RunR ?_
    intro p2 hp2
    obtain rfl : p2 = t % k := by omega
    conv => whnf
    refine St.own tl22 rfl hout8 htk rfl rfl ttOk fun w9 ho9 hg9 => ?_
    conv => whnf
    refine RunR ?_
    refine ⟨(t + 1, us.set (t % k) _), ⟨rfl, rfl, rfl, rfl, rfl, rfl, trivial⟩, ⟨by dsimp only; omega, ho9, ?_, ?_⟩, (by first | omega | (dsimp only; omega))⟩
    · exact hi8.grown hg9 (hi8.apart hout8 (by decide))
    · exact hB8.trans (below_own_store hg9 hB8.size (Nat.le_refl _))
  · obtain rfl : t = N := by omega
    have hB7' : Below w2.heap.size w2 w7 := hB5.trans (hB7.mono hB5.size)
    have hsl := Sl.of_own ho7
    refine RunR ?_
    refine (sumsR_fn (.slice (some ⟨w5.heap.size, 0, none⟩) k k) (colsB (wholeB b k) k t) m (16 * hgt b.length k) (by rw [colsB_len]; exact h1) (by rw [colsB_len]; exact h2) (by omega) hDl (by omega) w7 ⟨us, hsl, hi7.ins⟩).mono fun r w8 ⟨u2, hr, hm8, hW8⟩ => ?_
    subst hr
    rw [rsumsB_eq] at hm8
    conv => whnf
    refine RunR ?_
    obtain ⟨us2, hmo, hmi⟩ := hm8.of
    have hms : (sumsB (16 * hgt b.length k) m (colsB (wholeB b k) k t)).length = m := by simp [sumsB]
    rw [hms] at hmo
    have ho8 := own_below ho7 hW8 (Nat.le_refl _)
    have hi8 := hi7.below hW8
    refine Rv.append' ttOk tl25 tl22 rfl (by decide) ho8 (SlN.of_own hmo) hmi.one (by simp only [maxLen]; omega) (by omega) (Nat.le_trans hB7.size hW8.size) fun v9 w9 ho9 hg9 hb9 => ?_
    conv => whnf
    refine RunR ?_
    refine ⟨v9, rfl, ⟨us ++ us2, Sl.of_own ho9, ?_⟩, ?_⟩
    · refine Ins.append (hi8.grown hg9 (hi8.apart ho8 (by decide))).ins (hmi.grown hg9 ?_).ins
      exact hmi.apart ho8 (by decide)
    · have h9 := hW1.trans ((hB7'.trans (hW8.mono hB7'.size)).mono hW1.size)
      refine h9.trans ((Below.refl _ w8).grown hg9 h9.size fun q hq => ?_)
      have := (ho8.lt q hq).1
      have := hW1.size
      have := hB5.size
      omega

end Go.Proofs.Ytlldgodjfpgbcaa
