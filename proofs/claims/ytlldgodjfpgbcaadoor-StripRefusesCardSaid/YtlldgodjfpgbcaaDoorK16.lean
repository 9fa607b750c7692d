/- strip.Cut. garnerref14.Cut; what is refused. Nothing is claimed here. -/
import Derived.Test.YtlldgodjfpgbcaaDoorK15
import Derived.Test.YtlldgodjfpgbcaaDoorK01
namespace Go.Proofs.YtlldgodjfpgbcaaDoor
open Go.RowKit
set_option linter.unusedVariables false
set_option linter.unusedSimpArgs false
set_option maxRecDepth 100000

theorem chunk_bv (W : List UInt8) (t : Nat) : bv (chunk W t) = ((bv W).drop (16 * t)).take 16 := by simp [chunk, bv]

theorem InsO.append {w : World} {base base' : Nat} {e : TypeId} {us us' : List Value} {ls ls' : List (List UInt8)} (h : InsO w base e us ls) (h' : InsO w base' e us' ls') (hb : base ≤ base') (hx : ∀ u ∈ us, ∀ u' ∈ us', u.ownBlock = none ∨ u.ownBlock ≠ u'.ownBlock) : InsO w base e (us ++ us') (ls ++ ls') := by
  have hl := h.len
  refine ⟨by simp [h.len, h'.len], fun i u l h1 h2 => ?_, fun i j a b hij h1 h2 => ?_⟩
  · rw [List.getElem?_append] at h1 h2
    split at h1
    · rw [if_pos (by omega)] at h2
      exact h.own i u l h1 h2
    · rw [if_neg (by omega)] at h2
      rw [hl] at h1
      exact own_mono (h'.own _ u l h1 h2) hb
  · rw [List.getElem?_append] at h1 h2
    split at h1 <;> split at h2
    · exact h.sep i j a b hij h1 h2
    · exact hx a (List.mem_of_getElem? h1) b (List.mem_of_getElem? h2)
    · rcases hx b (List.mem_of_getElem? h2) a (List.mem_of_getElem? h1) with h3 | h3
      · cases ha : a.ownBlock with
        | none => exact .inl rfl
        | some q => exact .inr (by rw [h3]; simp)
      · exact .inr fun e => h3 e.symm
    · exact h'.sep _ _ a b (by omega) h1 h2

theorem cutM_fn (vb : Value) (b : List UInt8) (k m : Nat) (h1 : 1 ≤ k) (h2 : k + m ≤ 14) (hb0 : 0 < b.length) (hb : b.length ≤ 3000) (w : World) (hs : Sl w vb (bv b)) :
    Fn Tryd.prog 11 #[vb, .int .i64 k, .int .i64 m] w fun r w' => ∃ u, r = .tuple #[u, .int .i64 0] ∧ Mat w' w.heap.size u (cutB b k m) ∧ Below w.heap.size w w' := by
  have hg1 := hgt_le b.length k
  have hg2 := hgt_ge b.length k h1 hb0
  have hg3 := hgt_pos b.length k h1 hb0
  have hg4 : hgt b.length k ≤ hgt b.length k * k := Nat.le_mul_of_pos_right _ h1
  have hWl := wholeB_len b k h1 hb0
  have hDl := cutD_len b k h1 hb0
  unfold cutB
  unfold cutD at *
  generalize hN : hgt b.length k * k = N at *
  obtain ⟨a, cp, rfl⟩ := hs.shape
  simp only [bv_length] at *
  refine Fn.mk Tryd.func11 rfl (by kernel_rfl) Tryd.ntmps11 rfl (by rw [Tryd.results11]) ?_
  refine RunR ?_
  refine (code_fn k m h1 h2 w).mono fun r w1 ⟨u, hr, hm, hW1⟩ => ?_
  subst hr
  conv => whnf
  refine RunR ?_
  have hs1 := hs.below hW1
  refine (height_fn b.length k (by omega) h1 (by omega) w1).mono fun r w2 ⟨hw, hr⟩ => ?_
  subst hr; subst hw
  conv => whnf
  refine RunR ?_
  have hNi : ((hgt b.length k : Nat) : Int) * (k : Int) = N := by rw [← hN]; simp
  refine Rv.make ttOk (N * 16) (N * 16) tl22 tl5 rfl (by omega) (by omega) (Nat.le_refl _) (by omega) (by simp only [maxLen]; omega) fun w3 ho3 hg3 => ?_
  conv => whnf
  refine RunR ?_
  refine Rv.copy ttOk tl22 tl5 ho3 (hs1.below (below_of_grown0 hg3 (Nat.le_refl _))) (bv_one _) (by simp; omega) fun w4 ho4 hg4 => ?_
  have eW : bv b ++ (List.replicate (N * 16) (Value.int .u8 0)).drop (bv b).length = bv (wholeB b k) := by
    simp [wholeB, bv, u8, hN]
  rw [eW] at ho4
  have hlt3 : w2.heap.size < w4.heap.size := (ho4.lt w2.heap.size rfl).2
  have hB4 : Below w2.heap.size w2 w4 := (below_of_grown0 hg3 (Nat.le_refl _)).trans (below_own_store hg4 hg3.size (Nat.le_refl _))
  conv => whnf
  refine RunR ?_
  refine Rv.make ttOk k k tl29 tl22 rfl rfl rfl (Nat.le_refl _) (by omega) (by simp only [maxLen]; omega) fun w5 ho5 hg5 => ?_
  have hWn : N * 16 = (wholeB b k).length := hWl.symm
  conv => whnf
  refine RunR ?_
  refine V.loop (α := Nat × List Value) (fun (t, us) => [(1, .int .i64 k), (2, .int .i64 m), (10, .slice (some ⟨w2.heap.size, 0, none⟩) (N * 16) (N * 16)), (11, .slice (some ⟨w4.heap.size, 0, none⟩) k k), (12, .int .i64 ((16 * t : Nat) : Int))])
    (fun (t, us) w' => t ≤ N ∧ w'.ownsRow w4.heap.size 22 1 (.slice (some ⟨w4.heap.size, 0, none⟩) k k) k us ∧ InsO w' w4.heap.size 5 us (colsB (wholeB b k) k t) ∧ Below w4.heap.size w4 w')
    (fun (t, _) => N - t) (0, List.replicate k (.slice none 0 0)) ⟨rfl, rfl, rfl, rfl, rfl, trivial⟩ ⟨by omega, ho5, ?_, below_of_grown0 hg5 (Nat.le_refl _)⟩ ?_
  · refine ⟨by simp [colsB], fun i u l q1 q2 => ?_, fun i j u u' _ q1 q2 => ?_⟩
    · have e1 := List.eq_of_mem_replicate (List.mem_of_getElem? q1)
      have e2 := List.mem_of_getElem? q2
      simp [colsB, col] at e2
      subst e1
      obtain ⟨_, rfl⟩ := e2
      exact World.ownsRow_nil _ _ _ _
    · have e1 := List.eq_of_mem_replicate (List.mem_of_getElem? q1)
      subst e1; exact .inl rfl
  rintro ⟨t, us⟩ w6 ⟨ht, ho6, hi6, hB6⟩
  dsimp only at *
  refine RunR ?_
  refine Br.dec (fun h => ?_) (fun h => ?_)
  · have htN : t < N := by omega
    have htk := Nat.mod_lt t h1
    have hwh := own_below ho4 hB6 (Nat.le_refl _)
    have hwr := Sl.of_own hwh
    obtain ⟨uj, huj, hoj⟩ := hi6.get (colsB_get (wholeB b k) k t (t % k) htk)
    have hcl := col_le (wholeB b k) k (t % k) t
    refine RunR ?_
    refine Quo.at (16 * t) 16 rfl rfl (by decide) ?_
    refine Ar.mi _ rfl (by omega) ?_
    rw [Nat.mul_div_cancel_left t (by decide)]
    conv => whnf
    refine RunR ?_
    refine Rem.at t k rfl rfl h1 ?_
    conv => whnf
    refine RunR ?_
    refine V.plan ttOk [(0, true), (1, true), (2, true), (3, true), (4, true), (6, true), (7, true), (8, true), (9, true), (10, true), (5, false), (11, false), (12, true), (13, false)] mixed (by kernel_rfl) ?_
    conv => whnf
    refine RunR ?_
    intro p1 hp1
    obtain rfl : p1 = t % k := by omega
    conv => whnf
    refine RunR ?_
    intro o' n' c' q1 q2 q3 q4
    conv => whnf
    refine Ld.own ttOk tl22 rfl ho6.drew (by omega) huj ?_
    conv => whnf
    refine RunR ?_
    have hch : SlN w6.drew 1 (.slice (some ⟨w2.heap.size, o', none⟩) n' c') 16 (bv (chunk (wholeB b k) t)) := by
      have hd := hwr.drop (k := 16 * t) (by rw [bv_length, hWl]; omega) (o' := o') (n' := N * 16 - 16 * t) (c' := c') (fun h => by have := q1 (by omega); omega) rfl (by omega)
      have ht := hd.take (k := 16) (by simp [hWl]; omega) (c' := c') (by omega) (Nat.le_refl _)
      obtain rfl : n' = 16 := by omega
      rw [chunk_bv]
      have := Sl.toN ht
      rw [List.length_take, List.length_drop, bv_length, hWl, Nat.min_eq_left (by omega)] at this
      exact ⟨this.1, this.2⟩
    refine Rv.append' ttOk tl22 tl5 rfl (by decide) hoj.drew hch (bv_one _) (by simp only [maxLen]; omega) (by omega) hB6.size fun v7 w7 ho7 hg7 hb7 => ?_
    have hcb := colsB_succ (wholeB b k) k t h1
    have hch16 := chunk_len (wholeB b k) t (by omega)
    have hi7 : InsO w7 w4.heap.size 5 (us.set (t % k) v7) (colsB (wholeB b k) k (t + 1)) := by
      rw [hcb]
      refine hi6.drew.set huj hg7 ?_ (hb7.imp id .inl)
      rw [List.length_append, hch16, bv_append]
      exact ho7
    have hout7 : w7.ownsRow w4.heap.size 22 1 (.slice (some ⟨w4.heap.size, 0, none⟩) k k) k us := by
      refine ho6.drew.kept hg7 (.inr fun h => ?_)
      rcases hi6.apart ho6 (by decide) uj (List.mem_of_getElem? huj) with q | q
      · rw [q] at h; cases h
      · exact q h.symm
    have hB7 : Below w4.heap.size w4 w7 := hB6.drew.trans ((Below.refl _ w6.drew).grown hg7 hB6.size fun q hq => (hoj.lt q hq).1)
    obtain ⟨qa, qc, rfl⟩ := (Sl.of_own ho7).shape
    conv => whnf
    refine RunR ?_
    intro p2 hp2
    obtain rfl : p2 = t % k := by omega
    conv => whnf
    refine St.own tl22 rfl hout7 htk rfl rfl ttOk fun w8 ho8 hg8 => ?_
    conv => whnf
    refine RunR ?_
    refine ⟨(t + 1, us.set (t % k) _), ⟨rfl, rfl, rfl, rfl, vint (by push_cast; omega), trivial⟩, ⟨by dsimp only; omega, ho8, ?_, ?_⟩, (by first | omega | (dsimp only; omega))⟩
    · exact hi7.grown hg8 (hi7.apart hout7 (by decide))
    · exact hB7.trans (below_own_store hg8 hB7.size (Nat.le_refl _))
  · obtain rfl : t = N := by omega
    have hB6' : Below w2.heap.size w2 w6 := hB4.trans (hB6.mono (Nat.le_of_lt hlt3))
    have hsl := Sl.of_own ho6
    refine RunR ?_
    refine (sums_fn (.slice (some ⟨w4.heap.size, 0, none⟩) k k) (colsB (wholeB b k) k t) m (16 * hgt b.length k) (by rw [colsB_len]; exact h1) (by rw [colsB_len]; exact h2) (by omega) hDl (by omega) w6 ⟨us, hsl, hi6.ins⟩).mono fun r w7 ⟨u2, hr, hm7, hW7⟩ => ?_
    subst hr
    conv => whnf
    refine RunR ?_
    obtain ⟨us2, hmo, hmi⟩ := hm7.of
    have hms : (sumsB (16 * hgt b.length k) m (colsB (wholeB b k) k t)).length = m := by simp [sumsB]
    rw [hms] at hmo
    have ho7 := own_below ho6 hW7 (Nat.le_refl _)
    have hi7 := hi6.below hW7
    refine Rv.append' ttOk tl29 tl22 rfl (by decide) ho7 (SlN.of_own hmo) hmi.one (by simp only [maxLen]; omega) (by omega) (Nat.le_trans hB6.size hW7.size) fun v8 w8 ho8 hg8 hb8 => ?_
    conv => whnf
    refine RunR ?_
    have hln : (colsB (wholeB b k) k t ++ sumsB (16 * hgt b.length k) m (colsB (wholeB b k) k t)).length = k + m := by rw [List.length_append, hms, colsB_len]
    have hb0' : w.heap.size ≤ w4.heap.size := by
      have a1 := hW1.size
      have a2 := hB4.size
      omega
    refine ⟨v8, rfl, ⟨us ++ us2, by rw [hln]; exact own_mono ho8 hb0', ?_⟩, ?_⟩
    · have g1 := hi7.grown hg8 (hi7.apart ho7 (by decide))
      have g2 := hmi.grown hg8 (hmi.apart ho7 (by decide))
      have g3 := g1.append g2 hB6.size fun x hx y hy => by
        obtain ⟨i, hi⟩ := List.getElem?_of_mem hx
        obtain ⟨j, hj⟩ := List.getElem?_of_mem hy
        cases hq : x.ownBlock with
        | none => exact .inl rfl
        | some q =>
          refine .inr fun e => ?_
          have a1 := (hi6.lt hi q hq).2
          have a2 := (hmi.lt hj q e.symm).1
          omega
      exact ⟨g3.len, fun i u l a b => own_mono (g3.own i u l a b) hb0', g3.sep⟩
    · have h9 := hW1.trans ((hB6'.trans (hW7.mono hB6'.size)).mono hW1.size)
      refine h9.trans ((Below.refl _ w7).grown hg8 h9.size fun q hq => ?_)
      have := (ho7.lt q hq).1
      have := hW1.size
      omega

theorem cut_fn (vb : Value) (b : List UInt8) (k m : Nat) (h1 : 1 ≤ k) (h2 : k + m ≤ 14) (hb0 : 0 < b.length) (hb : b.length ≤ 3000) (w : World) (hs : Sl w vb (bv b)) :
    Fn Tryd.prog 11 #[vb, .int .i64 k, .int .i64 m] w fun r w' => ∃ u, r = .tuple #[u, .int .i64 0] ∧ SS w' u (cutB b k m) ∧ Below w.heap.size w w' :=
  (cutM_fn vb b k m h1 h2 hb0 hb w hs).mono fun r w' ⟨u, hr, hm, hW⟩ => ⟨u, hr, hm.ss, hW⟩
end Go.Proofs.YtlldgodjfpgbcaaDoor
namespace Go.Proofs.YtlldgodjfpgbcaaDoor
open Go.RowKit
set_option linter.unusedVariables false
set_option linter.unusedSimpArgs false
set_option maxRecDepth 100000

theorem cut_bad (vb : Value) (b : List UInt8) (k m : Int) (h : k < 1 ∨ m < 0 ∨ 14 < k ∨ 14 - k < m) (hk : -1000 < k ∧ k < 1000) (hm : -1000 < m ∧ m < 1000) (w : World) (hs : Sl w vb (bv b)) :
    Fn Tryd.prog 11 #[vb, .int .i64 k, .int .i64 m] w fun r w' => r = .tuple #[.slice none 0 0, .int .i64 1] ∧ w' = w := by
  refine Fn.mk Tryd.func11 rfl (by kernel_rfl) Tryd.ntmps11 rfl (by rw [Tryd.results11]) ?_
  refine RunR ?_
  refine (code_bad k m h hk hm w).mono fun r w1 ⟨hr, hw⟩ => ?_
  subst hr; subst hw
  conv => whnf
  refine RunR ?_
  exact ⟨rfl, rfl⟩
theorem cut_none (vb : Value) (k m : Nat) (h1 : 1 ≤ k) (h2 : k + m ≤ 14) (w : World) (hs : Sl w vb (bv [])) :
    Fn Tryd.prog 11 #[vb, .int .i64 k, .int .i64 m] w fun r w' => r = .tuple #[.slice none 0 0, .int .i64 1] ∧ Below w.heap.size w w' := by
  obtain ⟨a, cp, rfl⟩ := hs.shape
  refine Fn.mk Tryd.func11 rfl (by kernel_rfl) Tryd.ntmps11 rfl (by rw [Tryd.results11]) ?_
  refine RunR ?_
  refine (code_fn k m h1 h2 w).mono fun r w1 ⟨u, hr, hm, hW1⟩ => ?_
  subst hr
  conv => whnf
  refine RunR ?_
  exact ⟨rfl, hW1⟩
end Go.Proofs.YtlldgodjfpgbcaaDoor
