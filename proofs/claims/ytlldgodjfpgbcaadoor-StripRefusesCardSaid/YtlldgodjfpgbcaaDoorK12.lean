/- matrix.Invert, first part: the rows beside those of the one. Maps as lists of things with keys. Nothing is claimed here. -/
import Derived.Test.YtlldgodjfpgbcaaDoorK11
namespace Go.Proofs.YtlldgodjfpgbcaaDoor
open Go.RowKit
set_option linter.unusedVariables false
set_option linter.unusedSimpArgs false
set_option maxRecDepth 100000

theorem mem2 {α : Type} {a b x : α} {l : List α} (h : x ∈ l) : x ∈ a :: b :: l := List.mem_cons_of_mem _ (List.mem_cons_of_mem _ h)
theorem mem3 {α : Type} {a b c x : α} {l : List α} (h : x ∈ l) : x ∈ a :: b :: c :: l := List.mem_cons_of_mem _ (List.mem_cons_of_mem _ (List.mem_cons_of_mem _ h))
set_option maxHeartbeats 8000000 in
theorem invert_fn (v : Value) (A : List (List UInt8)) (n : Nat) (h1 : 1 ≤ n) (h2 : n ≤ 64) (hl : A.length = n) (hr : ∀ l ∈ A, l.length = n) (hI : Inj n A) (w0 : World) (hs : SS w0 v A) (hT : TabAt 0 Go.Lib.deBruijn64tab w0) :
    Fn Tryd.prog 56 #[v] w0 fun r w' => ∃ u bs C Rs, InvR n A C ∧ InsR bs C Rs ∧ r = .tuple #[u, .int .i64 0] ∧ Sep Tryd.prog w0.heap.size w0 w' (.row 22 1 u n bs :: Rs) := by
  have hM := isMatrix_fn v A n h1 h2 hl hr w0 hs
  obtain ⟨cs, hcs, hci⟩ := hs.of
  have hcl := hci.len
  obtain ⟨a, cp, rfl⟩ := hcs.shape
  rw [hcl, hl] at hcs hM ⊢
  obtain ⟨b1, o1, rfl, hr1⟩ := hcs.addr (by omega)
  obtain ⟨u0, hu0, hs0⟩ := hci.get (List.getElem?_eq_getElem (show 0 < A.length by omega))
  have e0 : (A[0]'(by omega)).length = n := hr _ (List.getElem_mem _)
  obtain ⟨a0, c0, rfl⟩ := hs0.shape
  rw [bv_length, e0] at hu0 
  have hL := Sep.start Tryd.prog w0
  have hB := Nat.le_refl w0.heap.size
  refine Fn.mk Tryd.func56 rfl (by kernel_rfl) Tryd.ntmps56 rfl (by rw [Tryd.results56]) ?_
  repeat (first | (refine RunH ?_; intro w hL hB; try clear w) | (refine Both.mk ?_ ?_ <;> conv => whnf) | fail)
  refine hM.mono fun r w' ⟨hr', hw'⟩ => ?_
  subst hr'
  replace hw' := hw'.symm
  subst hw'
  conv => whnf
  repeat (first | (refine RunH ?_; intro w hL hB; try clear w) | (refine Both.mk ?_ ?_ <;> conv => whnf) | fail)
  intro o2 ho2
  conv => whnf
  repeat (first | (refine RunH ?_; intro w hL hB; try clear w) | (refine Both.mk ?_ ?_ <;> conv => whnf) | fail)
  refine Ld.one ttOk tl22 rfl (hr1.at hu0 (by omega)) ?_
  conv => whnf
  repeat (first | (refine RunH ?_; intro w hL hB; try clear w) | (refine Both.mk ?_ ?_ <;> conv => whnf) | fail)
  refine (one_fn n h1 h2 _).mono fun r w1 ⟨u, hru, hmat, hbl⟩ => ?_
  subst hru
  obtain ⟨os, hown, hins⟩ := hmat.of
  rw [show (oneM n).length = n by simp [oneM]] at hown
  have hL1 := hL.addRow hB hbl hown
  have hB1 := Nat.le_trans hB hbl.size
  have hosl : os.length = n := by rw [hins.len]; simp [oneM]
  have hio : Ins w1 os (oneM n) := hins.ins
  have hiA : Ins w1 cs A := hci.below hbl
  have hrA : Sl w1 (.slice (some ⟨b1, o1, none⟩) n cp) cs := hcs.below hbl
  clear hL hB
  obtain ⟨xa, xc, rfl⟩ := (hL1.rowN (i := 0) rfl).shape
  obtain ⟨⟨bx, rfl⟩, hxc⟩ := own_addr (hL1.at (i := 0) rfl) (by omega)
  have hsx : Sl w1 (.slice (some ⟨bx, 0, none⟩) n xc) os := hL1.row (i := 0) rfl
  have hL := Sep.start Tryd.prog w1
  have hB := Nat.le_refl w1.heap.size
  conv => whnf
  repeat (first | (refine RunH ?_; intro w hL hB; try clear w) | (refine Both.mk ?_ ?_ <;> conv => whnf) | fail)
  refine Rv.makeS ttOk hL n n tl29 tl22 rfl rfl rfl (Nat.le_refl _) (by omega) (by simp only [maxLen]; omega) hB fun g w hL hB => ?_
  conv => whnf
  repeat (first | (refine RunH ?_; intro w hL hB; try clear w) | (refine Both.mk ?_ ?_ <;> conv => whnf) | fail)
  have hAr : ∀ i, i < n → (rw_ A i).length = n := fun i hi => hr _ (rw_mem (by omega))
  refine V.loop (α := Nat × List Value × List Res) (fun z => [(0, .slice (some ⟨b1, o1, none⟩) n cp), (4, .int .i64 n), (5, .slice (some ⟨bx, 0, none⟩) n xc), (7, .slice (some ⟨g, 0, none⟩) n n), (42, .int .i64 n), (43, .int .i64 z.1)])
    (fun z w' => z.1 ≤ n ∧ w1.heap.size ≤ w'.heap.size ∧ InsR z.2.1 ((aug n A).take z.1) z.2.2 ∧ Sep Tryd.prog w1.heap.size w1 w' (.row 22 1 (.slice (some ⟨g, 0, none⟩) n n) n (z.2.1 ++ List.replicate (n - z.1) (.slice none 0 0)) :: z.2.2)) (fun z => n - z.1) (0, [], []) ⟨rfl, rfl, rfl, rfl, rfl, rfl, trivial⟩ ⟨Nat.zero_le _, hB, by simpa using InsR.nil [], hL⟩ ?_
  clear hL hB
  rintro ⟨i, us, Rs⟩ w ⟨hi, hB, hus, hL⟩
  dsimp only at hi hus hL
  have husl : us.length = i := by rw [hus.len, List.length_take, aug_len]; omega
  repeat (first | (refine RunH ?_; intro w hL hB; try clear w) | (refine Both.mk ?_ ?_ <;> conv => whnf) | fail)
  refine Br.dec (fun hlt => ?_) (fun hlt => ?_)
  · have hin : i < n := by omega
    obtain ⟨ui, hui, hsi⟩ := hiA.get (rw_some (show i < A.length by omega))
    obtain ⟨xi, hxi, hsxi⟩ := hio.get (show (oneM n)[i]? = some (oneRow n i) by simp [oneM, hin])
    obtain ⟨ai, ci, rfl⟩ := hsi.shape
    obtain ⟨axi, cxi, rfl⟩ := hsxi.shape
    rw [bv_length, hAr i hin] at hui hsi
    rw [bv_length, oneRow_len] at hxi hsxi
    have hrow1 : ∀ {x : World} {L' : List Res}, Sep Tryd.prog w1.heap.size w1 x L' → Row x b1 o1 cs := fun h => (hrA.below h.below).toN.rowOf
    have hrow2 : ∀ {x : World} {L' : List Res}, Sep Tryd.prog w1.heap.size w1 x L' → Row x bx 0 os := fun h => (hsx.below h.below).toN.rowOf
    repeat (first | (refine RunH ?_; intro w hL hB; try clear w) | (refine Both.mk ?_ ?_ <;> conv => whnf) | fail)
    refine V.treeP ttOk hL 0 (.q 0 (.q 1 (.q 2 (.q 3 (.q 4 (.q 5 (.q 7 (.q 8 (.q 9 (.q 10 (.alt 6 (.alt 11 (.q 12 (.alt 13 .nil .stop)) .stop) .stop))))))))))) mixed (by decide +kernel) ?_
    replace hL := hL.drew
    conv => whnf
    repeat (first | (refine RunH ?_; intro w hL hB; try clear w) | (refine Both.mk ?_ ?_ <;> conv => whnf) | fail)
    intro o3 ho3
    conv => whnf
    refine Lq.of_class (fun x hx => Ld.row1 ttOk (hrow1 hx) rfl rfl (k := i) hui (by dsimp only at ho3; omega) rfl) ?_
    conv => whnf
    repeat (first | (refine RunH ?_; intro w hL hB; try clear w) | (refine Both.mk ?_ ?_ <;> conv => whnf) | fail)
    intro o4 ho4
    conv => whnf
    refine Lq.of_class (fun x hx => Ld.row1 ttOk (hrow2 hx) rfl rfl (k := i) hxi (by dsimp only at ho4; omega) rfl) ?_
    conv => whnf
    repeat (first | (refine RunH ?_; intro w hL hB; try clear w) | (refine Both.mk ?_ ?_ <;> conv => whnf) | fail)
    replace hL := hL.nilRow 5 1
    refine Rv.appendS ttOk hL tl22 tl5 rfl (by decide) 0 rfl (hsi.below hL.below).toN (bv_one _) (by rw [bv_length, hAr i hin]; simp only [maxLen]; omega) (by rw [bv_length, hAr i hin]; omega) hB fun v1 w hL hB => ?_
    dsimp only [List.set] at hL
    conv => whnf
    repeat (first | (refine RunH ?_; intro w hL hB; try clear w) | (refine Both.mk ?_ ?_ <;> conv => whnf) | fail)
    refine Rv.appendS ttOk hL tl22 tl5 rfl (by decide) 0 rfl (hsxi.below hL.below).toN (bv_one _) (by rw [bv_length, hAr i hin, bv_length, oneRow_len]; simp only [maxLen]; omega) (by rw [bv_length, hAr i hin, bv_length, oneRow_len]; omega) hB fun v2 w hL hB => ?_
    dsimp only [List.set] at hL
    have e1 : 0 + (bv (rw_ A i)).length + (bv (oneRow n i)).length = (rw_ A i ++ oneRow n i).length := by rw [bv_length, bv_length, List.length_append]; omega
    have e2 : [] ++ bv (rw_ A i) ++ bv (oneRow n i) = bv (rw_ A i ++ oneRow n i) := by rw [bv_append]; rfl
    rw [e1, e2] at hL
    obtain ⟨va, vc, rfl⟩ := (hL.rowN (i := 0) rfl).shape
    conv => whnf
    repeat (first | (refine RunH ?_; intro w hL hB; try clear w) | (refine Both.mk ?_ ?_ <;> conv => whnf) | fail)
    intro o5 ho5
    obtain rfl : o5 = i := by dsimp only at ho5; omega
    conv => whnf
    refine St.rowS ttOk hL 1 rfl rfl rfl rfl (by rw [List.length_append, List.length_replicate, husl]; show o5 + 1 ≤ _; omega) hB (fun w hL hB => ?_)
    dsimp only [List.set, cellsL] at hL
    rw [splice_one (by rw [List.length_append, List.length_replicate, husl]; omega), (by omega : n - o5 = (n - (o5 + 1)) + 1), fill_set _ _ _ _ husl.symm] at hL
    conv => whnf
    repeat (first | (refine RunH ?_; intro w hL hB; try clear w) | (refine Both.mk ?_ ?_ <;> conv => whnf) | fail)
    refine ⟨(o5 + 1, us ++ [_], bR _ (rw_ A o5 ++ oneRow n o5) :: Rs), ⟨rfl, rfl, rfl, rfl, rfl, rfl, trivial⟩, ⟨by dsimp only; omega, hB, ?_, hL.perm (.swap _ _ _)⟩, (by first | omega | (dsimp only; omega))⟩
    dsimp only
    rw [aug_take hin]
    exact (hus.cons _).snoc (List.mem_cons_self ..)
  obtain rfl : n = i := by omega
  rw [List.take_of_length_le (by rw [aug_len]; exact Nat.le_refl _)] at hus
  rw [Nat.sub_self, List.replicate_zero, List.append_nil] at hL
  replace hL := hL1.adds hB1 hL
  replace hB := Nat.le_trans hB1 hB
  replace hL := hL.perm ((List.perm_append_singleton _ _).cons _)
  have hTw : ∀ {x : World} {L' : List Res}, Sep Tryd.prog w0.heap.size w0 x L' → TabAt 0 Go.Lib.deBruijn64tab x := fun h => tabAt_below hT h.below
  have hG0 := GInv.zero (aug_len n A) hAr fun k hk => aug_rw hk
  have hbits := fun k => all_bits n k h2
  have hb64 : 18446744073709551615 / 2 ^ (64 - n) < 18446744073709551616 := Nat.lt_of_le_of_lt (Nat.div_le_self _ _) (by decide)
  generalize aug n A = rows0 at *
  clear hiA hrA hio hsx hL1 hB1 hins hown hmat hbl hu0 hr1 hlt husl
  repeat (first | (refine RunH ?_; intro w hL hB; try clear w) | (refine Both.mk ?_ ?_ <;> conv => whnf) | fail)
  refine Shr.u64 18446744073709551615 (64 - n) (2 ^ (64 - n)) rfl (by omega) (by omega) rfl ?_
  generalize 18446744073709551615 / 2 ^ (64 - n) = left0 at *
  conv => whnf
  repeat (first | (refine RunH ?_; intro w hL hB; try clear w) | (refine Both.mk ?_ ?_ <;> conv => whnf) | fail)
  refine Rv.makeS ttOk hL n n tl23 tl3 rfl rfl rfl (Nat.le_refl _) (by omega) (by simp only [maxLen]; omega) hB fun gt w hL hB => ?_
  conv => whnf
  repeat (first | (refine RunH ?_; intro w hL hB; try clear w) | (refine Both.mk ?_ ?_ <;> conv => whnf) | fail)
  refine V.loop (α := Nat × List Nat × Nat × List (List UInt8) × List Value × List Res) (fun z => [(4, .int .i64 n), (5, .slice (some ⟨bx, 0, none⟩) n xc), (7, .slice (some ⟨g, 0, none⟩) n n), (9, .int .u64 z.2.2.1), (10, .slice (some ⟨gt, 0, none⟩) n n), (66, .int .i64 n), (67, .int .i64 z.1)])
    (fun z w' => z.1 ≤ n ∧ GInv n A z.1 z.2.2.2.1 z.2.1 ∧ z.2.2.1 < 18446744073709551616 ∧ (∀ k, z.2.2.1.testBit k = (decide (k < n) && !decide (k ∈ z.2.1))) ∧ InsR z.2.2.2.2.1 z.2.2.2.1 z.2.2.2.2.2 ∧ w0.heap.size ≤ w'.heap.size ∧ Sep Tryd.prog w0.heap.size w0 w' (.row 22 1 (.slice (some ⟨g, 0, none⟩) n n) n z.2.2.2.2.1 :: .row 22 1 (.slice (some ⟨bx, 0, none⟩) n xc) n os :: .row 3 1 (.slice (some ⟨gt, 0, none⟩) n n) n (z.2.1.map (fun k : Nat => Value.int .i64 (k : Int)) ++ List.replicate (n - z.1) (.int .i64 0)) :: z.2.2.2.2.2)) (fun z => n - z.1) (0, [], left0, rows0, us, Rs) ⟨rfl, rfl, rfl, rfl, rfl, rfl, rfl, trivial⟩ ⟨Nat.zero_le _, hG0, hb64, fun k => by rw [hbits]; simp, hus, hB, hL.perm ((List.Perm.swap _ _ _).trans ((List.Perm.swap _ _ _).cons _))⟩ ?_
  clear hL hB hus hG0 hb64 hbits hi
  rintro ⟨j, tk, left, rows, us, Rs⟩ w ⟨hj, hG, hl64, hbit, hus, hB, hL⟩
  dsimp only at hj hG hl64 hbit hus hL
  have husl : us.length = n := by rw [hus.len, hG.len]
  have hrows : ∀ {L' : List Res}, Sep Tryd.prog w0.heap.size w0 w (.row 22 1 (.slice (some ⟨g, 0, none⟩) n n) n us :: L') → Row w g 0 us := fun h => (h.rowN (i := 0) rfl).rowOf
  repeat (first | (refine RunH ?_; intro w hL hB; try clear w) | (refine Both.mk ?_ ?_ <;> conv => whnf) | fail)
  refine Br.dec (fun hlt => ?_) (fun hlt => ?_)
  · have hjn : j < n := by omega
    repeat (first | (refine RunH ?_; intro w hL hB; try clear w) | (refine Both.mk ?_ ?_ <;> conv => whnf) | fail)
    refine V.loop (α := Nat) (fun s => [(4, .int .i64 n), (5, .slice (some ⟨bx, 0, none⟩) n xc), (7, .slice (some ⟨g, 0, none⟩) n n), (9, .int .u64 left), (10, .slice (some ⟨gt, 0, none⟩) n n), (66, .int .i64 n), (67, .int .i64 j), (11, .int .i64 j), (12, .int .i64 (-1)), (13, .int .u64 s)])
      (fun s w' => s < 18446744073709551616 ∧ (∀ k, s.testBit k = true → left.testBit k = true) ∧ (∀ k, left.testBit k = true → s.testBit k = false → (rw_ rows k).getD j 0 = 0) ∧ w' = w) (fun s => s) left ⟨rfl, rfl, rfl, rfl, rfl, rfl, rfl, rfl, rfl, rfl, trivial⟩ ⟨hl64, fun _ h => h, (fun k h1 h2 => by rw [h1] at h2; cases h2), rfl⟩ ?_
    rintro s w2 ⟨hs64, hsl, hsz, hww⟩
    replace hww := hww.symm
    subst hww
    repeat (first | (refine RunH ?_; intro w hL hB; try clear w) | (refine Both.mk ?_ ?_ <;> conv => whnf) | fail)
    refine Br.dec (fun hs0 => ?_) (fun hs0 => ?_)
    · exfalso
      obtain ⟨p, hp1, hp2, hp3⟩ := hG.pick hI hjn
      refine hp3 (hsz p (by rw [hbit]; simp [hp1, hp2]) ?_)
      obtain rfl : s = 0 := by omega
      exact Nat.zero_testBit p
    obtain ⟨hc64, hcb, hclow⟩ := ctz_low (x := s) (by omega) hs64
    repeat (first | (refine RunH ?_; intro w hL hB; try clear w) | (refine Both.mk ?_ ?_ <;> conv => whnf) | fail)
    refine (ctz_fn s hs64 _ (hTw hL)).mono fun r w' ⟨hr', hw'⟩ => ?_
    subst hr'
    replace hw' := hw'.symm
    subst hw'
    generalize Go.Lib.ctz 64 s = p at *
    have hpl := hsl p hcb
    rw [hbit] at hpl
    simp only [Bool.and_eq_true, decide_eq_true_eq, Bool.not_eq_true', decide_eq_false_iff_not] at hpl
    obtain ⟨hpn, hpt⟩ := hpl
    obtain ⟨up, hup, hgp, hmp⟩ := hus.get (i := p) (by rw [hG.len]; exact hpn)
    have hsp : Sl w up (bv (rw_ rows p)) := bR_sl (hL.hold _ (by simp [hmp]))
    obtain ⟨pa, pc, rfl⟩ := hsp.shape
    rw [bv_length, hG.row p hpn] at hup hsp hmp
    obtain ⟨pb, po, rfl, hrp⟩ := hsp.addr (by omega)
    have hgj : (bv (rw_ rows p))[j]? = some (u8 ((rw_ rows p).getD j 0)) := by
      have : j < (rw_ rows p).length := by rw [hG.row p hpn]; omega
      simp [bv, List.getD, this]
    conv => whnf
    repeat (first | (refine RunH ?_; intro w hL hB; try clear w) | (refine Both.mk ?_ ?_ <;> conv => whnf) | fail)
    intro o3 ho3
    conv => whnf
    refine Ld.row1 ttOk (hrows hL) rfl rfl (k := p) hup (by omega) ?_
    conv => whnf
    repeat (first | (refine RunH ?_; intro w hL hB; try clear w) | (refine Both.mk ?_ ?_ <;> conv => whnf) | fail)
    intro o4 ho4
    conv => whnf
    refine Ld.row1 ttOk hrp rfl rfl (k := j) hgj (by omega) ?_
    conv => whnf
    repeat (first | (refine RunH ?_; intro w hL hB; try clear w) | (refine Both.mk ?_ ?_ <;> conv => whnf) | fail)
    refine Br.dec (fun hz => ?_) (fun hz => ?_)
    · repeat (first | (refine RunH ?_; intro w hL hB; try clear w) | (refine Both.mk ?_ ?_ <;> conv => whnf) | fail)
      refine Bt.and64 s (s - 1) rfl (by omega) hs64 (by omega) ?_
      conv => whnf
      repeat (first | (refine RunH ?_; intro w hL hB; try clear w) | (refine Both.mk ?_ ?_ <;> conv => whnf) | fail)
      have hsm : s &&& (s - 1) < s := Nat.lt_of_le_of_lt Nat.and_le_right (by omega)
      refine ⟨s &&& (s - 1), ⟨rfl, rfl, rfl, rfl, rfl, rfl, rfl, rfl, rfl, rfl, trivial⟩, ⟨by omega, fun k hk => ?_, fun k h3 h4 => ?_, rfl⟩, hsm⟩
      · rw [hclow] at hk
        exact hsl k (by simp only [Bool.and_eq_true] at hk; exact hk.1)
      · rw [hclow] at h4
        by_cases hkp : k = p
        · subst hkp
          exact UInt8.toNat_inj.1 (by simpa using hz)
        · refine hsz k h3 ?_
          simpa [hkp] using h4
    have hne : (rw_ rows p).getD j 0 ≠ 0 := fun e => hz (by rw [e]; rfl)
    have h2p : 2 ^ p < 18446744073709551616 := Nat.pow_lt_pow_right (by decide : 1 < 2) hc64
    clear hsz hsl hclow hcb hz
    repeat (first | (refine RunH ?_; intro w hL hB; try clear w) | (refine Both.mk ?_ ?_ <;> conv => whnf) | fail)
    refine Shl.u64 p (2 ^ p) rfl (by omega) rfl ?_
    obtain ⟨left', he', hl', hb'⟩ := andNot_u64 left (2 ^ p) hl64 h2p
    have hbit' : ∀ k, left'.testBit k = (decide (k < n) && !decide (k ∈ tk ++ [p])) := fun k => by
      rw [hb', hbit, Nat.testBit_two_pow]
      by_cases h3 : k = p
      · subst h3; simp
      · simp [h3, show ¬ p = k from fun e => h3 e.symm]
    clear hb' hbit
    generalize 2 ^ p = q at *
    refine Ar.u64 (by omega) (by omega) ?_
    rw [Int.one_mul]
    conv => whnf
    repeat (first | (refine RunH ?_; intro w hL hB; try clear w) | (refine Both.mk ?_ ?_ <;> conv => whnf) | fail)
    refine Bt.mk ?_
    rw [he']
    conv => whnf
    repeat (first | (refine RunH ?_; intro w hL hB; try clear w) | (refine Both.mk ?_ ?_ <;> conv => whnf) | fail)
    intro o5 ho5
    obtain rfl : j = o5 := by omega
    conv => whnf
    refine St.rowS ttOk hL 2 rfl rfl rfl rfl (by rw [List.length_append, List.length_map, List.length_replicate, hG.cnt]; show j + 1 ≤ _; omega) hB (fun w hL hB => ?_)
    dsimp only [List.set, cellsL] at hL
    rw [splice_one (by rw [List.length_append, List.length_map, List.length_replicate, hG.cnt]; omega), (by omega : n - j = (n - (j + 1)) + 1), fill_set _ _ _ _ (by rw [List.length_map, hG.cnt])] at hL
    conv => whnf
    repeat (first | (refine RunH ?_; intro w hL hB; try clear w) | (refine Both.mk ?_ ?_ <;> conv => whnf) | fail)
    clear hrows
    have hrw := (hL.rowN (i := 0) rfl).rowOf
    have hsp := bR_sl (hL.hold _ (mem3 hmp))
    have hrp := hsp.toN.rowOf
    intro o6 ho6
    conv => whnf
    refine Ld.row1 ttOk hrw rfl rfl (k := p) hup (by omega) ?_
    conv => whnf
    repeat (first | (refine RunH ?_; intro w hL hB; try clear w) | (refine Both.mk ?_ ?_ <;> conv => whnf) | fail)
    intro o7 ho7
    conv => whnf
    refine Ld.row1 ttOk hrp rfl rfl (k := j) hgj (by omega) ?_
    conv => whnf
    repeat (first | (refine RunH ?_; intro w hL hB; try clear w) | (refine Both.mk ?_ ?_ <;> conv => whnf) | fail)
    refine (gib_fn ((rw_ rows p).getD j 0) _).mono fun r w' ⟨hw', hr'⟩ => ?_
    subst hr'
    replace hw' := hw'.symm
    subst hw'
    conv => whnf
    repeat (first | (refine RunH ?_; intro w hL hB; try clear w) | (refine Both.mk ?_ ?_ <;> conv => whnf) | fail)
    intro o8 ho8
    conv => whnf
    refine Ld.row1 ttOk hrw rfl rfl (k := p) hup (by omega) ?_
    conv => whnf
    repeat (first | (refine RunH ?_; intro w hL hB; try clear w) | (refine Both.mk ?_ ?_ <;> conv => whnf) | fail)
    have hsc := scale_fn _ _ (gib ((rw_ rows p).getD j 0)) w hsp (by rw [hG.row p hpn]; omega)
    refine hsc.mono fun r w' ⟨hown, hbl⟩ => ?_
    have hscl : (List.map (fun x => gmb x (gib ((rw_ rows p).getD j 0))) (rw_ rows p)) = scl (rw_ rows p) (gib ((rw_ rows p).getD j 0)) := rfl
    rw [hscl, ← scl_len (rw_ rows p) (gib ((rw_ rows p).getD j 0))] at hown
    replace hL := hL.addRow hB hbl hown
    replace hB := Nat.le_trans hB hbl.size
    clear hsc hown hbl hrw hrp hsp hscl
    obtain ⟨va, vc, rfl⟩ := (hL.rowN (i := 0) rfl).shape
    conv => whnf
    repeat (first | (refine RunH ?_; intro w hL hB; try clear w) | (refine Both.mk ?_ ?_ <;> conv => whnf) | fail)
    intro o9 ho9
    obtain rfl : p = o9 := by omega
    conv => whnf
    refine St.rowS ttOk hL 1 rfl rfl rfl rfl (by rw [husl]; show p + 1 ≤ _; omega) hB (fun w hL hB => ?_)
    dsimp only [List.set, cellsL] at hL
    rw [splice_one (by rw [husl]; omega)] at hL
    have hus0 : InsR (us.set p (.slice va (scl (rw_ rows p) (gib ((rw_ rows p).getD j 0))).length vc)) (rowsP rows n p j 0) (bR (.slice va (scl (rw_ rows p) (gib ((rw_ rows p).getD j 0))).length vc) (scl (rw_ rows p) (gib ((rw_ rows p).getD j 0))) :: Rs) := by
      rw [rowsP_zero hG.len hpn]
      exact (hus.cons _).set p (List.mem_cons_self ..)
    replace hL := hL.perm ((List.Perm.swap _ _ _).trans ((List.Perm.swap _ _ _).cons _) |>.trans (((List.Perm.swap _ _ _).cons _).cons _))
    change Sep _ _ _ _ (_ :: _ :: _ :: bR (.slice va (scl (rw_ rows p) (gib ((rw_ rows p).getD j 0))).length vc) (scl (rw_ rows p) (gib ((rw_ rows p).getD j 0))) :: Rs) at hL
    generalize (bR (.slice va (scl (rw_ rows p) (gib ((rw_ rows p).getD j 0))).length vc) (scl (rw_ rows p) (gib ((rw_ rows p).getD j 0))) :: Rs) = Rs0 at *
    generalize us.set p (.slice va (scl (rw_ rows p) (gib ((rw_ rows p).getD j 0))).length vc) = us0 at *
    conv => whnf
    repeat (first | (refine RunH ?_; intro w hL hB; try clear w) | (refine Both.mk ?_ ?_ <;> conv => whnf) | fail)
    refine V.loop (α := Nat × List Value × List Res) (fun z => [(4, .int .i64 n), (5, .slice (some ⟨bx, 0, none⟩) n xc), (7, .slice (some ⟨g, 0, none⟩) n n), (9, .int .u64 left'), (10, .slice (some ⟨gt, 0, none⟩) n n), (66, .int .i64 n), (67, .int .i64 j), (11, .int .i64 j), (12, .int .i64 p), (119, .int .i64 n), (120, .int .i64 z.1)])
      (fun z w' => z.1 ≤ n ∧ InsR z.2.1 (rowsP rows n p j z.1) z.2.2 ∧ w0.heap.size ≤ w'.heap.size ∧ Sep Tryd.prog w0.heap.size w0 w' (.row 22 1 (.slice (some ⟨g, 0, none⟩) n n) n z.2.1 :: .row 22 1 (.slice (some ⟨bx, 0, none⟩) n xc) n os :: .row 3 1 (.slice (some ⟨gt, 0, none⟩) n n) n ((tk.map (fun k : Nat => Value.int .i64 (k : Int)) ++ [.int .i64 (p : Int)]) ++ List.replicate (n - (j + 1)) (.int .i64 0)) :: z.2.2)) (fun z => n - z.1) (0, us0, Rs0) ⟨rfl, rfl, rfl, rfl, rfl, rfl, rfl, rfl, rfl, rfl, rfl, trivial⟩ ⟨Nat.zero_le _, hus0, hB, hL⟩ ?_
    repeat clear hL
    repeat clear hB
    clear hus0 hus hup hgp hmp husl
    rintro ⟨i, us, Rs⟩ w ⟨hi, hus, hB, hL⟩
    dsimp only at hi hus hL
    have husl : us.length = n := by rw [hus.len, rowsP_len]
    repeat (first | (refine RunH ?_; intro w hL hB; try clear w) | (refine Both.mk ?_ ?_ <;> conv => whnf) | fail)
    refine Br.dec (fun hlt => ?_) (fun hlt => ?_)
    · have hin : i < n := by omega
      by_cases hip : i = p
      · repeat (first | (refine RunH ?_; intro w hL hB; try clear w) | (refine Both.mk ?_ ?_ <;> conv => whnf) | fail)
        refine ⟨(i + 1, us, Rs), ⟨rfl, rfl, rfl, rfl, rfl, rfl, rfl, rfl, rfl, rfl, rfl, trivial⟩, ⟨by dsimp only; omega, ?_, hB, hL⟩, (by first | omega | (dsimp only; omega))⟩
        dsimp only
        rw [rowsP_stay hG.row hpn hin (.inl hip)]
        exact hus
      obtain ⟨ui, hui, _, hmi⟩ := hus.get (i := i) (by rw [rowsP_len]; exact hin)
      obtain ⟨up, hup, _, hmp⟩ := hus.get (i := p) (by rw [rowsP_len]; exact hpn)
      rw [rowsP_rw hin, if_neg (by omega)] at hmi
      rw [rowsP_rw hpn, if_pos (.inl rfl), elimR, if_pos rfl] at hmp
      have hil := hG.row i hin
      have hPl : (scl (rw_ rows p) (gib ((rw_ rows p).getD j 0))).length = 2 * n := by rw [scl_len, hG.row p hpn]
      have hstay : (rw_ rows i).getD j 0 = 0 → rowsP rows n p j (i + 1) = rowsP rows n p j i := fun e => rowsP_stay hG.row hpn hin (.inr e)
      have hadd := rowsP_add (rows := rows) (j := j) hpn hin hip
      generalize scl (rw_ rows p) (gib ((rw_ rows p).getD j 0)) = P at *
      have hgj : (bv (rw_ rows i))[j]? = some (u8 ((rw_ rows i).getD j 0)) := by
        have : j < (rw_ rows i).length := by rw [hil]; omega
        simp [bv, List.getD, this]
      generalize rw_ rows i = ri at *
      have hsi := bR_sl (hL.hold _ (mem3 hmi))
      have hsP := bR_sl (hL.hold _ (mem3 hmp))
      obtain ⟨ia, ic, rfl⟩ := hsi.shape
      obtain ⟨pa, pc, rfl⟩ := hsP.shape
      rw [bv_length, hil] at hui hsi hmi
      rw [bv_length, hPl] at hup hsP hmp
      obtain ⟨ib, io, rfl, hri⟩ := hsi.addr (by omega)
      repeat (first | (refine RunH ?_; intro w hL hB; try clear w) | (refine Both.mk ?_ ?_ <;> conv => whnf) | fail)
      intro o3 ho3
      conv => whnf
      repeat (first | (refine RunH ?_; intro w hL hB; try clear w) | (refine Both.mk ?_ ?_ <;> conv => whnf) | fail)
      refine Ld.row1 ttOk (hL.rowN (i := 0) rfl).rowOf rfl rfl (k := i) hui (by omega) ?_
      conv => whnf
      repeat (first | (refine RunH ?_; intro w hL hB; try clear w) | (refine Both.mk ?_ ?_ <;> conv => whnf) | fail)
      intro o4 ho4
      conv => whnf
      repeat (first | (refine RunH ?_; intro w hL hB; try clear w) | (refine Both.mk ?_ ?_ <;> conv => whnf) | fail)
      refine Ld.row1 ttOk hri rfl rfl (k := j) hgj (by omega) ?_
      conv => whnf
      repeat (first | (refine RunH ?_; intro w hL hB; try clear w) | (refine Both.mk ?_ ?_ <;> conv => whnf) | fail)
      refine Br.dec (fun hz => ?_) (fun hz => ?_)
      · repeat (first | (refine RunH ?_; intro w hL hB; try clear w) | (refine Both.mk ?_ ?_ <;> conv => whnf) | fail)
        refine ⟨(i + 1, us, Rs), ⟨rfl, rfl, rfl, rfl, rfl, rfl, rfl, rfl, rfl, rfl, rfl, trivial⟩, ⟨by dsimp only; omega, ?_, hB, hL⟩, (by first | omega | (dsimp only; omega))⟩
        dsimp only
        rw [hstay (UInt8.toNat_inj.1 (by simpa using hz))]
        exact hus
      clear hstay hz hri hsi
      generalize ri.getD j 0 = ci at *
      clear ho3 ho4
      repeat (first | (refine RunH ?_; intro w hL hB; try clear w) | (refine Both.mk ?_ ?_ <;> conv => whnf) | fail)
      refine V.treeP ttOk hL 0 (.q 0 (.q 1 (.q 2 (.q 3 (.q 4 (.q 6 (.q 7 (.q 8 (.q 10 (.q 11 (.q 12 (.q 14 (.alt 5 (.alt 9 (.alt 13 (.q 15 (.q 16 (.alt 17 (.alt 18 (.q 19 (.q 20 (.q 21 (.q 22 (.alt 23 .nil .stop))))) .stop) .stop))) .stop) (.alt 13 (.q 15 (.q 16 (.alt 9 (.alt 17 (.alt 18 (.q 19 (.q 20 (.q 21 (.q 22 (.alt 23 .nil .stop))))) .stop) .stop) .stop))) .stop)) (.alt 9 (.alt 5 (.alt 13 (.q 15 (.q 16 (.alt 17 (.alt 18 (.q 19 (.q 20 (.q 21 (.q 22 (.alt 23 .nil .stop))))) .stop) .stop))) .stop) (.alt 13 (.q 15 (.q 16 (.alt 5 (.alt 17 (.alt 18 (.q 19 (.q 20 (.q 21 (.q 22 (.alt 23 .nil .stop))))) .stop) .stop) (.alt 17 (.alt 5 (.alt 18 (.q 19 (.q 20 (.q 21 (.q 22 (.alt 23 .nil .stop))))) .stop) .stop) .stop)))) .stop)) (.alt 13 (.q 15 (.q 16 (.alt 5 (.alt 9 (.alt 17 (.alt 18 (.q 19 (.q 20 (.q 21 (.q 22 (.alt 23 .nil .stop))))) .stop) .stop) .stop) (.alt 9 (.alt 5 (.alt 17 (.alt 18 (.q 19 (.q 20 (.q 21 (.q 22 (.alt 23 .nil .stop))))) .stop) .stop) (.alt 17 (.alt 5 (.alt 18 (.q 19 (.q 20 (.q 21 (.q 22 (.alt 23 .nil .stop))))) .stop) .stop) .stop)) .stop)))) .stop))))))))))))))) mixed (by decide +kernel) ?_
      replace hL := hL.drew
      conv => whnf
      have hPl2 : P.length ≤ 140737488355328 := by omega
      have hil2 : ri.length ≤ 140737488355328 := by omega
      have hre : (scl P ci).length = ri.length := by rw [scl_len]; omega
      repeat' (first | (refine RunH ?_; intro w hL hB; try clear w) | (refine Br.dec (fun hbr => ?_) (fun hbr => ?_) <;> conv => whnf) | (refine Br.mk (fun hbr => ?_) (fun hbr => ?_) <;> conv => whnf) | (refine Both.mk ?_ ?_ <;> conv => whnf) | (intro o9 ho9; conv => whnf) | (refine Ld.row1 ttOk (hL.rowN (i := 0) rfl).rowOf rfl rfl (k := i) hui (by omega) ?_; conv => whnf) | (refine Ld.row1 ttOk (hL.rowN (i := 0) rfl).rowOf rfl rfl (k := p) hup (by omega) ?_; conv => whnf) | (refine Ld.row1 ttOk (hL.rowN (i := 1) rfl).rowOf rfl rfl (k := i) hui (by omega) ?_; conv => whnf) | (refine Lq.of_class (fun x hx => Ld.row1 ttOk (bR_sl (hx.hold _ (mem2 hmi))).toN.rowOf rfl rfl (k := j) hgj (by omega) rfl) ?_; conv => whnf) | (refine (scale_fn _ _ ci _ (bR_sl (hL.hold _ (mem3 hmp))) hPl2).mono fun r w hr9 => ?_; obtain ⟨hown, hbl⟩ := hr9; rw [show List.map (fun x => gmb x ci) P = scl P ci from rfl, ← scl_len P ci] at hown; replace hL := hL.addRow hB hbl hown; replace hB := Nat.le_trans hB hbl.size; obtain ⟨sa, sc, rfl⟩ := (hL.rowN (i := 0) rfl).shape; clear hown hbl; conv => whnf) | (refine (add_fn _ _ ri (scl P ci) _ (bR_sl (hL.hold _ (List.mem_cons_of_mem _ (mem3 hmi)))) (hL.row (i := 0) rfl) hre hil2).mono fun r w hr9 => ?_; obtain ⟨u9, hr8, hown, hbl⟩ := hr9; subst hr8; rw [show List.zipWith (· ^^^ ·) ri (scl P ci) = addR ri (scl P ci) from rfl, ← addR_len hre.symm] at hown; replace hL := hL.addRow hB hbl hown; replace hB := Nat.le_trans hB hbl.size; obtain ⟨ta, tc, rfl⟩ := (hL.rowN (i := 0) rfl).shape; clear hown hbl; conv => whnf) | fail)
      all_goals
        obtain rfl : i = o9 := by omega
        refine St.rowS ttOk hL 2 rfl rfl rfl rfl (by rw [husl]; show i + 1 ≤ _; omega) hB (fun w hL hB => ?_)
        dsimp only [List.set, cellsL] at hL
        rw [splice_one (by rw [husl]; omega)] at hL
        conv => whnf
        repeat (first | (refine RunH ?_; intro w hL hB; try clear w) | (refine Both.mk ?_ ?_ <;> conv => whnf) | fail)
        refine ⟨(i + 1, us.set i _, bR (.slice ta (addR ri (scl P ci)).length tc) (addR ri (scl P ci)) :: Rs), ⟨rfl, rfl, rfl, rfl, rfl, rfl, rfl, rfl, rfl, rfl, rfl, trivial⟩, ⟨by dsimp only; omega, ?_, hB, (hL.pop 1).perm ((List.Perm.swap _ _ _).trans ((List.Perm.swap _ _ _).cons _) |>.trans (((List.Perm.swap _ _ _).cons _).cons _))⟩, (by first | omega | (dsimp only; omega))⟩
        dsimp only
        rw [hadd]
        exact (hus.cons _).set i (List.mem_cons_self ..)
    · obtain rfl : n = i := by omega
      repeat (first | (refine RunH ?_; intro w hL hB; try clear w) | (refine Both.mk ?_ ?_ <;> conv => whnf) | fail)
      refine ⟨(j + 1, tk ++ [p], left', rowsP rows n p j n, us, Rs), ⟨rfl, rfl, rfl, rfl, rfl, rfl, rfl, trivial⟩, ⟨by dsimp only; omega, hG.step hpn hpt hne (rowsP_len ..) rowsP_full, hl', hbit', hus, hB, ?_⟩, (by first | omega | (dsimp only; omega))⟩
      dsimp only
      rw [List.map_append]
      exact hL
  obtain rfl : n = j := by omega
  rw [Nat.sub_self, List.replicate_zero, List.append_nil] at hL
  obtain ⟨C, hC⟩ : ∃ C, C = tk.map fun i => (rw_ rows i).drop n := ⟨_, rfl⟩
  have hinv := hG.inv
  rw [← hC] at hinv
  have hosl' : (os.drop 0).length = n := by simpa using hosl
  repeat (first | (refine RunH ?_; intro w hL hB; try clear w) | (refine Both.mk ?_ ?_ <;> conv => whnf) | fail)
  refine V.loop (α := Nat × List Value × List Res) (fun z => [(4, .int .i64 n), (5, .slice (some ⟨bx, 0, none⟩) n xc), (7, .slice (some ⟨g, 0, none⟩) n n), (161, .slice (some ⟨gt, 0, none⟩) n n), (162, .int .i64 n), (163, .int .i64 z.1)])
    (fun z w' => z.1 ≤ n ∧ InsR us rows z.2.2 ∧ InsR z.2.1 (C.take z.1) z.2.2 ∧ w0.heap.size ≤ w'.heap.size ∧ Sep Tryd.prog w0.heap.size w0 w' (.row 22 1 (.slice (some ⟨g, 0, none⟩) n n) n us :: .row 22 1 (.slice (some ⟨bx, 0, none⟩) n xc) n (z.2.1 ++ os.drop z.1) :: .row 3 1 (.slice (some ⟨gt, 0, none⟩) n n) n (tk.map (fun k : Nat => Value.int .i64 (k : Int))) :: z.2.2)) (fun z => n - z.1) (0, [], Rs) ⟨rfl, rfl, rfl, rfl, rfl, rfl, trivial⟩ ⟨Nat.zero_le _, hus, by simpa using InsR.nil Rs, hB, hL⟩ ?_
  repeat clear hL
  repeat clear hB
  clear hus hrows hbit hl64
  rintro ⟨k, ns, Rs⟩ w ⟨hk, hus, hns, hB, hL⟩
  dsimp only at hk hus hns hL
  have hnsl : ns.length = k := by rw [hns.len, List.length_take, hinv.len]; omega
  repeat (first | (refine RunH ?_; intro w hL hB; try clear w) | (refine Both.mk ?_ ?_ <;> conv => whnf) | fail)
  refine Br.dec (fun hlt => ?_) (fun hlt => ?_)
  · have hkn : k < n := by omega
    have hkt : tk[k]? = some (tk[k]'(by rw [hG.cnt]; exact hkn)) := List.getElem?_eq_getElem _
    have hpn := hG.lt _ (List.mem_of_getElem? hkt)
    have hCk : C[k]? = some ((rw_ rows (tk[k]'(by rw [hG.cnt]; exact hkn))).drop n) := by rw [hC, List.getElem?_map, hkt]; rfl
    generalize tk[k]'(by rw [hG.cnt]; exact hkn) = p at *
    obtain ⟨up, hup, _, hmp⟩ := hus.get (i := p) (by rw [hG.len]; exact hpn)
    have hsp := bR_sl (hL.hold _ (mem3 hmp))
    have hpl := hG.row p hpn
    generalize rw_ rows p = rp at *
    obtain ⟨pa, pc, rfl⟩ := hsp.shape
    rw [bv_length, hpl] at hup hsp hmp
    obtain ⟨pb, po, rfl, hrp⟩ := hsp.addr (by omega)
    obtain ⟨q1, q2, q3⟩ := hsp.len
    rw [bv_length, hpl] at q1
    repeat (first | (refine RunH ?_; intro w hL hB; try clear w) | (refine Both.mk ?_ ?_ <;> conv => whnf) | fail)
    intro o3 ho3
    conv => whnf
    repeat (first | (refine RunH ?_; intro w hL hB; try clear w) | (refine Both.mk ?_ ?_ <;> conv => whnf) | fail)
    refine Ld.row1 ttOk (hL.rowN (i := 2) rfl).rowOf rfl rfl (k := k) (v := .int .i64 (p : Int)) (by rw [List.getElem?_map, hkt]; rfl) (by omega) ?_
    conv => whnf
    repeat (first | (refine RunH ?_; intro w hL hB; try clear w) | (refine Both.mk ?_ ?_ <;> conv => whnf) | fail)
    intro o4 ho4
    conv => whnf
    repeat (first | (refine RunH ?_; intro w hL hB; try clear w) | (refine Both.mk ?_ ?_ <;> conv => whnf) | fail)
    refine Ld.row1 ttOk (hL.rowN (i := 0) rfl).rowOf rfl rfl (k := p) hup (by omega) ?_
    conv => whnf
    repeat (first | (refine RunH ?_; intro w hL hB; try clear w) | (refine Both.mk ?_ ?_ <;> conv => whnf) | fail)
    intro o5 n5 c5 ho5 ho52 hn5 hc5
    obtain rfl : n = n5 := by omega
    have hsd := hsp.drop (k := n) (o' := o5) (n' := n) (c' := c5) (by rw [bv_length]; omega) (fun h => by have := ho5 (by omega); omega) (by omega) (by omega)
    rw [← bv_drop] at hsd
    have hdl : (rp.drop n).length = n := by rw [List.length_drop]; omega
    generalize rp.drop n = rd at *
    conv => whnf
    repeat (first | (refine RunH ?_; intro w hL hB; try clear w) | (refine Both.mk ?_ ?_ <;> conv => whnf) | fail)
    replace hL := hL.nilRow 5 1
    refine Rv.appendS ttOk hL tl22 tl5 rfl (by decide) 0 rfl hsd.toN (bv_one _) (by rw [bv_length, hdl]; simp only [maxLen]; omega) (by rw [bv_length, hdl]; omega) hB fun v1 w hL hB => ?_
    dsimp only [List.set] at hL
    have e1 : 0 + (bv rd).length = rd.length := by rw [bv_length]; omega
    rw [e1, List.nil_append] at hL
    obtain ⟨va, vc, rfl⟩ := (hL.rowN (i := 0) rfl).shape
    conv => whnf
    repeat (first | (refine RunH ?_; intro w hL hB; try clear w) | (refine Both.mk ?_ ?_ <;> conv => whnf) | fail)
    intro o6 ho6
    obtain rfl : k = o6 := by omega
    conv => whnf
    refine St.rowS ttOk hL 2 rfl rfl rfl rfl (by rw [List.length_append, List.length_drop, hnsl, hosl]; show k + 1 ≤ _; omega) hB (fun w hL hB => ?_)
    dsimp only [List.set, cellsL] at hL
    have hod : os.drop k = os[k]'(by omega) :: os.drop (k + 1) := List.drop_eq_getElem_cons (by omega)
    have hset : (ns ++ os.drop k).set k (.slice va rd.length vc) = (ns ++ [.slice va rd.length vc]) ++ os.drop (k + 1) := by
      rw [List.set_append_right _ _ (by omega), hnsl, Nat.sub_self, hod, List.set_cons_zero, List.append_assoc]; rfl
    rw [splice_one (by rw [List.length_append, List.length_drop, hnsl, hosl]; omega), hset] at hL
    conv => whnf
    repeat (first | (refine RunH ?_; intro w hL hB; try clear w) | (refine Both.mk ?_ ?_ <;> conv => whnf) | fail)
    refine ⟨(k + 1, ns ++ [_], bR (.slice va rd.length vc) rd :: Rs), ⟨rfl, rfl, rfl, rfl, rfl, rfl, trivial⟩, ⟨by dsimp only; omega, hus.cons _, ?_, hB, hL.perm ((List.Perm.swap _ _ _).trans ((List.Perm.swap _ _ _).cons _) |>.trans (((List.Perm.swap _ _ _).cons _).cons _))⟩, (by first | omega | (dsimp only; omega))⟩
    dsimp only
    rw [List.take_add_one, hCk]
    exact (hns.cons _).snoc (List.mem_cons_self ..)
  · obtain rfl : n = k := by omega
    rw [List.drop_of_length_le (by omega), List.append_nil] at hL
    rw [List.take_of_length_le (by rw [hinv.len]; exact Nat.le_refl _)] at hns
    repeat (first | (refine RunH ?_; intro w hL hB; try clear w) | (refine Both.mk ?_ ?_ <;> conv => whnf) | fail)
    exact ⟨_, ns, C, Rs, hinv, hns, rfl, (hL.pop 0).pop 1⟩
end Go.Proofs.YtlldgodjfpgbcaaDoor
namespace Go.Proofs.YtlldgodjfpgbcaaDoor
open Go.RowKit
open Go.Maps (Keyed)
set_option linter.unusedVariables false
set_option linter.unusedSimpArgs false

theorem split_map {α β : Type} {f : α → β} : ∀ {l : List α} {A B : List β} {x : β}, l.map f = A ++ x :: B → ∃ A' a B', l = A' ++ a :: B' ∧ A'.map f = A ∧ f a = x ∧ B'.map f = B
  | [], [], _, _, h => by cases h
  | [], _ :: _, _, _, h => by cases h
  | a :: l, [], B, x, h => by
    simp only [List.map_cons, List.nil_append, List.cons.injEq] at h
    exact ⟨[], a, l, rfl, rfl, h.1, h.2⟩
  | a :: l, y :: A, B, x, h => by
    simp only [List.map_cons, List.cons_append, List.cons.injEq] at h
    obtain ⟨A', a', B', h1, h2, h3, h4⟩ := split_map h.2
    exact ⟨a :: A', a', B', by rw [h1]; rfl, by rw [List.map_cons, h.1, h2], h3, h4⟩
section
variable {α κ : Type} [DecidableEq κ] (key : α → κ)
def getA : List α → κ → Option α
  | [], _ => none
  | a :: l, k => if key a = k then some a else getA l k
def putA : List α → α → List α
  | [], g => [g]
  | a :: l, g => if key a = key g then g :: l else a :: putA l g
def delA : List α → κ → List α
  | [], _ => []
  | a :: l, k => if key a = k then l else a :: delA l k
variable {key}
theorem getA_some {l : List α} {k : κ} {a : α} (h : getA key l k = some a) : key a = k ∧ a ∈ l := by
  induction l with
  | nil => cases h
  | cons b l ih =>
    unfold getA at h
    split at h
    · injection h with h; subst h; exact ⟨by assumption, by simp⟩
    · obtain ⟨h1, h2⟩ := ih h; exact ⟨h1, by simp [h2]⟩
theorem getA_none {l : List α} {k : κ} (h : getA key l k = none) : ∀ a ∈ l, key a ≠ k := by
  induction l with
  | nil => intro a ha; cases ha
  | cons b l ih =>
    unfold getA at h
    split at h
    · cases h
    · intro a ha
      rcases List.mem_cons.1 ha with rfl | ha
      · assumption
      · exact ih h a ha
theorem getA_mem {l : List α} (hnd : (l.map key).Nodup) {a : α} (ha : a ∈ l) : getA key l (key a) = some a := by
  induction l with
  | nil => cases ha
  | cons b l ih =>
    unfold getA
    rcases List.mem_cons.1 ha with rfl | ha
    · rw [if_pos rfl]
    · have hb : key b ∉ l.map key := (List.nodup_cons.1 hnd).1
      rw [if_neg (fun e : key b = key a => hb (by rw [e]; exact List.mem_map_of_mem ha))]
      exact ih (List.nodup_cons.1 hnd).2 ha
theorem putA_new {l : List α} {g : α} (h : ∀ a ∈ l, key a ≠ key g) : putA key l g = l ++ [g] := by
  induction l with
  | nil => rfl
  | cons b l ih =>
    unfold putA
    rw [if_neg (h b (by simp)), ih fun a ha => h a (by simp [ha])]; rfl
theorem putA_split {A C : List α} {u g : α} (hA : ∀ a ∈ A, key a ≠ key g) (hu : key u = key g) : putA key (A ++ u :: C) g = A ++ g :: C := by
  induction A with
  | nil => show putA key (u :: C) g = _; unfold putA; rw [if_pos hu]; rfl
  | cons b A ih =>
    show putA key (b :: (A ++ u :: C)) g = _
    unfold putA
    rw [if_neg (hA b (by simp)), ih fun a ha => hA a (by simp [ha])]; rfl
theorem delA_none {l : List α} {k : κ} (h : ∀ a ∈ l, key a ≠ k) : delA key l k = l := by
  induction l with
  | nil => rfl
  | cons b l ih => unfold delA; rw [if_neg (h b (by simp)), ih fun a ha => h a (by simp [ha])]
theorem delA_split {A C : List α} {u : α} {k : κ} (hA : ∀ a ∈ A, key a ≠ k) (hu : key u = k) : delA key (A ++ u :: C) k = A ++ C := by
  induction A with
  | nil => show delA key (u :: C) k = _; unfold delA; rw [if_pos hu]; rfl
  | cons b A ih =>
    show delA key (b :: (A ++ u :: C)) k = _
    unfold delA
    rw [if_neg (hA b (by simp)), ih fun a ha => hA a (by simp [ha])]; rfl
theorem putA_get (l : List α) (g : α) (k : κ) : getA key (putA key l g) k = if key g = k then some g else getA key l k := by
  induction l with
  | nil => simp [putA, getA]
  | cons b l ih =>
    unfold putA
    by_cases h : key b = key g
    · rw [if_pos h]
      by_cases h2 : key g = k
      · simp [getA, h2]
      · simp [getA, h, h2]
    · rw [if_neg h]
      by_cases h2 : key b = k
      · have : ¬ key g = k := fun e => h (h2.trans e.symm)
        simp [getA, h2, this]
      · simp [getA, h2, ih]
theorem putA_keys (l : List α) (g : α) : (putA key l g).map key = if key g ∈ l.map key then l.map key else l.map key ++ [key g] := by
  induction l with
  | nil => simp [putA]
  | cons b l ih =>
    unfold putA
    by_cases h : key b = key g
    · rw [if_pos h]; simp [h]
    · rw [if_neg h, List.map_cons, ih]
      by_cases h2 : key g ∈ l.map key
      · rw [if_pos h2, if_pos (by simp only [List.map_cons, List.mem_cons]; exact .inr h2)]; rfl
      · rw [if_neg h2, if_neg (by simp only [List.map_cons, List.mem_cons, not_or]; exact ⟨fun e => h e.symm, h2⟩)]; rfl
theorem putA_nd {l : List α} (hnd : (l.map key).Nodup) (g : α) : ((putA key l g).map key).Nodup := by
  rw [putA_keys]
  split
  · exact hnd
  · rename_i h
    rw [List.nodup_append]
    exact ⟨hnd, by simp, fun a ha b hb => by simp only [List.mem_singleton] at hb; subst hb; exact fun e => h (e ▸ ha)⟩
theorem putA_mem {l : List α} {g a : α} (h : a ∈ putA key l g) : a = g ∨ a ∈ l := by
  induction l with
  | nil => simp [putA] at h; exact .inl h
  | cons b l ih =>
    unfold putA at h
    split at h
    · rcases List.mem_cons.1 h with rfl | h
      · exact .inl rfl
      · exact .inr (by simp [h])
    · rcases List.mem_cons.1 h with rfl | h
      · exact .inr (by simp)
      · rcases ih h with h | h
        · exact .inl h
        · exact .inr (by simp [h])
variable {enc : κ → Value} {val : α → Value} (hinj : ∀ a b, enc a = enc b → a = b)
include hinj
theorem got_assoc {l : List α} (hnd : (l.map key).Nodup) {k : κ} {z u : Value} {ok : Bool} (h : Got (l.map fun a => (enc (key a), val a)) (enc k) z u ok) :
    (∃ a, getA key l k = some a ∧ u = val a ∧ ok = true) ∨ (getA key l k = none ∧ u = z ∧ ok = false) := by
  cases h with
  | yes _ h =>
    obtain ⟨a, ha, he⟩ := List.mem_map.1 h
    simp only [Prod.mk.injEq] at he
    obtain ⟨h1, h2⟩ := he
    have hk := hinj _ _ h1
    subst hk
    exact .inl ⟨a, getA_mem hnd ha, h2.symm, rfl⟩
  | no h =>
    refine .inr ⟨?_, rfl, rfl⟩
    cases hg : getA key l k with
    | none => rfl
    | some a =>
      obtain ⟨h1, h2⟩ := getA_some hg
      exact absurd (by rw [h1]) (h _ (List.mem_map_of_mem (f := fun a => (enc (key a), val a)) h2))
theorem put_assoc {l : List α} (hnd : (l.map key).Nodup) {g : α} {l' : List (Value × Value)} (h : Put (l.map fun a => (enc (key a), val a)) (enc (key g)) (val g) l') : l' = (putA key l g).map fun a => (enc (key a), val a) := by
  cases h with
  | new h =>
    rw [putA_new fun a ha e => h _ (List.mem_map_of_mem (f := fun a => (enc (key a), val a)) ha) (by rw [e])]
    simp
  | old A B u h =>
    obtain ⟨A', a, B', rfl, rfl, h3, rfl⟩ := split_map h
    simp only [Prod.mk.injEq] at h3
    have hk := hinj _ _ h3.1
    rw [putA_split (fun x hx e => ?_) hk]
    · simp
    · rw [List.map_append, List.map_cons] at hnd
      have := (List.nodup_append.1 hnd).2.2 (key x) (List.mem_map_of_mem hx) (key a) (by simp)
      exact this (e.trans hk.symm)
theorem gone_assoc {l : List α} (hnd : (l.map key).Nodup) {k : κ} {l' : List (Value × Value)} (h : Gone (l.map fun a => (enc (key a), val a)) (enc k) l') : l' = (delA key l k).map fun a => (enc (key a), val a) := by
  cases h with
  | no h =>
    rw [delA_none fun a ha e => h _ (List.mem_map_of_mem (f := fun a => (enc (key a), val a)) ha) (by rw [e])]
  | yes A B u h =>
    obtain ⟨A', a, B', rfl, rfl, h3, rfl⟩ := split_map h
    simp only [Prod.mk.injEq] at h3
    have hk := hinj _ _ h3.1
    rw [delA_split (fun x hx e => ?_) hk]
    · simp
    · rw [List.map_append, List.map_cons] at hnd
      have := (List.nodup_append.1 hnd).2.2 (key x) (List.mem_map_of_mem hx) (key a) (by simp)
      exact this (e.trans hk.symm)
end
end Go.Proofs.YtlldgodjfpgbcaaDoor
