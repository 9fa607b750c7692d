/- garnerref8.fits, Mend. garnerref14.may, row. Nothing is claimed here. -/
import Derived.Test.YtlldgodjfpgbcaaDoorK25
namespace Go.Proofs.YtlldgodjfpgbcaaDoor
open Go.RowKit
set_option linter.unusedVariables false
set_option linter.unusedSimpArgs false
set_option maxRecDepth 100000

theorem rcodeM_eq (k m : Nat) : rcodeM k m = codeM k m := by
  unfold rcodeM codeM
  congr 1
  exact List.map_congr_left fun i _ => rcodeRow_eq k i
theorem blends_take {N : Nat} {C D : List (List UInt8)} {i : Nat} (h : i < C.length) : (blends N C D).take (i + 1) = (blends N C D).take i ++ [blendB N (rw_ C i) D] := by
  rw [List.take_add_one]
  congr 1
  unfold blends
  rw [List.getElem?_map, rw_some h]; rfl
theorem selP_full {k : Nat} {rows : List (List UInt8)} {i : Nat} (h : (selP k rows i).length = k) : ∀ d, selP k rows (i + d) = selP k rows i
  | 0 => rfl
  | d + 1 => by
    rw [← Nat.add_assoc, selP_succ, selP_full h d, if_neg (by omega)]
theorem selP_end {k n : Nat} {rows : List (List UInt8)} {i : Nat} (hr : rows.length = n) (hi : i ≤ n) (h : i = n ∨ (selP k rows i).length = k) : selP k rows i = selS k rows := by
  rcases h with h | h
  · subst h; exact selP_all hr
  · rw [← selP_all hr, ← selP_full h (n - i)]
    congr 1
    omega
set_option maxHeartbeats 4000000 in
theorem fitsR_fn (v : Value) (rows : List (List UInt8)) (k m N : Nat) (h1 : 1 ≤ k) (h2 : k + m ≤ 14) (hr : rows.length = k + m) (hN : ∀ l ∈ rows, l ≠ [] → l.length = N) (w0 : World) (hs : SS w0 v rows) :
    Fn Tryd.prog 38 #[v, .int .i64 (k : Int), .int .i64 (m : Int)] w0 fun r w' => (∃ n : Int, r = .tuple #[.int .i64 n, .bool true]) ∧ Below w0.heap.size w0 w' := by
  obtain ⟨cs, hcs, hci⟩ := hs.of
  have hcl := hci.len
  obtain ⟨a, cp, rfl⟩ := hcs.shape
  rw [hcl, hr] at hcs ⊢
  obtain ⟨b1, o1, rfl, _⟩ := hcs.addr (by omega)
  refine Fn.mk Tryd.func38 rfl (by kernel_rfl) Tryd.ntmps38 rfl (by rw [Tryd.results38]) ?_
  refine RunR ?_
  refine (codeR_fn k m h1 h2 _).mono fun r w1 ⟨u, hru, _, hbl⟩ => ?_
  subst hru
  have hr1 := (hcs.below hbl).toN.rowOf
  conv => whnf
  refine RunR ?_
  refine V.loop (α := Nat × Nat) (fun z => [(0, .slice (some ⟨b1, o1, none⟩) (k + m) cp), (10, .int .i64 (z.2 : Int)), (11, .int .i64 (z.1 : Int))])
    (fun z w' => z.1 ≤ k + m ∧ (z.2 = 0 ∨ z.2 = N) ∧ w' = w1) (fun z => k + m - z.1) (0, 0) ⟨rfl, rfl, rfl, trivial⟩ ⟨Nat.zero_le _, .inl rfl, rfl⟩ ?_
  rintro ⟨i, n⟩ w ⟨hi, hn, hww⟩
  subst hww
  dsimp only at hi hn
  refine RunR ?_
  refine Br.dec (fun hlt => ?_) (fun hlt => ?_)
  · have hin : i < k + m := by omega
    obtain ⟨ui, hui, hsi⟩ := hci.get (rw_some (show i < rows.length by omega))
    have hNi := hN _ (rw_mem (C := rows) (i := i) (by omega))
    generalize rw_ rows i = l at *
    obtain ⟨ai, ci, rfl⟩ := hsi.shape
    rw [bv_length] at hui
    refine RunR ?_
    intro o3 ho3
    conv => whnf
    refine RunR ?_
    refine Ld.row1 ttOk hr1 rfl rfl (k := i) hui (by omega) ?_
    conv => whnf
    refine RunR ?_
    by_cases he : l = []
    · subst he
      refine RunR ?_
      exact ⟨(i + 1, n), ⟨rfl, rfl, rfl, trivial⟩, ⟨by dsimp only; omega, hn, rfl⟩, (by first | omega | (dsimp only; omega))⟩
    · have hlN := hNi he
      have hpos := List.length_pos_iff.2 he
      rcases (show n = 0 ∨ (n ≠ 0 ∧ n = N) by omega) with h0 | ⟨h0, hnN⟩
      · refine RunR ?_
        intro o4 ho4
        conv => whnf
        refine RunR ?_
        refine Ld.row1 ttOk hr1 rfl rfl (k := i) hui (by omega) ?_
        conv => whnf
        refine RunR ?_
        exact ⟨(i + 1, l.length), ⟨rfl, rfl, rfl, trivial⟩, ⟨by dsimp only; omega, .inr hlN, rfl⟩, (by first | omega | (dsimp only; omega))⟩
      · refine RunR ?_
        intro o4 ho4
        conv => whnf
        refine RunR ?_
        refine Ld.row1 ttOk hr1 rfl rfl (k := i) hui (by omega) ?_
        conv => whnf
        refine RunR ?_
        intro o5 ho5
        conv => whnf
        refine RunR ?_
        refine Ld.row1 ttOk hr1 rfl rfl (k := i) hui (by omega) ?_
        conv => whnf
        refine RunR ?_
        exact ⟨(i + 1, l.length), ⟨rfl, rfl, rfl, trivial⟩, ⟨by dsimp only; omega, .inr hlN, rfl⟩, (by first | omega | (dsimp only; omega))⟩
  · obtain rfl : i = k + m := by omega
    refine RunR ?_
    exact ⟨⟨_, rfl⟩, hbl⟩
/-- what garnerref8.Mend gives -/
def MendRGot (k m N : Nat) (rows : List (List UInt8)) (w0 : World) (r : Value) (w' : World) : Prop :=
  if (selS k rows).length < k then r = .tuple #[.slice none 0 0, .int .i64 15] else ∃ u out us Rs, MendR k m N rows out ∧ InsR us out Rs ∧ r = .tuple #[u, .int .i64 0] ∧ Sep Tryd.prog w0.heap.size w0 w' (.row 22 1 u out.length us :: Rs)
set_option maxHeartbeats 16000000 in
theorem rmend_fn (k m N : Nat) (v : Value) (rows : List (List UInt8)) (h1 : 1 ≤ k) (h2 : k + m ≤ 14) (hr : rows.length = k + m) (hN : ∀ l ∈ rows, l ≠ [] → l.length = N) (hN0 : N ≤ 1000000) (w0 : World) (hv : SS w0 v rows) :
    Fn Tryd.prog 26 #[v, .int .i64 (k : Int), .int .i64 (m : Int)] w0 fun r w' => MendRGot k m N rows w0 r w' ∧ Below w0.heap.size w0 w' := by
  have hF := fitsR_fn v rows k m N h1 h2 hr hN w0 hv
  obtain ⟨cs, hcs, hci⟩ := hv.of
  have hcl := hci.len
  obtain ⟨a, cp, rfl⟩ := hcs.shape
  rw [hcl, hr] at hcs hF ⊢
  obtain ⟨b1, o1, rfl, _⟩ := hcs.addr (by omega)
  have hDl : ∀ l ∈ haveS rows (selS k rows), l.length = N := fun l hl => by
    obtain ⟨i, hi, rfl⟩ := List.mem_map.1 hl
    exact hN _ (rw_mem (selS_mem hi).1) (selS_mem hi).2
  unfold MendRGot
  refine Fn.mk Tryd.func26 rfl (by kernel_rfl) Tryd.ntmps26 rfl (by rw [Tryd.results26]) ?_
  refine RunR ?_
  refine hF.mono fun r w ⟨⟨nf, hr'⟩, hbl⟩ => ?_
  subst hr'
  conv => whnf
  refine RunR ?_
  refine (codeR_fn k m h1 h2 _).mono fun r w1 ⟨u, hru, hmat, hbl1⟩ => ?_
  subst hru
  have hW1 := hbl.trans (hbl1.mono hbl.size)
  have hcode := hmat.ss
  rw [rcodeM_eq] at hcode
  obtain ⟨ks, hks, hki⟩ := hcode.of
  have hkl := hki.len
  rw [codeM_len] at hkl
  obtain ⟨ka, kc, rfl⟩ := hks.shape
  rw [hkl] at hks hcode ⊢
  obtain ⟨kb, ko, rfl, _⟩ := hks.addr (by omega)
  replace hcs := hcs.below hW1
  replace hci := hci.below hW1
  clear hmat hF hbl hbl1
  have hL := Sep.start Tryd.prog w1
  have hB := Nat.le_refl w1.heap.size
  have hrow1 : ∀ {x : World} {L' : List Res}, Sep Tryd.prog w1.heap.size w1 x L' → Row x b1 o1 cs := fun h => (hcs.below h.below).toN.rowOf
  have hrow2 : ∀ {x : World} {L' : List Res}, Sep Tryd.prog w1.heap.size w1 x L' → Row x kb ko ks := fun h => (hks.below h.below).toN.rowOf
  conv => whnf
  repeat (first | (refine RunH ?_; intro w hL hB; try clear w) | (refine Both.mk ?_ ?_ <;> conv => whnf) | fail)
  refine V.loop (α := Nat × Value × Value × List Value × List Value) (fun z => [(0, .slice (some ⟨b1, o1, none⟩) (k + m) cp), (1, .int .i64 (k : Int)), (2, .int .i64 (m : Int)), (10, .slice (some ⟨kb, ko, none⟩) (k + m) kc), (12, z.2.1), (13, z.2.2.1), (14, .int .i64 (z.1 : Int))])
    (fun z w' => z.1 ≤ k + m ∧ Ins w1 z.2.2.2.1 (haveS rows (selP k rows z.1)) ∧ Ins w1 z.2.2.2.2 (codeSel k m (selP k rows z.1)) ∧ w1.heap.size ≤ w'.heap.size ∧ Sep Tryd.prog w1.heap.size w1 w' [.row 22 1 z.2.1 (selP k rows z.1).length z.2.2.2.1, .row 22 1 z.2.2.1 (selP k rows z.1).length z.2.2.2.2]) (fun z => k + m - z.1) (0, .slice none 0 0, .slice none 0 0, [], []) ⟨rfl, rfl, rfl, rfl, rfl, rfl, rfl, trivial⟩ ⟨Nat.zero_le _, by dsimp only; rw [selP_zero]; exact Ins.nil _, by dsimp only; rw [selP_zero]; exact Ins.nil _, hB, by dsimp only; rw [selP_zero]; exact (hL.nilRow 22 1).nilRow 22 1⟩ ?_
  clear hL hB
  rintro ⟨i, hv9, sv9, hs, ss⟩ w ⟨hi, hhs, hss, hB, hL⟩
  dsimp only at hi hhs hss hL
  have hsl := selP_len k rows i
  obtain ⟨ha, hc, rfl⟩ := (hL.rowN (i := 0) rfl).shape
  obtain ⟨sa, sc, rfl⟩ := (hL.rowN (i := 1) rfl).shape
  have hsuc := selP_succ k rows i
  by_cases hgo : i < k + m ∧ (selP k rows i).length < k
  · obtain ⟨hin, hlk⟩ := hgo
    obtain ⟨ui, hui, hsi⟩ := hci.get (rw_some (show i < rows.length by omega))
    obtain ⟨ai, ci, rfl⟩ := hsi.shape
    obtain ⟨xi, hxi, hsxi⟩ := hki.get (rw_some (show i < (codeM k m).length by rw [codeM_len]; omega))
    obtain ⟨xa, xc, rfl⟩ := hsxi.shape
    rw [bv_length] at hui
    repeat (first | (refine RunH ?_; intro w hL hB; try clear w) | (refine Both.mk ?_ ?_ <;> conv => whnf) | fail)
    intro o3 ho3
    conv => whnf
    repeat (first | (refine RunH ?_; intro w hL hB; try clear w) | (refine Both.mk ?_ ?_ <;> conv => whnf) | fail)
    refine Ld.row1 ttOk (hrow1 hL) rfl rfl (k := i) hui (by omega) ?_
    conv => whnf
    by_cases he : rw_ rows i = []
    · rw [if_neg (fun h => h.1 he)] at hsuc
      rw [he]
      repeat (first | (refine RunH ?_; intro w hL hB; try clear w) | (refine Both.mk ?_ ?_ <;> conv => whnf) | fail)
      exact ⟨(i + 1, _, _, hs, ss), ⟨rfl, rfl, rfl, rfl, rfl, rfl, rfl, trivial⟩, ⟨by dsimp only; omega, by dsimp only; rw [hsuc]; exact hhs, by dsimp only; rw [hsuc]; exact hss, hB, by dsimp only; rw [hsuc]; exact hL⟩, (by first | omega | (dsimp only; omega))⟩
    · rw [if_pos ⟨he, hlk⟩] at hsuc
      have hpos := List.length_pos_iff.2 he
      repeat (first | (refine RunH ?_; intro w hL hB; try clear w) | (refine Both.mk ?_ ?_ <;> conv => whnf) | fail)
      intro o4 ho4
      conv => whnf
      repeat (first | (refine RunH ?_; intro w hL hB; try clear w) | (refine Both.mk ?_ ?_ <;> conv => whnf) | fail)
      refine Ld.row1 ttOk (hrow1 hL) rfl rfl (k := i) hui (by omega) ?_
      conv => whnf
      repeat (first | (refine RunH ?_; intro w hL hB; try clear w) | (refine Both.mk ?_ ?_ <;> conv => whnf) | fail)
      refine Rv.buildS ttOk hL tl29 tl22 rfl rfl (by intro u hu; simp only [List.mem_singleton] at hu; subst hu; rfl) (by decide) (by decide) hB fun bo w hL hB => ?_
      conv => whnf
      refine Rv.appendS ttOk hL tl29 tl22 rfl (by decide) 1 rfl (hL.rowN (i := 0) rfl) (allOne_mem rfl) (by simp only [maxLen]; omega) (by omega) hB fun vo w hL hB => ?_
      dsimp only [List.set] at hL
      replace hL := hL.tl
      conv => whnf
      repeat (first | (refine RunH ?_; intro w hL hB; try clear w) | (refine Both.mk ?_ ?_ <;> conv => whnf) | fail)
      intro o5 ho5
      conv => whnf
      repeat (first | (refine RunH ?_; intro w hL hB; try clear w) | (refine Both.mk ?_ ?_ <;> conv => whnf) | fail)
      refine Ld.row1 ttOk (hrow2 hL) rfl rfl (k := i) hxi (by omega) ?_
      conv => whnf
      repeat (first | (refine RunH ?_; intro w hL hB; try clear w) | (refine Both.mk ?_ ?_ <;> conv => whnf) | fail)
      refine Rv.buildS ttOk hL tl29 tl22 rfl rfl (by intro u hu; simp only [List.mem_singleton] at hu; subst hu; rfl) (by decide) (by decide) hB fun bo2 w hL hB => ?_
      conv => whnf
      refine Rv.appendS ttOk hL tl29 tl22 rfl (by decide) 2 rfl (hL.rowN (i := 0) rfl) (allOne_mem rfl) (by simp only [maxLen]; omega) (by omega) hB fun vp w hL hB => ?_
      dsimp only [List.set] at hL
      replace hL := hL.tl
      conv => whnf
      repeat (first | (refine RunH ?_; intro w hL hB; try clear w) | (refine Both.mk ?_ ?_ <;> conv => whnf) | fail)
      have e1 : (selP k rows i ++ [i]).length = (selP k rows i).length + 1 := by simp
      refine ⟨(i + 1, vo, vp, hs ++ [.slice ai (rw_ rows i).length ci], ss ++ [.slice xa (bv (rw_ (codeM k m) i)).length xc]), ⟨rfl, rfl, rfl, rfl, rfl, rfl, rfl, trivial⟩, ⟨by dsimp only; omega, ?_, ?_, hB, ?_⟩, (by first | omega | (dsimp only; omega))⟩
      · dsimp only
        rw [hsuc, haveS_snoc]
        refine hhs.snoc ?_
        rw [bv_length] at hsi
        exact hsi
      · dsimp only
        rw [hsuc, codeSel_snoc]
        exact hss.snoc hsxi
      · dsimp only
        rw [hsuc, e1]
        exact hL
  have hex : i = k + m ∨ (i < k + m ∧ (selP k rows i).length = k) := by omega
  have hsel : selP k rows i = selS k rows := selP_end hr hi (by omega)
  rw [hsel] at hhs hss hL hex ⊢
  rw [hsel] at hsl hsuc hgo
  have hle : (selS k rows).length ≤ k := by omega
  clear hsl hsuc hgo
  have hI := codeSel_inj (k := k) (m := m) h2 hr
  have hCr := codeSel_row (k := k) (m := m) hr
  have hmr : ∀ C out, InvR k (codeSel k m (selS k rows)) C → out = blends N (codeM k m) (blends N C (haveS rows (selS k rows))) → MendR k m N rows out := fun C out h1 h => ⟨C, h1, h⟩
  generalize selS k rows = sel at *
  clear hsel
  rcases hex with hex | ⟨hex, hex2⟩
  all_goals
    rcases (show sel.length < k ∨ sel.length = k by omega) with hfew | hlen
    · first
        | (exfalso; omega)
        | (repeat (first | (refine RunH ?_; intro w hL hB; try clear w) | (refine Both.mk ?_ ?_ <;> conv => whnf) | fail)
           exact ⟨by rw [if_pos hfew], hW1.trans (hL.below.mono hW1.size)⟩)
    rw [hlen] at hL ⊢
    have hq1 := sl_ss (hL.row (i := 0) rfl) (hhs.below hL.below)
    have hq2 := sl_ss (hL.row (i := 1) rfl) (hss.below hL.below)
    repeat (first | (refine RunH ?_; intro w hL hB; try clear w) | (refine Both.mk ?_ ?_ <;> conv => whnf) | fail)
    refine (invertR_fn _ _ k h1 (by omega) (by simp [codeSel, hlen]) hCr (hI hlen) _ hq2).mono fun r w2 ⟨u, C, hinv, hC, hru, hbl2⟩ => ?_
    subst hru
    have hW2 := hL.below.trans (hbl2.mono hL.below.size)
    have hW3 := hW1.trans (hW2.mono hW1.size)
    obtain ⟨us, hus, hui⟩ := hC.of
    have hul := hui.len
    rw [hinv.len] at hul
    obtain ⟨ua, uc, rfl⟩ := hus.shape
    rw [hul] at hus ⊢
    obtain ⟨ub, uo, rfl, _⟩ := hus.addr (by omega)
    replace hq1 := hq1.below hbl2
    replace hcode := hcode.below hW2
    replace hks := hks.below hW2
    replace hki := hki.below hW2
    have hH0 : (haveS rows sel).length = k := by simp [haveS, hlen]
    clear hL hB hq2 hhs hss hbl2 hrow1 hrow2
    have hL := Sep.start Tryd.prog w2
    have hB := Nat.le_refl w2.heap.size
    have hB2 := blends_row (N := N) (C := C) hDl
    have hB3 := blends_len N C (haveS rows sel)
    have htk := fun i h => blends_take (N := N) (C := C) (D := haveS rows sel) (i := i) h
    have hmr' := hmr C _ hinv rfl
    conv => whnf
    repeat (first | (refine RunH ?_; intro w hL hB; try clear w) | (refine Both.mk ?_ ?_ <;> conv => whnf) | fail)
    refine V.loop (α := Nat × Value × List Value × List Res) (fun z => [(1, .int .i64 (k : Int)), (2, .int .i64 (m : Int)), (10, .slice (some ⟨kb, ko, none⟩) (k + m) kc), (12, .slice ha k hc), (15, .slice (some ⟨ub, uo, none⟩) k uc), (17, z.2.1), (18, .int .i64 (z.1 : Int))])
      (fun z w' => z.1 ≤ k ∧ InsR z.2.2.1 ((blends N C (haveS rows sel)).take z.1) z.2.2.2 ∧ w2.heap.size ≤ w'.heap.size ∧ Sep Tryd.prog w2.heap.size w2 w' (.row 22 1 z.2.1 z.1 z.2.2.1 :: z.2.2.2)) (fun z => k - z.1) (0, .slice none 0 0, [], []) ⟨rfl, rfl, rfl, rfl, rfl, rfl, rfl, trivial⟩ ⟨Nat.zero_le _, by simpa using InsR.nil [], hB, hL.nilRow 22 1⟩ ?_
    clear hL hB
    rintro ⟨j, dv, ds, Rs⟩ w ⟨hj, hds, hB, hL⟩
    dsimp only at hj hds hL
    have hdl : ds.length = j := by rw [hds.len, List.length_take, hB3, hinv.len]; omega
    obtain ⟨da, dc, rfl⟩ := (hL.rowN (i := 0) rfl).shape
    repeat (first | (refine RunH ?_; intro w hL hB; try clear w) | (refine Both.mk ?_ ?_ <;> conv => whnf) | fail)
    refine Br.dec (fun hlt => ?_) (fun hlt => ?_)
    · have hjk : j < k := by omega
      obtain ⟨uj, huj, hsj⟩ := hui.get (rw_some (show j < C.length by rw [hinv.len]; omega))
      have htj := htk j (by rw [hinv.len]; omega)
      have hcj := hinv.row _ (rw_mem (C := C) (i := j) (by rw [hinv.len]; omega))
      generalize rw_ C j = cj at *
      obtain ⟨ja, jc, rfl⟩ := hsj.shape
      repeat (first | (refine RunH ?_; intro w hL hB; try clear w) | (refine Both.mk ?_ ?_ <;> conv => whnf) | fail)
      intro o6 ho6
      conv => whnf
      repeat (first | (refine RunH ?_; intro w hL hB; try clear w) | (refine Both.mk ?_ ?_ <;> conv => whnf) | fail)
      refine Ld.row1 ttOk (hus.below hL.below).toN.rowOf rfl rfl (k := j) huj (by omega) ?_
      conv => whnf
      repeat (first | (refine RunH ?_; intro w hL hB; try clear w) | (refine Both.mk ?_ ?_ <;> conv => whnf) | fail)
      refine (blend_fn _ _ cj (haveS rows sel) N (by omega) hDl (by omega) (by omega) _ (hsj.below hL.below) (hq1.below hL.below)).mono fun r w ⟨hown, hbl⟩ => ?_
      rw [rblendB_eq] at hown
      have hbb := blendB_len N cj _ hDl
      generalize blendB N cj (haveS rows sel) = bb at *
      rw [← hbb] at hown
      replace hL := hL.addRow hB hbl hown
      replace hB := Nat.le_trans hB hbl.size
      clear hown hbl
      obtain ⟨va, vc, rfl⟩ := (hL.rowN (i := 0) rfl).shape
      conv => whnf
      repeat (first | (refine RunH ?_; intro w hL hB; try clear w) | (refine Both.mk ?_ ?_ <;> conv => whnf) | fail)
      refine Rv.buildS ttOk hL tl29 tl22 rfl rfl (by intro u hu; simp only [List.mem_singleton] at hu; subst hu; rfl) (by decide) (by decide) hB fun bo2 w hL hB => ?_
      conv => whnf
      refine Rv.appendS ttOk hL tl29 tl22 rfl (by decide) 2 rfl (hL.rowN (i := 0) rfl) (allOne_mem rfl) (by simp only [maxLen]; omega) (by omega) hB fun vp w hL hB => ?_
      dsimp only [List.set] at hL
      replace hL := hL.tl
      conv => whnf
      repeat (first | (refine RunH ?_; intro w hL hB; try clear w) | (refine Both.mk ?_ ?_ <;> conv => whnf) | fail)
      refine ⟨(j + 1, vp, ds ++ [_], bR _ bb :: Rs), ⟨rfl, rfl, rfl, rfl, rfl, rfl, rfl, trivial⟩, ⟨by dsimp only; omega, ?_, hB, hL.perm (.swap _ _ _)⟩, (by first | omega | (dsimp only; omega))⟩
      dsimp only
      rw [htj]
      exact (hds.cons _).snoc (List.mem_cons_self ..)
    obtain rfl : k = j := by omega
    rw [List.take_of_length_le (by rw [hB3, hinv.len]; exact Nat.le_refl _)] at hds
    have hq3 := sl_ss (hL.row (i := 0) rfl) ((hds.cons _).ins hL)
    have hW4 := hL.below
    have hW5 := hW3.trans (hW4.mono hW3.size)
    replace hks := hks.below hW4
    replace hki := hki.below hW4
    clear hL hB hds htk hC hus hui hlt
    have hD0 : (blends N C (haveS rows sel)).length = k := by rw [hB3, hinv.len]
    generalize blends N C (haveS rows sel) = D at *
    have hL := Sep.start Tryd.prog w
    have hB := Nat.le_refl w.heap.size
    have htk := fun i h => blends_take (N := N) (C := codeM k m) (D := D) (i := i) h
    repeat (first | (refine RunH ?_; intro w hL hB; try clear w) | (refine Both.mk ?_ ?_ <;> conv => whnf) | fail)
    refine V.loop (α := Nat × Value × List Value × List Res) (fun z => [(1, .int .i64 (k : Int)), (2, .int .i64 (m : Int)), (10, .slice (some ⟨kb, ko, none⟩) (k + m) kc), (17, .slice da k dc), (19, z.2.1), (20, .int .i64 (z.1 : Int))])
      (fun z w' => z.1 ≤ k + m ∧ InsR z.2.2.1 ((blends N (codeM k m) D).take z.1) z.2.2.2 ∧ w.heap.size ≤ w'.heap.size ∧ Sep Tryd.prog w.heap.size w w' (.row 22 1 z.2.1 z.1 z.2.2.1 :: z.2.2.2)) (fun z => k + m - z.1) (0, .slice none 0 0, [], []) ⟨rfl, rfl, rfl, rfl, rfl, rfl, trivial⟩ ⟨Nat.zero_le _, by simpa using InsR.nil [], hB, hL.nilRow 22 1⟩ ?_
    clear hL hB
    rintro ⟨j, ov, os, Rs⟩ w ⟨hj, hos, hB, hL⟩
    dsimp only at hj hos hL
    have hol : os.length = j := by rw [hos.len, List.length_take, blends_len, codeM_len]; omega
    obtain ⟨oa, oc, rfl⟩ := (hL.rowN (i := 0) rfl).shape
    repeat (first | (refine RunH ?_; intro w hL hB; try clear w) | (refine Both.mk ?_ ?_ <;> conv => whnf) | fail)
    refine Br.dec (fun hlt => ?_) (fun hlt => ?_)
    · have hjk : j < k + m := by omega
      obtain ⟨uj, huj, hsj⟩ := hki.get (rw_some (show j < (codeM k m).length by rw [codeM_len]; omega))
      have htj := htk j (by rw [codeM_len]; omega)
      have hcj := codeM_row _ (rw_mem (C := codeM k m) (i := j) (by rw [codeM_len]; omega))
      generalize rw_ (codeM k m) j = cj at *
      obtain ⟨ja, jc, rfl⟩ := hsj.shape
      repeat (first | (refine RunH ?_; intro w hL hB; try clear w) | (refine Both.mk ?_ ?_ <;> conv => whnf) | fail)
      intro o6 ho6
      conv => whnf
      repeat (first | (refine RunH ?_; intro w hL hB; try clear w) | (refine Both.mk ?_ ?_ <;> conv => whnf) | fail)
      refine Ld.row1 ttOk (hks.below hL.below).toN.rowOf rfl rfl (k := j) huj (by omega) ?_
      conv => whnf
      repeat (first | (refine RunH ?_; intro w hL hB; try clear w) | (refine Both.mk ?_ ?_ <;> conv => whnf) | fail)
      refine (blend_fn _ _ cj D N (by omega) hB2 (by omega) (by omega) _ (hsj.below hL.below) (hq3.below hL.below)).mono fun r w ⟨hown, hbl⟩ => ?_
      rw [rblendB_eq] at hown
      have hbb := blendB_len N cj _ hB2
      generalize blendB N cj D = bb at *
      rw [← hbb] at hown
      replace hL := hL.addRow hB hbl hown
      replace hB := Nat.le_trans hB hbl.size
      clear hown hbl
      obtain ⟨va, vc, rfl⟩ := (hL.rowN (i := 0) rfl).shape
      conv => whnf
      repeat (first | (refine RunH ?_; intro w hL hB; try clear w) | (refine Both.mk ?_ ?_ <;> conv => whnf) | fail)
      refine Rv.buildS ttOk hL tl29 tl22 rfl rfl (by intro u hu; simp only [List.mem_singleton] at hu; subst hu; rfl) (by decide) (by decide) hB fun bo2 w hL hB => ?_
      conv => whnf
      refine Rv.appendS ttOk hL tl29 tl22 rfl (by decide) 2 rfl (hL.rowN (i := 0) rfl) (allOne_mem rfl) (by simp only [maxLen]; omega) (by omega) hB fun vp w hL hB => ?_
      dsimp only [List.set] at hL
      replace hL := hL.tl
      conv => whnf
      repeat (first | (refine RunH ?_; intro w hL hB; try clear w) | (refine Both.mk ?_ ?_ <;> conv => whnf) | fail)
      refine ⟨(j + 1, vp, os ++ [_], bR _ bb :: Rs), ⟨rfl, rfl, rfl, rfl, rfl, rfl, trivial⟩, ⟨by dsimp only; omega, ?_, hB, hL.perm (.swap _ _ _)⟩, (by first | omega | (dsimp only; omega))⟩
      dsimp only
      rw [htj]
      exact (hos.cons _).snoc (List.mem_cons_self ..)
    obtain rfl : j = k + m := by omega
    rw [List.take_of_length_le (by rw [blends_len, codeM_len]; exact Nat.le_refl _)] at hos
    have hfin := ((Sep.start Tryd.prog w0).call (Nat.le_refl _) (Turns.of_below hW5)).adds hW5.size hL
    rw [List.append_nil] at hfin
    have hel : (blends N (codeM k m) D).length = k + m := by rw [blends_len, codeM_len]
    repeat (first | (refine RunH ?_; intro w hL hB; try clear w) | (refine Both.mk ?_ ?_ <;> conv => whnf) | fail)
    exact ⟨by rw [if_neg (by omega)]; exact ⟨_, _, _, _, hmr', hos, rfl, by rw [hel]; exact hfin⟩, hW5.trans (hL.below.mono hW5.size)⟩
end Go.Proofs.YtlldgodjfpgbcaaDoor
namespace Go.Proofs.YtlldgodjfpgbcaaDoor
open Go.RowKit
set_option linter.unusedVariables false
set_option linter.unusedSimpArgs false
set_option maxRecDepth 100000

set_option maxHeartbeats 8000000 in
theorem mayR_fn (v : Value) (ls : List (List (List UInt8))) (k m size : Int) (hk : -1000 < k ∧ k < 1000) (hm : -1000 < m ∧ m < 1000) (hsz : size ≤ 1000000) (w0 : World) (hs : S3 w0 v ls) :
    Fn Tryd.prog 24 #[v, .int .i64 k, .int .i64 m, .int .i64 size] w0 fun r w' => r = .bool (decide (goodP ls k m size)) ∧ Below w0.heap.size w0 w' := by
  obtain ⟨us, hus, hul, hin⟩ := hs.of
  have hle := hus.le
  obtain ⟨a, cp, rfl⟩ := hus.shape
  rw [hul] at hus hle ⊢
  have hL := Sep.start Tryd.prog w0
  have hB := Nat.le_refl w0.heap.size
  refine Fn.mk Tryd.func24 rfl (by kernel_rfl) Tryd.ntmps24 rfl (by rw [Tryd.results24]) ?_
  repeat (first | (refine RunH ?_; intro w hL hB; try clear w) | (refine Both.mk ?_ ?_ <;> conv => whnf) | fail)
  by_cases hc : codeOk k m
  case neg =>
    have hc' : k < 1 ∨ m < 0 ∨ 14 < k ∨ 14 - k < m := Classical.byContradiction hc
    refine (codeR_bad k m hc' hk hm _).mono fun r w1 ⟨hr, hw⟩ => ?_
    subst hr; subst hw
    conv => whnf
    repeat (first | (refine RunH ?_; intro w hL hB; try clear w) | (refine Both.mk ?_ ?_ <;> conv => whnf) | fail)
    exact ⟨by rw [decide_eq_false (fun h => hc h.1)], Below.refl _ _⟩
  have hc' : 1 ≤ k ∧ 0 ≤ m ∧ k ≤ 14 ∧ m ≤ 14 - k := by unfold codeOk at hc; omega
  obtain ⟨hk1, hm0, hk14, hm14⟩ := hc'
  obtain ⟨k, rfl⟩ := Int.eq_ofNat_of_zero_le (show 0 ≤ k by omega)
  obtain ⟨m, rfl⟩ := Int.eq_ofNat_of_zero_le hm0
  refine (codeR_fn k m (by omega) (by omega) _).mono fun r w1 ⟨u, hr, _, hW1⟩ => ?_
  subst hr
  by_cases hg : 1 ≤ size ∧ size ≤ 4194304 ∧ (ls.length : Int) = k + m
  case neg =>
    have hfin : decide (goodP ls k m size) = false := decide_eq_false fun h => hg ⟨h.2.1, h.2.2.1, h.2.2.2.1⟩
    rw [hfin]
    conv => whnf
    by_cases h1 : size < 1
    · repeat (first | (refine RunH ?_; intro w hL hB; try clear w) | (refine Both.mk ?_ ?_ <;> conv => whnf) | fail)
      exact ⟨rfl, hW1⟩
    · by_cases h2 : 4194304 < size
      · repeat (first | (refine RunH ?_; intro w hL hB; try clear w) | (refine Both.mk ?_ ?_ <;> conv => whnf) | fail)
        exact ⟨rfl, hW1⟩
      · repeat (first | (refine RunH ?_; intro w hL hB; try clear w) | (refine Both.mk ?_ ?_ <;> conv => whnf) | fail)
        exact ⟨rfl, hW1⟩
  obtain ⟨hs1, hs2, hln⟩ := hg
  obtain ⟨size, rfl⟩ := Int.eq_ofNat_of_zero_le (show 0 ≤ size by omega)
  have hgood : goodP ls k m size ↔ ∀ l ∈ ls, fitL (hgt size k : Nat) l := by
    unfold goodP
    rw [Int.toNat_natCast, Int.toNat_natCast]
    exact ⟨fun h => h.2.2.2.2, fun h => ⟨hc, hs1, hs2, hln, h⟩⟩
  obtain ⟨vb, vo, rfl, _⟩ := hus.addr (by omega)
  have hh := fun w => heightR_fn size k (by omega) (by omega) (by omega) w
  generalize hgt size k = H at *
  have hbad : ∀ l ∈ ls, ¬ fitL (H : Nat) l → decide (goodP ls k m size) = false := fun l hl hn => decide_eq_false fun h => hn (hgood.1 h l hl)
  replace hus := hus.below hW1
  have hin1 : ∀ (i : Nat) (u : Value) (l : List (List UInt8)), us[i]? = some u → ls[i]? = some l → SS w1 u l := fun i u l a b => (hin i u l a b).below hW1
  clear hL hB hin hs
  have hL := Sep.start Tryd.prog w1
  have hB := Nat.le_refl w1.heap.size
  have hrow : ∀ {x : World} {L' : List Res}, Sep Tryd.prog w1.heap.size w1 x L' → Row x vb vo us := fun h => (hus.below h.below).toN.rowOf
  have hfin : ∀ {x : World} {L' : List Res}, Sep Tryd.prog w1.heap.size w1 x L' → Below w0.heap.size w0 x := fun h => hW1.trans (h.below.mono hW1.size)
  conv => whnf
  repeat (first | (refine RunH ?_; intro w hL hB; try clear w) | (refine Both.mk ?_ ?_ <;> conv => whnf) | fail)
  refine V.loop (α := Nat) (fun i => [(0, .slice (some ⟨vb, vo, none⟩) ls.length cp), (1, .int .i64 (k : Int)), (3, .int .i64 (size : Int)), (11, .int .i64 (i : Int))])
    (fun i w' => i ≤ ls.length ∧ (∀ l ∈ ls.take i, fitL (H : Nat) l) ∧ w1.heap.size ≤ w'.heap.size ∧ Sep Tryd.prog w1.heap.size w1 w' []) (fun i => ls.length - i) 0 ⟨rfl, rfl, rfl, rfl, trivial⟩ ⟨Nat.zero_le _, by simp, hB, hL⟩ ?_
  clear hL hB
  rintro i w ⟨hi, hfit, hB, hL⟩
  repeat (first | (refine RunH ?_; intro w hL hB; try clear w) | (refine Both.mk ?_ ?_ <;> conv => whnf) | fail)
  refine Br.dec (fun hlt => ?_) (fun hlt => ?_)
  · have hil : i < ls.length := by omega
    have hgi : ls[i]? = some ls[i] := List.getElem?_eq_getElem hil
    have hmem := List.getElem_mem hil
    have hts := List.take_succ_eq_append_getElem hil
    have hui : us[i]? = some us[i] := List.getElem?_eq_getElem (by omega)
    have hsi := hin1 i _ _ hui hgi
    generalize ls[i] = l at *
    generalize us[i] = u at *
    obtain ⟨ul, huls, huli⟩ := hsi.of
    have hull := huli.len
    obtain ⟨ua, uc, rfl⟩ := huls.shape
    rw [hull] at hui huls
    have hule := huls.le
    repeat (first | (refine RunH ?_; intro w hL hB; try clear w) | (refine Both.mk ?_ ?_ <;> conv => whnf) | fail)
    refine V.treeA ttOk hL (.q 0 (.q 1 (.q 2 (.q 3 (.q 4 (.q 5 (.q 6 (.q 7 (.q 8 (.q 9 (.q 10 (.q 11 (.q 12 (.q 13 (.alt 14 (.q 15 (.q 16 .nil)) .stop))))))))))))))) mixed (by decide +kernel) ?_
    replace hL := hL.drew
    conv => whnf
    repeat (first | (refine RunH ?_; intro w hL hB; try clear w) | (refine Both.mk ?_ ?_ <;> conv => whnf) | fail)
    intro o3 ho3
    conv => whnf
    refine Lq.of_class (fun x hx => Ld.row1 ttOk (hrow hx) rfl rfl (k := i) hui (by omega) rfl) ?_
    conv => whnf
    have hcase : l.length = 0 ∨ (l.length ≠ 0 ∧ (l.length : Int) = (H : Nat)) ∨ ¬ (l.length = 0 ∨ (l.length : Int) = (H : Nat)) := by omega
    rcases hcase with h0 | ⟨h0, hH⟩ | hH
    rotate_right
    · have hf := hbad l hmem fun h => hH h.1
      repeat (first | (refine RunH ?_; intro w hL hB; try clear w) | (refine Both.mk ?_ ?_ <;> conv => whnf) | fail)
      intro o4 ho4
      conv => whnf
      repeat (first | (refine RunH ?_; intro w hL hB; try clear w) | (refine Both.mk ?_ ?_ <;> conv => whnf) | fail)
      refine Lq.of_class (fun x hx => Ld.row1 ttOk (hrow hx) rfl rfl (k := i) hui (by omega) rfl) ?_
      conv => whnf
      repeat (first | (refine RunH ?_; intro w hL hB; try clear w) | (refine Both.mk ?_ ?_ <;> conv => whnf) | fail)
      refine (hh _).mono fun r w' ⟨hw', hr'⟩ => ?_
      subst hr'
      replace hw' := hw'.symm
      subst hw'
      conv => whnf
      repeat (first | (refine RunH ?_; intro w hL hB; try clear w) | (refine Both.mk ?_ ?_ <;> conv => whnf) | fail)
      exact ⟨by rw [hf], hfin hL⟩
    rotate_left
    repeat (first | (refine RunH ?_; intro w hL hB; try clear w) | (refine Both.mk ?_ ?_ <;> conv => whnf) | fail)
    intro o4 ho4
    conv => whnf
    repeat (first | (refine RunH ?_; intro w hL hB; try clear w) | (refine Both.mk ?_ ?_ <;> conv => whnf) | fail)
    refine Lq.of_class (fun x hx => Ld.row1 ttOk (hrow hx) rfl rfl (k := i) hui (by omega) rfl) ?_
    conv => whnf
    repeat (first | (refine RunH ?_; intro w hL hB; try clear w) | (refine Both.mk ?_ ?_ <;> conv => whnf) | fail)
    refine (hh _).mono fun r w' ⟨hw', hr'⟩ => ?_
    subst hr'
    replace hw' := hw'.symm
    subst hw'
    conv => whnf
    have hH2 : l.length = 0 ∨ (l.length : Int) = (H : Nat) := .inr hH
    repeat (first | (refine RunH ?_; intro w hL hB; try clear w) | (refine Both.mk ?_ ?_ <;> conv => whnf) | fail)
    rotate_left
    have hH2 : l.length = 0 ∨ (l.length : Int) = (H : Nat) := .inl h0
    repeat (first | (refine RunH ?_; intro w hL hB; try clear w) | (refine Both.mk ?_ ?_ <;> conv => whnf) | fail)
    all_goals
      clear h0
      refine V.loop (α := Nat) (fun r => [(0, .slice (some ⟨vb, vo, none⟩) ls.length cp), (1, .int .i64 (k : Int)), (3, .int .i64 (size : Int)), (11, .int .i64 (i : Int)), (12, .int .i64 (r : Int))])
        (fun r w' => r ≤ l.length ∧ (∀ x ∈ l.take r, x.length = 0 ∨ x.length = 16) ∧ w1.heap.size ≤ w'.heap.size ∧ Sep Tryd.prog w1.heap.size w1 w' []) (fun r => l.length - r) 0 ⟨rfl, rfl, rfl, rfl, rfl, trivial⟩ ⟨Nat.zero_le _, by simp, hB, hL⟩ ?_
      clear hL hB
      rintro r w ⟨hr, hrf, hB, hL⟩
      repeat (first | (refine RunH ?_; intro w hL hB; try clear w) | (refine Both.mk ?_ ?_ <;> conv => whnf) | fail)
      intro o5 ho5
      conv => whnf
      repeat (first | (refine RunH ?_; intro w hL hB; try clear w) | (refine Both.mk ?_ ?_ <;> conv => whnf) | fail)
      refine Ld.row1 ttOk (hrow hL) rfl rfl (k := i) hui (by omega) ?_
      conv => whnf
      repeat (first | (refine RunH ?_; intro w hL hB; try clear w) | (refine Both.mk ?_ ?_ <;> conv => whnf) | fail)
      refine Br.dec (fun hlt2 => ?_) (fun hlt2 => ?_)
      · have hrl : r < l.length := by omega
        have hgr : l[r]? = some l[r] := List.getElem?_eq_getElem hrl
        have hmr := List.getElem_mem hrl
        have htr := List.take_succ_eq_append_getElem hrl
        obtain ⟨x, hx, hsx⟩ := huli.get hgr
        generalize l[r] = row at *
        obtain ⟨xa, xc, rfl⟩ := hsx.shape
        rw [bv_length] at hx
        obtain ⟨ub, uo, rfl, hur⟩ := huls.addr (by omega)
        have hur : ∀ {x : World} {L' : List Res}, Sep Tryd.prog w1.heap.size w1 x L' → Row x ub uo ul := fun h => (huls.below h.below).toN.rowOf
        have hnext : (row.length = 0 ∨ row.length = 16) → ∀ x ∈ l.take (r + 1), x.length = 0 ∨ x.length = 16 := fun hr y hy => by
          rw [htr] at hy
          rcases List.mem_append.1 hy with hy | hy
          · exact hrf y hy
          · rw [List.mem_singleton] at hy; subst hy; exact hr
        repeat (first | (refine RunH ?_; intro w hL hB; try clear w) | (refine Both.mk ?_ ?_ <;> conv => whnf) | fail)
        intro o6 ho6
        conv => whnf
        repeat (first | (refine RunH ?_; intro w hL hB; try clear w) | (refine Both.mk ?_ ?_ <;> conv => whnf) | fail)
        refine Ld.row1 ttOk (hrow hL) rfl rfl (k := i) hui (by omega) ?_
        conv => whnf
        repeat (first | (refine RunH ?_; intro w hL hB; try clear w) | (refine Both.mk ?_ ?_ <;> conv => whnf) | fail)
        intro o7 ho7
        conv => whnf
        repeat (first | (refine RunH ?_; intro w hL hB; try clear w) | (refine Both.mk ?_ ?_ <;> conv => whnf) | fail)
        refine Ld.row1 ttOk (hur hL) rfl rfl (k := r) hx (by omega) ?_
        conv => whnf
        rcases (show row.length = 0 ∨ (row.length ≠ 0 ∧ row.length = 16) ∨ (row.length ≠ 0 ∧ row.length ≠ 16) by omega) with h5 | h5 | h5
        · repeat (first | (refine RunH ?_; intro w hL hB; try clear w) | (refine Both.mk ?_ ?_ <;> conv => whnf) | fail)
          exact ⟨r + 1, ⟨rfl, rfl, rfl, rfl, rfl, trivial⟩, ⟨by omega, hnext (.inl h5), hB, hL⟩, (by first | omega | (dsimp only; omega))⟩
        · repeat (first | (refine RunH ?_; intro w hL hB; try clear w) | (refine Both.mk ?_ ?_ <;> conv => whnf) | fail)
          intro o8 ho8
          conv => whnf
          repeat (first | (refine RunH ?_; intro w hL hB; try clear w) | (refine Both.mk ?_ ?_ <;> conv => whnf) | fail)
          refine Ld.row1 ttOk (hrow hL) rfl rfl (k := i) hui (by omega) ?_
          conv => whnf
          repeat (first | (refine RunH ?_; intro w hL hB; try clear w) | (refine Both.mk ?_ ?_ <;> conv => whnf) | fail)
          intro o9 ho9
          conv => whnf
          repeat (first | (refine RunH ?_; intro w hL hB; try clear w) | (refine Both.mk ?_ ?_ <;> conv => whnf) | fail)
          refine Ld.row1 ttOk (hur hL) rfl rfl (k := r) hx (by omega) ?_
          conv => whnf
          repeat (first | (refine RunH ?_; intro w hL hB; try clear w) | (refine Both.mk ?_ ?_ <;> conv => whnf) | fail)
          exact ⟨r + 1, ⟨rfl, rfl, rfl, rfl, rfl, trivial⟩, ⟨by omega, hnext (.inr h5.2), hB, hL⟩, (by first | omega | (dsimp only; omega))⟩
        · have hf := hbad l hmem fun h => by have := h.2 row hmr; omega
          repeat (first | (refine RunH ?_; intro w hL hB; try clear w) | (refine Both.mk ?_ ?_ <;> conv => whnf) | fail)
          intro o8 ho8
          conv => whnf
          repeat (first | (refine RunH ?_; intro w hL hB; try clear w) | (refine Both.mk ?_ ?_ <;> conv => whnf) | fail)
          refine Ld.row1 ttOk (hrow hL) rfl rfl (k := i) hui (by omega) ?_
          conv => whnf
          repeat (first | (refine RunH ?_; intro w hL hB; try clear w) | (refine Both.mk ?_ ?_ <;> conv => whnf) | fail)
          intro o9 ho9
          conv => whnf
          repeat (first | (refine RunH ?_; intro w hL hB; try clear w) | (refine Both.mk ?_ ?_ <;> conv => whnf) | fail)
          refine Ld.row1 ttOk (hur hL) rfl rfl (k := r) hx (by omega) ?_
          conv => whnf
          repeat (first | (refine RunH ?_; intro w hL hB; try clear w) | (refine Both.mk ?_ ?_ <;> conv => whnf) | fail)
          exact ⟨by rw [hf], hfin hL⟩
      · obtain rfl : l.length = r := by omega
        rw [List.take_length] at hrf
        repeat (first | (refine RunH ?_; intro w hL hB; try clear w) | (refine Both.mk ?_ ?_ <;> conv => whnf) | fail)
        refine ⟨i + 1, ⟨rfl, rfl, rfl, rfl, trivial⟩, ⟨by omega, ?_, hB, hL⟩, (by first | omega | (dsimp only; omega))⟩
        rw [hts]
        intro y hy
        rcases List.mem_append.1 hy with hy | hy
        · exact hfit y hy
        · rw [List.mem_singleton] at hy; subst hy; exact ⟨hH2, hrf⟩
  · obtain rfl : ls.length = i := by omega
    rw [List.take_length] at hfit
    repeat (first | (refine RunH ?_; intro w hL hB; try clear w) | (refine Both.mk ?_ ?_ <;> conv => whnf) | fail)
    have hg := hgood.2 hfit
    exact ⟨congrArg Value.bool (decide_eq_true hg).symm, hfin hL⟩

set_option maxHeartbeats 8000000 in
theorem rowR_fn (v : Value) (ls : List (List (List UInt8))) (r : Nat) (hl : ls.length ≤ 14) (hr : r ≤ 1000000) (w0 : World) (hs : S3 w0 v ls) :
    Fn Tryd.prog 25 #[v, .int .i64 (r : Int)] w0 fun x w' => SS w' x (rowsAt ls r) ∧ Below w0.heap.size w0 w' := by
  obtain ⟨us, hus, hul, hin⟩ := hs.of
  obtain ⟨a, cp, rfl⟩ := hus.shape
  rw [hul] at hus ⊢
  have hL := Sep.start Tryd.prog w0
  have hB := Nat.le_refl w0.heap.size
  refine Fn.mk Tryd.func25 rfl (by kernel_rfl) Tryd.ntmps25 rfl (by rw [Tryd.results25]) ?_
  repeat (first | (refine RunH ?_; intro w hL hB; try clear w) | (refine Both.mk ?_ ?_ <;> conv => whnf) | fail)
  refine V.loop (α := Nat × Value × List Value) (fun z => [(0, .slice a ls.length cp), (1, .int .i64 (r : Int)), (5, z.2.1), (6, .int .i64 (z.1 : Int))])
    (fun z w' => z.1 ≤ ls.length ∧ Ins w0 z.2.2 ((rowsAt ls r).take z.1) ∧ w0.heap.size ≤ w'.heap.size ∧ Sep Tryd.prog w0.heap.size w0 w' [.row 22 1 z.2.1 z.1 z.2.2]) (fun z => ls.length - z.1) (0, .slice none 0 0, []) ⟨rfl, rfl, rfl, rfl, trivial⟩ ⟨Nat.zero_le _, by simpa using Ins.nil w0, hB, hL.nilRow 22 1⟩ ?_
  clear hL hB
  rintro ⟨i, ov, vs⟩ w ⟨hi, hvs, hB, hL⟩
  dsimp only at hi hvs hL
  have hvl : vs.length = i := by rw [hvs.len, List.length_take, rowsAt_len]; omega
  obtain ⟨oa, oc, rfl⟩ := (hL.rowN (i := 0) rfl).shape
  repeat (first | (refine RunH ?_; intro w hL hB; try clear w) | (refine Both.mk ?_ ?_ <;> conv => whnf) | fail)
  refine Br.dec (fun hlt => ?_) (fun hlt => ?_)
  · have hil : i < ls.length := by omega
    have htk := rowsAt_take (r := r) hil
    have hgi : ls[i]? = some ls[i] := List.getElem?_eq_getElem hil
    have hui : us[i]? = some us[i] := List.getElem?_eq_getElem (by omega)
    have hsi := hin i _ _ hui hgi
    generalize ls[i] = l at *
    generalize us[i] = u at *
    obtain ⟨ul, huls, huli⟩ := hsi.of
    have hull := huli.len
    obtain ⟨ua, uc, rfl⟩ := huls.shape
    rw [hull] at hui huls
    have hule := huls.le
    obtain ⟨vb, vo, rfl, _⟩ := hus.addr (by omega)
    have hvr : ∀ {x : World} {L' : List Res}, Sep Tryd.prog w0.heap.size w0 x L' → Row x vb vo us := fun h => (hus.below h.below).toN.rowOf
    repeat (first | (refine RunH ?_; intro w hL hB; try clear w) | (refine Both.mk ?_ ?_ <;> conv => whnf) | fail)
    intro o3 ho3
    conv => whnf
    repeat (first | (refine RunH ?_; intro w hL hB; try clear w) | (refine Both.mk ?_ ?_ <;> conv => whnf) | fail)
    refine Ld.row1 ttOk (hvr hL) rfl rfl (k := i) hui (by omega) ?_
    conv => whnf
    by_cases hrl : r < l.length
    · obtain ⟨x, hx, hsx⟩ := huli.get (rw_some hrl)
      obtain ⟨xa, xc, rfl⟩ := hsx.shape
      obtain ⟨ub, uo, rfl, _⟩ := huls.addr (by omega)
      repeat (first | (refine RunH ?_; intro w hL hB; try clear w) | (refine Both.mk ?_ ?_ <;> conv => whnf) | fail)
      intro o4 ho4
      conv => whnf
      repeat (first | (refine RunH ?_; intro w hL hB; try clear w) | (refine Both.mk ?_ ?_ <;> conv => whnf) | fail)
      refine Ld.row1 ttOk (hvr hL) rfl rfl (k := i) hui (by omega) ?_
      conv => whnf
      repeat (first | (refine RunH ?_; intro w hL hB; try clear w) | (refine Both.mk ?_ ?_ <;> conv => whnf) | fail)
      intro o5 ho5
      conv => whnf
      repeat (first | (refine RunH ?_; intro w hL hB; try clear w) | (refine Both.mk ?_ ?_ <;> conv => whnf) | fail)
      refine Ld.row1 ttOk (huls.below hL.below).toN.rowOf rfl rfl (k := r) hx (by omega) ?_
      conv => whnf
      repeat (first | (refine RunH ?_; intro w hL hB; try clear w) | (refine Both.mk ?_ ?_ <;> conv => whnf) | fail)
      refine Rv.buildS ttOk hL tl29 tl22 rfl rfl (by intro u hu; simp only [List.mem_singleton] at hu; subst hu; rfl) (by decide) (by decide) hB fun bo w hL hB => ?_
      conv => whnf
      refine Rv.appendS ttOk hL tl29 tl22 rfl (by decide) 1 rfl (hL.rowN (i := 0) rfl) (allOne_mem rfl) (by simp only [maxLen]; omega) (by omega) hB fun vp w hL hB => ?_
      dsimp only [List.set] at hL
      replace hL := hL.tl
      conv => whnf
      repeat (first | (refine RunH ?_; intro w hL hB; try clear w) | (refine Both.mk ?_ ?_ <;> conv => whnf) | fail)
      refine ⟨(i + 1, vp, vs ++ [_]), ⟨rfl, rfl, rfl, rfl, trivial⟩, ⟨by dsimp only; omega, ?_, hB, hL⟩, (by first | omega | (dsimp only; omega))⟩
      dsimp only
      rw [htk]
      exact hvs.snoc hsx
    · have hnil : rw_ l r = [] := by unfold rw_; simp [List.getD, List.getElem?_eq_none (show l.length ≤ r by omega)]
      repeat (first | (refine RunH ?_; intro w hL hB; try clear w) | (refine Both.mk ?_ ?_ <;> conv => whnf) | fail)
      refine Rv.buildS ttOk hL tl29 tl22 rfl rfl (by intro u hu; simp only [List.mem_singleton] at hu; subst hu; rfl) (by decide) (by decide) hB fun bo w hL hB => ?_
      conv => whnf
      refine Rv.appendS ttOk hL tl29 tl22 rfl (by decide) 1 rfl (hL.rowN (i := 0) rfl) (allOne_mem rfl) (by simp only [maxLen]; omega) (by omega) hB fun vp w hL hB => ?_
      dsimp only [List.set] at hL
      replace hL := hL.tl
      conv => whnf
      repeat (first | (refine RunH ?_; intro w hL hB; try clear w) | (refine Both.mk ?_ ?_ <;> conv => whnf) | fail)
      refine ⟨(i + 1, vp, vs ++ [_]), ⟨rfl, rfl, rfl, rfl, trivial⟩, ⟨by dsimp only; omega, ?_, hB, hL⟩, (by first | omega | (dsimp only; omega))⟩
      dsimp only
      rw [htk, hnil]
      exact hvs.snoc (Sl.nil w0)
  · obtain rfl : i = ls.length := by omega
    rw [List.take_of_length_le (by rw [rowsAt_len]; exact Nat.le_refl _)] at hvs
    repeat (first | (refine RunH ?_; intro w hL hB; try clear w) | (refine Both.mk ?_ ?_ <;> conv => whnf) | fail)
    exact ⟨sl_ss (hL.row (i := 0) rfl) (hvs.below hL.below), hL.below⟩
end Go.Proofs.YtlldgodjfpgbcaaDoor
