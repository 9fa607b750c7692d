/- strip.Mend. strip.Mend, walked. Nothing is claimed here. -/
import Derived.Test.YtlldgodjfpgbcaaDoorK18
namespace Go.Proofs.YtlldgodjfpgbcaaDoor
open Go.RowKit
set_option linter.unusedVariables false
set_option linter.unusedSimpArgs false
set_option maxRecDepth 100000

noncomputable def mendV (k m : Nat) (rows : List (List UInt8)) : List (List UInt8) := Classical.epsilon (MendR k m 16 rows)
theorem MendR.val {k m : Nat} {rows out : List (List UInt8)} (hs : (selS k rows).length = k) (hN : ∀ i, i < rows.length → rw_ rows i ≠ [] → (rw_ rows i).length = 16) (h : MendR k m 16 rows out) : out = mendV k m rows :=
  h.uniq hs hN (Classical.epsilon_spec (p := MendR k m 16 rows) ⟨out, h⟩)
theorem MendR.len {k m N : Nat} {rows out : List (List UInt8)} (h : MendR k m N rows out) : out.length = k + m := by
  obtain ⟨B, _, rfl⟩ := h
  rw [blends_len, codeM_len]
theorem MendR.row {k m N : Nat} {rows out : List (List UInt8)} (h : MendR k m N rows out) (hs : (selS k rows).length = k) (hN : ∀ i, i < rows.length → rw_ rows i ≠ [] → (rw_ rows i).length = N) : ∀ l ∈ out, l.length = N := by
  obtain ⟨B, _, rfl⟩ := h
  refine blends_row (blends_row fun l hl => ?_)
  obtain ⟨i, hi, rfl⟩ := List.mem_map.1 hl
  exact hN _ (selS_mem hi).1 (selS_mem hi).2
/-- all rows of all shards, row by row -/
noncomputable def accM (k m : Nat) (ls : List (List (List UInt8))) : Nat → List (List UInt8)
  | 0 => List.replicate (k + m) []
  | r + 1 => List.zipWith (· ++ ·) (accM k m ls r) (mendV k m (rowsAt ls r))
theorem zipWith_set' {α β γ : Type} (f : α → β → γ) : ∀ (us : List α) (ls : List β) (i : Nat) (u : α) (l : β), (List.zipWith f us ls).set i (f u l) = List.zipWith f (us.set i u) (ls.set i l)
  | [], ls, i, u, l => by simp
  | a :: us, [], i, u, l => by cases i <;> simp
  | a :: us, b :: ls, 0, u, l => by simp
  | a :: us, b :: ls, i + 1, u, l => by simp [zipWith_set' f us ls i u l]
theorem Sep.nils {P : Program} {B : Nat} {w0 w : World} {L : List Res} (h : Sep P B w0 w L) : ∀ n, Sep P B w0 w (List.replicate n (bR (.slice none 0 0) []) ++ L)
  | 0 => h
  | n + 1 => by
    rw [List.replicate_succ]
    exact (Sep.nils h n).nilRow 5 1
/-- a list of rows, the first i of which are longer -/
def upTo (A B : List (List UInt8)) (i : Nat) : List (List UInt8) := (List.range A.length).map fun j => if j < i then rw_ A j ++ rw_ B j else rw_ A j
theorem upTo_len (A B : List (List UInt8)) (i : Nat) : (upTo A B i).length = A.length := by simp [upTo]
theorem upTo_rw {A B : List (List UInt8)} {i j : Nat} (h : j < A.length) : rw_ (upTo A B i) j = if j < i then rw_ A j ++ rw_ B j else rw_ A j := by
  show (upTo A B i).getD j [] = _
  exact getD_get (by unfold upTo; simp [h])
theorem upTo_zero (A B : List (List UInt8)) : upTo A B 0 = A := rows_ext (upTo_len ..) rfl fun j hj => by rw [upTo_rw hj, if_neg (by omega)]
theorem upTo_succ {A B : List (List UInt8)} {i : Nat} (h : i < A.length) : upTo A B (i + 1) = (upTo A B i).set i (rw_ A i ++ rw_ B i) := by
  refine rows_ext (upTo_len ..) (by rw [List.length_set, upTo_len]) fun j hj => ?_
  rw [upTo_rw hj, rw_set (by rw [upTo_len]; exact h), upTo_rw hj]
  by_cases e : j = i
  · subst e; rw [if_pos (by omega), if_pos rfl]
  · rw [if_neg e]
    by_cases h2 : j < i
    · rw [if_pos h2, if_pos (by omega)]
    · rw [if_neg h2, if_neg (by omega)]
theorem upTo_full {A B : List (List UInt8)} (h : B.length = A.length) : upTo A B A.length = List.zipWith (· ++ ·) A B := by
  refine rows_ext (upTo_len ..) (by simp; omega) fun j hj => ?_
  rw [upTo_rw hj, if_pos hj]
  show _ = (List.zipWith (· ++ ·) A B).getD j []
  exact (getD_get (by rw [List.getElem?_zipWith, rw_some hj, rw_some (by omega)])).symm
theorem rowsAt_mem {ls : List (List (List UInt8))} {r : Nat} {H : Int} (h : ∀ l ∈ ls, fitL H l) : ∀ l ∈ rowsAt ls r, l ≠ [] → l.length = 16 := by
  intro l hl hne
  obtain ⟨x, hx, rfl⟩ := List.mem_map.1 hl
  by_cases hr : r < x.length
  · rcases (h x hx).2 _ (rw_mem hr) with h1 | h1
    · exact absurd (List.length_eq_zero_iff.1 h1) hne
    · exact h1
  · exact absurd (by unfold rw_; simp [List.getD, List.getElem?_eq_none (show x.length ≤ r by omega)]) hne
theorem accM_len {k m : Nat} {ls : List (List (List UInt8))} {H : Nat} (hm : ∀ r, r < H → (mendV k m (rowsAt ls r)).length = k + m ∧ ∀ l ∈ mendV k m (rowsAt ls r), l.length = 16) : ∀ r, r ≤ H → (accM k m ls r).length = k + m ∧ ∀ l ∈ accM k m ls r, l.length = 16 * r
  | 0, _ => ⟨by simp [accM], fun l hl => by rw [accM, List.mem_replicate] at hl; rw [hl.2]; rfl⟩
  | r + 1, h => by
    obtain ⟨h1, h2⟩ := accM_len hm r (by omega)
    obtain ⟨h3, h4⟩ := hm r (by omega)
    refine ⟨by rw [accM, List.length_zipWith]; omega, fun l hl => ?_⟩
    rw [accM] at hl
    obtain ⟨i, hi, rfl⟩ := List.mem_iff_getElem.1 hl
    rw [List.getElem_zipWith, List.length_append, h2 _ (List.getElem_mem _), h4 _ (List.getElem_mem _)]
    omega
end Go.Proofs.YtlldgodjfpgbcaaDoor
namespace Go.Proofs.YtlldgodjfpgbcaaDoor
open Go.RowKit
set_option linter.unusedVariables false
set_option linter.unusedSimpArgs false
set_option maxRecDepth 100000

/-- every row can be told -/
def tells (ls : List (List (List UInt8))) (k H : Nat) : Prop := ∀ r, r < H → (selS k (rowsAt ls r)).length = k
def MendAGot (ls : List (List (List UInt8))) (k m H : Nat) (r : Value) (w' : World) : Prop := (tells ls k H ∧ (∀ r, r < H → MendR k m 16 (rowsAt ls r) (mendV k m (rowsAt ls r))) ∧ ∃ u, r = .tuple #[u, .int .i64 0] ∧ SS w' u (accM k m ls H)) ∨ (¬ tells ls k H ∧ r = .tuple #[.slice none 0 0, .int .i64 15])
set_option maxHeartbeats 16000000 in
theorem mendA_fn (v : Value) (ls : List (List (List UInt8))) (k m size : Nat) (hg : goodP ls k m size) (hsz : size ≤ 1000000) (w0 : World) (hT : TabAt 0 Go.Lib.deBruijn64tab w0) (hs : S3 w0 v ls) :
    Fn Tryd.prog 10 #[v, .int .i64 (k : Int), .int .i64 (m : Int), .int .i64 (size : Int)] w0 fun r w' => MendAGot ls k m (hgt size k) r w' ∧ Below w0.heap.size w0 w' := by
  have hG := good_fn v ls k m size ⟨by omega, by have := hg.1; unfold codeOk at this; omega⟩ ⟨by omega, by have := hg.1; unfold codeOk at this; omega⟩ (by omega) w0 hs
  rw [decide_eq_true hg] at hG
  obtain ⟨hc, hs1, hs2, hln, hfit⟩ := hg
  have hc' : 1 ≤ k ∧ k + m ≤ 14 := by unfold codeOk at hc; omega
  obtain ⟨hk1, hkm⟩ := hc'
  rw [Int.toNat_natCast, Int.toNat_natCast] at hfit
  have hlen : ls.length = k + m := by omega
  have hh := fun w => height_fn size k (by omega) (by omega) (by omega) w
  have hH1 : hgt size k ≤ 1000000 := by
    have h1 := hgt_le size k
    have h3 : hgt size k ≤ hgt size k * k := Nat.le_mul_of_pos_right _ (by omega)
    omega
  unfold MendAGot
  generalize hgt size k = H at *
  have hrows : ∀ r, ∀ l ∈ rowsAt ls r, l ≠ [] → l.length = 16 := fun r => rowsAt_mem hfit
  have hrl : ∀ r, (rowsAt ls r).length = k + m := fun r => by rw [rowsAt_len, hlen]
  have hri : ∀ r i, i < (rowsAt ls r).length → rw_ (rowsAt ls r) i ≠ [] → (rw_ (rowsAt ls r) i).length = 16 := fun r i hi hne => hrows r _ (rw_mem hi) hne
  have hL := Sep.start Tryd.prog w0
  have hB := Nat.le_refl w0.heap.size
  refine Fn.mk Tryd.func10 rfl (by kernel_rfl) Tryd.ntmps10 rfl (by rw [Tryd.results10]) ?_
  repeat (first | (refine RunH ?_; intro w hL hB; try clear w) | (refine Both.mk ?_ ?_ <;> conv => whnf) | fail)
  refine hG.mono fun r w ⟨hr', hbl⟩ => ?_
  subst hr'
  replace hL := hL.call hB (Turns.of_below hbl)
  replace hB := Nat.le_trans hB hbl.size
  conv => whnf
  repeat (first | (refine RunH ?_; intro w hL hB; try clear w) | (refine Both.mk ?_ ?_ <;> conv => whnf) | fail)
  refine Rv.makeS ttOk hL (k + m) (k + m) tl29 tl22 rfl (by omega) (by omega) (Nat.le_refl _) (by omega) (by simp only [maxLen]; omega) hB fun g w hL hB => ?_
  conv => whnf
  repeat (first | (refine RunH ?_; intro w hL hB; try clear w) | (refine Both.mk ?_ ?_ <;> conv => whnf) | fail)
  refine (hh _).mono fun r w' ⟨hw', hr'⟩ => ?_
  subst hr'
  replace hw' := hw'.symm
  subst hw'
  conv => whnf
  repeat (first | (refine RunH ?_; intro w hL hB; try clear w) | (refine Both.mk ?_ ?_ <;> conv => whnf) | fail)
  have hz : List.zipWith bR (List.replicate (k + m) (Value.slice none 0 0)) (List.replicate (k + m) ([] : List UInt8)) = List.replicate (k + m) (bR (.slice none 0 0) []) := by simp
  refine V.loop (α := Nat × List Value) (fun z => [(0, v), (1, .int .i64 (k : Int)), (2, .int .i64 (m : Int)), (10, .slice (some ⟨g, 0, none⟩) (k + m) (k + m)), (28, .int .i64 (H : Int)), (29, .int .i64 (z.1 : Int))])
    (fun z w' => z.1 ≤ H ∧ (∀ r, r < z.1 → (selS k (rowsAt ls r)).length = k ∧ ((mendV k m (rowsAt ls r)).length = k + m ∧ ∀ l ∈ mendV k m (rowsAt ls r), l.length = 16) ∧ MendR k m 16 (rowsAt ls r) (mendV k m (rowsAt ls r))) ∧ z.2.length = k + m ∧ w0.heap.size ≤ w'.heap.size ∧ Sep Tryd.prog w0.heap.size w0 w' (.row 22 1 (.slice (some ⟨g, 0, none⟩) (k + m) (k + m)) (k + m) z.2 :: List.zipWith bR z.2 (accM k m ls z.1))) (fun z => H - z.1) (0, List.replicate (k + m) (.slice none 0 0)) ⟨rfl, rfl, rfl, rfl, rfl, rfl, trivial⟩ ⟨Nat.zero_le _, fun r h => by omega, by simp, hB, ?_⟩ ?_
  · dsimp only
    rw [accM, hz]
    exact (Sep.nils hL (k + m)).perm (List.perm_append_singleton _ _)
  repeat clear hL
  repeat clear hB
  rintro ⟨r, us⟩ w ⟨hr, hok, hul, hB, hL⟩
  dsimp only at hr hok hul hL
  obtain ⟨hal, ha16⟩ := accM_len (k := k) (m := m) (ls := ls) (H := r) (fun r' h => (hok r' h).2.1) r (Nat.le_refl _)
  repeat (first | (refine RunH ?_; intro w hL hB; try clear w) | (refine Both.mk ?_ ?_ <;> conv => whnf) | fail)
  refine Br.dec (fun hlt => ?_) (fun hlt => ?_)
  · have hrH : r < H := by omega
    repeat (first | (refine RunH ?_; intro w hL hB; try clear w) | (refine Both.mk ?_ ?_ <;> conv => whnf) | fail)
    refine (row_fn v ls r (by omega) (by omega) _ (hs.below hL.below)).mono fun x w hr9 => ?_
    obtain ⟨hss, hbl⟩ := hr9
    replace hL := hL.call hB (Turns.of_below hbl)
    replace hB := Nat.le_trans hB hbl.size
    conv => whnf
    repeat (first | (refine RunH ?_; intro w hL hB; try clear w) | (refine Both.mk ?_ ?_ <;> conv => whnf) | fail)
    refine (smend_fn k m 16 x (rowsAt ls r) hk1 hkm (hrl r) (hrows r) (by decide) w (tabAt_below hT hL.below) hss).mono fun y w' hr9 => ?_
    obtain ⟨hgot, hbl2⟩ := hr9
    unfold MendGot at hgot
    by_cases hfew : (selS k (rowsAt ls r)).length < k
    · rw [if_pos hfew] at hgot
      subst hgot
      conv => whnf
      repeat (first | (refine RunH ?_; intro w hL hB; try clear w) | (refine Both.mk ?_ ?_ <;> conv => whnf) | fail)
      refine ⟨.inr ⟨fun h => ?_, rfl⟩, (hL.call hB (Turns.of_below hbl2)).below⟩
      have := h r hrH
      omega
    rw [if_neg hfew] at hgot
    have hselk : (selS k (rowsAt ls r)).length = k := by
      have := selS_len (k := k) (hrl r)
      omega
    obtain ⟨u, out, hm, hmat, rfl⟩ := hgot
    obtain ⟨bs, L2, hins, hS⟩ := hmat.sep hbl2
    have hol := hm.len
    have ho16 := hm.row hselk (hri r)
    have hov := hm.val hselk (hri r)
    replace hL := hL.adds hB hS
    replace hB := Nat.le_trans hB hS.below.size
    clear hS hmat hss hbl2
    rw [hol] at hL
    obtain ⟨ua, uc, rfl⟩ := (hL.rowN (i := 0) rfl).shape
    obtain ⟨⟨ub, rfl⟩, _⟩ := own_addr (hL.at (i := 0) rfl) (by omega)
    have hbl9 := hins.len
    replace hL := hL.perm List.perm_append_comm
    rw [List.cons_append] at hL
    have hacc : accM k m ls (r + 1) = List.zipWith (· ++ ·) (accM k m ls r) out := by rw [hov]; rfl
    have hoks : ∀ r', r' < r + 1 → (selS k (rowsAt ls r')).length = k ∧ ((mendV k m (rowsAt ls r')).length = k + m ∧ ∀ l ∈ mendV k m (rowsAt ls r'), l.length = 16) ∧ MendR k m 16 (rowsAt ls r') (mendV k m (rowsAt ls r')) := fun r' hr' => by
      by_cases e : r' = r
      · subst e; rw [← hov]; exact ⟨hselk, ⟨hol, ho16⟩, hm⟩
      · exact hok r' (by omega)
    clear hok hov hm
    generalize accM k m ls r = acc at *
    conv => whnf
    repeat (first | (refine RunH ?_; intro w hL hB; try clear w) | (refine Both.mk ?_ ?_ <;> conv => whnf) | fail)
    refine V.loop (α := Nat × List Value) (fun z => [(0, v), (1, .int .i64 (k : Int)), (2, .int .i64 (m : Int)), (10, .slice (some ⟨g, 0, none⟩) (k + m) (k + m)), (28, .int .i64 (H : Int)), (29, .int .i64 (r : Int)), (43, .slice (some ⟨ub, 0, none⟩) (k + m) uc), (44, .int .i64 ((k + m : Nat) : Int)), (45, .int .i64 (z.1 : Int))])
      (fun z w' => z.1 ≤ k + m ∧ z.2.length = k + m ∧ w0.heap.size ≤ w'.heap.size ∧ Sep Tryd.prog w0.heap.size w0 w' (.row 22 1 (.slice (some ⟨g, 0, none⟩) (k + m) (k + m)) (k + m) z.2 :: (List.zipWith bR z.2 (upTo acc out z.1) ++ .row 22 1 (.slice (some ⟨ub, 0, none⟩) (k + m) uc) (k + m) bs :: L2))) (fun z => k + m - z.1) (0, us) ⟨rfl, rfl, rfl, rfl, rfl, rfl, rfl, rfl, rfl, trivial⟩ ⟨Nat.zero_le _, hul, hB, by dsimp only; rw [upTo_zero]; exact hL⟩ ?_
    repeat clear hL
    repeat clear hB
    clear hul
    rintro ⟨i, us⟩ w ⟨hi, hul, hB, hL⟩
    dsimp only at hi hul hL
    have hupl := upTo_len acc out i
    repeat (first | (refine RunH ?_; intro w hL hB; try clear w) | (refine Both.mk ?_ ?_ <;> conv => whnf) | fail)
    refine Br.dec (fun hlt2 => ?_) (fun hlt2 => ?_)
    · have hik : i < k + m := by omega
      have hgi : us[i]? = some us[i] := List.getElem?_eq_getElem (by omega)
      have hga : (upTo acc out i)[i]? = some (rw_ acc i) := by
        rw [rw_some (by omega), upTo_rw (by omega), if_neg (by omega)]
      have hsu := upTo_succ (A := acc) (B := out) (i := i) (by omega)
      have hal := ha16 _ (rw_mem (C := acc) (i := i) (by omega))
      obtain ⟨bi, hbi, _, hbm⟩ := hins.get (i := i) (by omega)
      have hoi := ho16 _ (rw_mem (C := out) (i := i) (by omega))
      generalize rw_ acc i = la at *
      generalize rw_ out i = lo at *
      generalize us[i] = ui at *
      have hat : (Res.row 22 1 (.slice (some ⟨g, 0, none⟩) (k + m) (k + m)) (k + m) us :: (List.zipWith bR us (upTo acc out i) ++ .row 22 1 (.slice (some ⟨ub, 0, none⟩) (k + m) uc) (k + m) bs :: L2))[i + 1]? = some (bR ui la) := by
        rw [List.getElem?_cons_succ, List.getElem?_append_left (by rw [List.length_zipWith]; omega), List.getElem?_zipWith, hgi, hga]
      have hru : SlN w 1 (.slice (some ⟨ub, 0, none⟩) (k + m) uc) (k + m) bs := SlN.of_own (show w.ownsRow 0 22 1 _ _ _ from hL.hold (.row 22 1 (.slice (some ⟨ub, 0, none⟩) (k + m) uc) (k + m) bs) (by simp))
      have hsb : Sl w bi (bv lo) := bR_sl (hL.hold _ (List.mem_cons_of_mem _ (List.mem_append_right _ (List.mem_cons_of_mem _ hbm))))
      obtain ⟨uia, uic, rfl⟩ := (show Sl w ui (bv la) from bR_sl (hL.at hat)).shape
      obtain ⟨bia, bic, rfl⟩ := hsb.shape
      repeat (first | (refine RunH ?_; intro w hL hB; try clear w) | (refine Both.mk ?_ ?_ <;> conv => whnf) | fail)
      intro o3 ho3
      conv => whnf
      repeat (first | (refine RunH ?_; intro w hL hB; try clear w) | (refine Both.mk ?_ ?_ <;> conv => whnf) | fail)
      refine Ld.row1 ttOk hru.rowOf rfl rfl (k := i) hbi (by omega) ?_
      conv => whnf
      repeat (first | (refine RunH ?_; intro w hL hB; try clear w) | (refine Both.mk ?_ ?_ <;> conv => whnf) | fail)
      intro o4 ho4
      conv => whnf
      repeat (first | (refine RunH ?_; intro w hL hB; try clear w) | (refine Both.mk ?_ ?_ <;> conv => whnf) | fail)
      refine Ld.row1 ttOk (hL.rowN (i := 0) rfl).rowOf rfl rfl (k := i) hgi (by omega) ?_
      conv => whnf
      repeat (first | (refine RunH ?_; intro w hL hB; try clear w) | (refine Both.mk ?_ ?_ <;> conv => whnf) | fail)
      refine Rv.appendS ttOk hL tl22 tl5 rfl (by decide) (i + 1) hat hsb.toN (bv_one _) (by rw [bv_length]; simp only [maxLen]; omega) (by rw [bv_length]; omega) hB fun v9 w hL hB => ?_
      have e1 : la.length + (bv lo).length = (la ++ lo).length := by rw [bv_length, List.length_append]
      rw [e1, ← bv_append, List.set_cons_succ, List.set_append_left _ _ (by rw [List.length_zipWith]; omega)] at hL
      have e2 := zipWith_set' bR us (upTo acc out i) i v9 (la ++ lo)
      change _ = _ at e2
      rw [show Res.row 5 1 v9 (la ++ lo).length (bv (la ++ lo)) = bR v9 (la ++ lo) from rfl, e2, ← hsu] at hL
      have hsv : Sl w v9 (bv (la ++ lo)) := bR_sl (hL.hold (bR v9 (la ++ lo)) (List.mem_cons_of_mem _ (List.mem_append_left _ (List.mem_of_getElem? (i := i) (by rw [List.getElem?_zipWith, List.getElem?_set_self (by omega), hsu, List.getElem?_set_self (by omega)])))))
      obtain ⟨va, vc, rfl⟩ := hsv.shape
      conv => whnf
      repeat (first | (refine RunH ?_; intro w hL hB; try clear w) | (refine Both.mk ?_ ?_ <;> conv => whnf) | fail)
      intro o5 ho5
      obtain rfl : i = o5 := by omega
      conv => whnf
      refine St.rowS ttOk hL 0 rfl rfl rfl rfl (by rw [hul]; show i + 1 ≤ _; omega) hB (fun w hL hB => ?_)
      rw [List.set_cons_zero] at hL
      dsimp only [cellsL] at hL
      rw [splice_one (by omega)] at hL
      conv => whnf
      repeat (first | (refine RunH ?_; intro w hL hB; try clear w) | (refine Both.mk ?_ ?_ <;> conv => whnf) | fail)
      refine ⟨(i + 1, us.set i _), ⟨rfl, rfl, rfl, rfl, rfl, rfl, rfl, rfl, rfl, trivial⟩, ⟨by dsimp only; omega, by dsimp only; rw [List.length_set, hul], hB, hL⟩, (by first | omega | (dsimp only; omega))⟩
    · obtain rfl : i = k + m := by omega
      rw [← hal, upTo_full (by omega), ← hacc] at hL
      rw [hal] at hL
      repeat (first | (refine RunH ?_; intro w hL hB; try clear w) | (refine Both.mk ?_ ?_ <;> conv => whnf) | fail)
      refine ⟨(r + 1, us), ⟨rfl, rfl, rfl, rfl, rfl, rfl, trivial⟩, ⟨by dsimp only; omega, hoks, hul, hB, hL.sub ?_⟩, (by first | omega | (dsimp only; omega))⟩
      exact List.Sublist.cons_cons _ (List.sublist_append_left _ _)
  · obtain rfl : r = H := by omega
    repeat (first | (refine RunH ?_; intro w hL hB; try clear w) | (refine Both.mk ?_ ?_ <;> conv => whnf) | fail)
    refine ⟨.inl ⟨fun r hr => (hok r hr).1, fun r hr => (hok r hr).2.2, _, rfl, ?_⟩, hL.below⟩
    refine sl_ss (hL.row (i := 0) rfl) ⟨by rw [hul, hal], fun i u l h1 h2 => ?_⟩
    refine bR_sl (hL.hold (bR u l) (List.mem_cons_of_mem _ (List.mem_of_getElem? (i := i) ?_)))
    rw [List.getElem?_zipWith, h1, h2]
end Go.Proofs.YtlldgodjfpgbcaaDoor
