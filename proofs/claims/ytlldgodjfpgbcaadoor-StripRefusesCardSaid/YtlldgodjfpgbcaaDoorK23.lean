/- StripOne. How shards are lost, one by one, in plain Lean. Nothing is claimed here. -/
import Derived.Test.YtlldgodjfpgbcaaDoorK21
import Derived.Test.YtlldgodjfpgbcaaDoorK22
import Derived.Test.YtlldgodjfpgbcaaDoorK16
namespace Go.Proofs.YtlldgodjfpgbcaaDoor
open Go.RowKit
set_option linter.unusedVariables false
set_option linter.unusedSimpArgs false
set_option maxRecDepth 100000

/-- a mask keeps any number small -/
theorem Bt.maskI {a b : Int} {K : Int → Prop} (m : Nat) (hm : m < 9223372036854775808) (hb : b = m) (h : ∀ T : Nat, T ≤ m → K (T : Int)) : Bt .and .i64 a b K := by
  subst hb
  refine Bt.mk ?_
  show K (IntKind.i64.wrap ((BitVec.ofInt 64 a &&& BitVec.ofInt 64 (m : Int)).toNat : Int))
  rw [BitVec.toNat_and, ofInt_nat _ m (by omega), wrap_i64n _ (by have := Nat.and_le_right (n := (BitVec.ofInt 64 a).toNat) (m := m); omega)]
  exact h _ Nat.and_le_right
theorem lcut_bad (v : Value) (b : List UInt8) (k m : Int) (h : ¬ codeOk k m ∨ b = []) (hk : -1000 < k ∧ k < 1000) (hm : -1000 < m ∧ m < 1000) (w : World) (hs : Sl w v (bv b)) :
    Fn Tryd.prog 7 #[v, .int .i64 k, .int .i64 m] w fun r w' => r = .tuple #[.slice none 0 0, .bool false] ∧ Below w.heap.size w w' := by
  refine Fn.mk Tryd.func7 rfl (by kernel_rfl) Tryd.ntmps7 rfl (by rw [Tryd.results7]) ?_
  refine RunR ?_
  by_cases hc : codeOk k m
  case neg =>
    refine (cut_bad v b k m (Classical.byContradiction hc) hk hm w hs).mono fun r w1 ⟨hr, hw⟩ => ?_
    subst hr; subst hw
    conv => whnf
    refine RunR ?_
    exact ⟨rfl, Below.refl _ _⟩
  have hc' : 1 ≤ k ∧ 0 ≤ m ∧ k + m ≤ 14 := by unfold codeOk at hc; omega
  rcases h with h | rfl
  · exact absurd hc h
  obtain ⟨k, rfl⟩ := Int.eq_ofNat_of_zero_le (show 0 ≤ k by omega)
  obtain ⟨m, rfl⟩ := Int.eq_ofNat_of_zero_le (show 0 ≤ m by omega)
  refine (cut_none v k m (by omega) (by omega) w hs).mono fun r w1 ⟨hr, hbl⟩ => ?_
  subst hr
  conv => whnf
  refine RunR ?_
  exact ⟨rfl, hbl⟩

/-! ### what was cut, as rows -/
theorem cut3_len (b : List UInt8) (k m : Nat) (hk : 0 < k) (hb : 0 < b.length) : (cut3 b k m).length = k + m := by
  unfold cut3
  rw [List.length_map, (cutB_rows b k m hk hb).1]
theorem cut3_get {b : List UInt8} {k m i : Nat} (hk : 0 < k) (hb : 0 < b.length) (hi : i < k + m) : (cut3 b k m)[i]? = some (chunks (hgt b.length k) (rw_ (cutB b k m) i)) := by
  unfold cut3
  rw [List.getElem?_map, rw_some (by rw [(cutB_rows b k m hk hb).1]; exact hi)]
  rfl
theorem chunks_fit {l : List UInt8} {H : Nat} (hl : l.length = 16 * H) : fitL (H : Nat) (chunks H l) := by
  refine ⟨.inr (by rw [chunks_len]), fun r hr => .inr ?_⟩
  unfold chunks at hr
  obtain ⟨i, hi, rfl⟩ := List.mem_map.1 hr
  rw [List.mem_range] at hi
  exact chunk_len l i (by omega)
theorem fit_nil (H : Int) : fitL H [] := ⟨.inl rfl, by simp⟩
theorem cut3_fit (b : List UInt8) (k m : Nat) (hk : 0 < k) (hb : 0 < b.length) : ∀ l ∈ cut3 b k m, fitL (hgt b.length k : Nat) l := by
  intro l hl
  unfold cut3 at hl
  obtain ⟨x, hx, rfl⟩ := List.mem_map.1 hl
  exact chunks_fit ((cutB_rows b k m hk hb).2 x hx)
theorem one_torn (b : List UInt8) (k m i : Nat) (hk : 0 < k) (hb : 0 < b.length) (hm : 1 ≤ m) (hi : i < k + m) : Torn (cutB b k m) ((cut3 b k m).set i []) (k + m) m (hgt b.length k) := by
  refine ⟨by rw [List.length_set, cut3_len b k m hk hb], fun r hr => ⟨[i], by simpa using hm, fun j hj => ?_⟩⟩
  unfold rw3
  by_cases h : j = i
  · subst h
    refine .inl ⟨List.mem_singleton.2 rfl, ?_⟩
    rw [getD_get (x := []) (by rw [List.getElem?_set_self (by rw [cut3_len b k m hk hb]; exact hj)])]
    simp [rw_]
  · refine .inr ?_
    rw [getD_get (x := chunks (hgt b.length k) (rw_ (cutB b k m) j)) (by rw [List.getElem?_set_ne (fun e => h e.symm), cut3_get hk hb hj])]
    exact chunks_rw _ hr

set_option maxHeartbeats 16000000 in
theorem stripOne_fn (v : Value) (b : List UInt8) (k m lost : Int) (w0 : World) (hT : TabAt 0 Go.Lib.deBruijn64tab w0) (hs : Sl w0 v (bv b)) :
    Fn Tryd.prog 5 #[v, .int .i64 k, .int .i64 m, .int .i64 lost] w0 fun r w' => r = .bool true ∧ Below w0.heap.size w0 w' := by
  have hle := hs.le
  obtain ⟨va, vc, rfl⟩ := hs.shape
  rw [bv_length] at hle hs ⊢
  refine Fn.mk Tryd.func5 rfl (by kernel_rfl) Tryd.ntmps5 rfl (by rw [Tryd.results5]) ?_
  by_cases hbig : 3000 < b.length
  · refine RunR ?_
    exact ⟨rfl, Below.refl _ _⟩
  refine RunR ?_
  refine (small_fn k m w0).mono fun r w1 ⟨hr, hw⟩ => ?_
  subst hr
  replace hw := hw.symm
  subst hw
  by_cases hsm : k < 20 ∧ m < 20 ∧ -20 < k ∧ -20 < m
  case neg =>
    rw [decide_eq_false hsm]
    conv => whnf
    refine RunR ?_
    exact ⟨rfl, Below.refl _ _⟩
  rw [decide_eq_true hsm]
  conv => whnf
  by_cases hm1 : m < 1
  · refine RunR ?_
    exact ⟨rfl, Below.refl _ _⟩
  refine RunR ?_
  by_cases hc : ¬ codeOk k m ∨ b = []
  · refine (lcut_bad _ b k m hc (by omega) (by omega) w0 hs).mono fun r w1 ⟨hr, hbl⟩ => ?_
    subst hr
    conv => whnf
    refine RunR ?_
    refine (known_fn _).mono fun r w2 ⟨hr, hb2⟩ => ?_
    subst hr
    conv => whnf
    refine RunR ?_
    exact ⟨rfl, hbl.trans (hb2.mono hbl.size)⟩
  have hcok : codeOk k m := Classical.byContradiction fun h => hc (.inl h)
  have hbne : b ≠ [] := fun h => hc (.inr h)
  have hbp := List.length_pos_iff.2 hbne
  have hc' : 1 ≤ k ∧ k + m ≤ 14 := by unfold codeOk at hcok; omega
  obtain ⟨k, rfl⟩ := Int.eq_ofNat_of_zero_le (show 0 ≤ k by omega)
  obtain ⟨m, rfl⟩ := Int.eq_ofNat_of_zero_le (show 0 ≤ m by omega)
  clear hc
  refine (lcut_fn _ b k m (by omega) (by omega) hbp (by omega) w0 hs).mono fun r w ⟨w1, u, us, Rs, hbl, hr, hx, hL⟩ => ?_
  subst hr
  have hB := hL.below.size
  obtain ⟨ua, uc, rfl⟩ := (hL.rowN (i := 0) rfl).shape
  obtain ⟨⟨ub, rfl⟩, _⟩ := own_addr (hL.at (i := 0) rfl) (by omega)
  have hs1 := hs.below hbl
  have hul : us.length = k + m := by rw [hx.len, cut3_len b k m (by omega) hbp]
  conv => whnf
  repeat (first | (refine RunH ?_; intro w hL hB; try clear w) | (refine Both.mk ?_ ?_ <;> conv => whnf) | fail)
  refine (cutM_fn _ b k m (by omega) (by omega) hbp (by omega) _ (hs1.below hL.below)).mono fun r w2 ⟨wu, hr, hmat, hbl2⟩ => ?_
  subst hr
  obtain ⟨ws, L2, hws, hS⟩ := hmat.sep hbl2
  obtain ⟨hWl, hWr⟩ := cutB_rows b k m (by omega) hbp
  rw [hWl] at hS
  have hwsl := hws.len
  replace hL := (hL.adds hB hS).perm List.perm_append_comm
  replace hB := Nat.le_trans hB hS.below.size
  rw [List.cons_append] at hL
  have hwr : SlN w2 1 wu (k + m) ws := SlN.of_own (show w2.ownsRow 0 22 1 wu (k + m) ws from hL.hold (.row 22 1 wu (k + m) ws) (by simp))
  obtain ⟨wa, wc, rfl⟩ := hwr.shape
  obtain ⟨⟨wb, rfl⟩, _⟩ := own_addr (show w2.ownsRow 0 22 1 (.slice wa (k + m) wc) (k + m) ws from hL.hold (.row 22 1 (.slice wa (k + m) wc) (k + m) ws) (by simp)) (by omega)
  clear hwr hS hmat
  conv => whnf
  repeat (first | (refine RunH ?_; intro w hL hB; try clear w) | (refine Both.mk ?_ ?_ <;> conv => whnf) | fail)
  refine Bt.maskI 255 (by omega) rfl fun T hT255 => ?_
  conv => whnf
  repeat (first | (refine RunH ?_; intro w hL hB; try clear w) | (refine Both.mk ?_ ?_ <;> conv => whnf) | fail)
  refine Rem.at T (k + m) rfl rfl (by omega) ?_
  have hik : T % (k + m) < k + m := Nat.mod_lt _ (by omega)
  generalize T % (k + m) = i at *
  conv => whnf
  repeat (first | (refine RunH ?_; intro w hL hB; try clear w) | (refine Both.mk ?_ ?_ <;> conv => whnf) | fail)
  intro o3 ho3
  obtain rfl : i = o3 := by omega
  conv => whnf
  refine St.rowS ttOk hL 0 rfl rfl rfl rfl (by rw [hul]; show i + 1 ≤ _; omega) hB (fun w hL hB => ?_)
  rw [List.set_cons_zero] at hL
  dsimp only [cellsL] at hL
  rw [splice_one (by omega)] at hL
  replace hL := (hL.nilRow 22 1).perm (.swap _ _ _)
  have hx2 := (hx.mono (L' := .row 22 1 (.slice none 0 0) 0 [] :: (Rs ++ .row 22 1 (.slice (some ⟨wb, 0, none⟩) (k + m) wc) (k + m) ws :: L2)) fun R h => List.mem_cons_of_mem _ (List.mem_append_left _ h)).set i (u := .slice none 0 0) (l := []) (xs := []) (List.mem_cons_self ..) (Ins.nil w1)
  have hs3 := (hx2.mono (L' := .row 29 1 (.slice (some ⟨ub, 0, none⟩) (k + m) uc) (k + m) (us.set i (.slice none 0 0)) :: .row 22 1 (.slice none 0 0) 0 [] :: (Rs ++ .row 22 1 (.slice (some ⟨wb, 0, none⟩) (k + m) wc) (k + m) ws :: L2)) fun R h => List.mem_cons_of_mem _ h).s3 hL (hL.row (i := 0) rfl)
  have htorn := one_torn b k m i (by omega) hbp (by omega) hik
  have hgood : goodP ((cut3 b k m).set i []) k m (b.length : Int) := by
    refine ⟨hcok, by omega, by omega, by rw [List.length_set, cut3_len b k m (by omega) hbp]; omega, fun l hl => ?_⟩
    rw [Int.toNat_natCast, Int.toNat_natCast]
    rcases List.mem_or_eq_of_mem_set hl with h | h
    · exact cut3_fit b k m (by omega) hbp l h
    · rw [h]; exact fit_nil _
  have hTw := tabAt_below hT (hbl.trans (hL.below.mono hbl.size))
  conv => whnf
  repeat (first | (refine RunH ?_; intro w hL hB; try clear w) | (refine Both.mk ?_ ?_ <;> conv => whnf) | fail)
  refine (mendA_fn _ ((cut3 b k m).set i []) k m b.length hgood (by omega) _ hTw hs3).mono fun r w' hr9 => ?_
  obtain ⟨hgot, hbl3⟩ := hr9
  have htells : tells ((cut3 b k m).set i []) k (hgt b.length k) := fun r hr => htorn.sel hWl hWr hr
  rcases hgot with ⟨_, hme, au, rfl, hss⟩ | ⟨hno, _⟩
  rotate_left
  · exact absurd htells hno
  rw [htorn.acc (D := cutD b k) (by omega) (colsB_len ..) (cutD_len b k (by omega) hbp) (cutB_blends b k m (by omega) hbp) hme] at hss
  replace hL := hL.call hB (Turns.of_below hbl3)
  replace hB := Nat.le_trans hB hbl3.size
  obtain ⟨als, has, hai⟩ := hss.of
  have hasl := hai.len
  obtain ⟨aa, ac, rfl⟩ := has.shape
  rw [hasl, hWl] at has ⊢
  obtain ⟨ab, ao, rfl, har⟩ := has.addr (by omega)
  conv => whnf
  repeat (first | (refine RunH ?_; intro w hL hB; try clear w) | (refine Both.mk ?_ ?_ <;> conv => whnf) | fail)
  obtain ⟨xi, hxi, hsxi⟩ := hai.get (rw_some (show i < (cutB b k m).length by omega))
  obtain ⟨wi, hwi, _, hwm⟩ := hws.get (i := i) (by omega)
  have hrl := hWr _ (rw_mem (C := cutB b k m) (i := i) (by omega))
  have hh0 := hgt_pos b.length k (by omega) hbp
  have hh1 := hgt_le b.length k
  have hh2 : hgt b.length k ≤ hgt b.length k * k := Nat.le_mul_of_pos_right _ (by omega)
  generalize rw_ (cutB b k m) i = R at *
  have hok : okF (7 : Nat) (i : Nat) (b.length : Nat) R.length := by unfold okF; omega
  have hmw : bR wi R ∈ (Res.row 29 1 (.slice (some ⟨ub, 0, none⟩) (k + m) uc) (k + m) (us.set i (.slice none 0 0)) :: .row 22 1 (.slice none 0 0) 0 [] :: (Rs ++ .row 22 1 (.slice (some ⟨wb, 0, none⟩) (k + m) wc) (k + m) ws :: L2)) := by simp [hwm]
  obtain ⟨xia, xic, rfl⟩ := hsxi.shape
  intro o4 ho4
  conv => whnf
  repeat (first | (refine RunH ?_; intro w hL hB; try clear w) | (refine Both.mk ?_ ?_ <;> conv => whnf) | fail)
  refine Ld.row1 ttOk har rfl rfl (k := i) hxi (by omega) ?_
  conv => whnf
  repeat (first | (refine RunH ?_; intro w hL hB; try clear w) | (refine Both.mk ?_ ?_ <;> conv => whnf) | fail)
  refine (file_fn 7 i b.length _ R hok (by omega) _ hsxi).mono fun r w hr9 => ?_
  obtain ⟨f1, rfl, hown, hbl4⟩ := hr9
  replace hL := hL.addRow hB hbl4 hown
  replace hB := Nat.le_trans hB hbl4.size
  clear hown hbl4
  conv => whnf
  repeat (first | (refine RunH ?_; intro w hL hB; try clear w) | (refine Both.mk ?_ ?_ <;> conv => whnf) | fail)
  have hwr : SlN w 1 (.slice (some ⟨wb, 0, none⟩) (k + m) wc) (k + m) ws := SlN.of_own (show w.ownsRow 0 22 1 _ (k + m) ws from hL.hold (.row 22 1 (.slice (some ⟨wb, 0, none⟩) (k + m) wc) (k + m) ws) (by simp))
  have hsw : Sl w wi (bv R) := bR_sl (hL.hold _ (List.mem_cons_of_mem _ hmw))
  obtain ⟨wia, wic, rfl⟩ := hsw.shape
  intro o5 ho5
  conv => whnf
  repeat (first | (refine RunH ?_; intro w hL hB; try clear w) | (refine Both.mk ?_ ?_ <;> conv => whnf) | fail)
  refine Ld.row1 ttOk hwr.rowOf rfl rfl (k := i) hwi (by omega) ?_
  conv => whnf
  repeat (first | (refine RunH ?_; intro w hL hB; try clear w) | (refine Both.mk ?_ ?_ <;> conv => whnf) | fail)
  refine (file_fn 7 i b.length _ R hok (by omega) _ hsw).mono fun r w hr9 => ?_
  obtain ⟨f2, rfl, hown, hbl4⟩ := hr9
  replace hL := hL.addRow hB hbl4 hown
  replace hB := Nat.le_trans hB hbl4.size
  clear hown hbl4
  conv => whnf
  repeat (first | (refine RunH ?_; intro w hL hB; try clear w) | (refine Both.mk ?_ ?_ <;> conv => whnf) | fail)
  refine (same_fn _ _ _ _ _ (hL.row (i := 1) rfl) (hL.row (i := 0) rfl)).mono fun r w hr9 => ?_
  obtain ⟨rfl, hbl4⟩ := hr9
  rw [decide_eq_true rfl]
  replace hL := hL.call hB (Turns.of_below hbl4)
  replace hB := Nat.le_trans hB hbl4.size
  conv => whnf
  repeat (first | (refine RunH ?_; intro w hL hB; try clear w) | (refine Both.mk ?_ ?_ <;> conv => whnf) | fail)
  refine (known_fn _).mono fun r w hr9 => ?_
  obtain ⟨rfl, hbl5⟩ := hr9
  replace hL := hL.call hB (Turns.of_below hbl5)
  conv => whnf
  repeat (first | (refine RunH ?_; intro w hL hB; try clear w) | (refine Both.mk ?_ ?_ <;> conv => whnf) | fail)
  exact ⟨rfl, hbl.trans (hL.below.mono hbl.size)⟩
end Go.Proofs.YtlldgodjfpgbcaaDoor
namespace Go.Proofs.YtlldgodjfpgbcaaDoor
set_option linter.unusedVariables false
set_option linter.unusedSimpArgs false

theorem rw3_set {ls : List (List (List UInt8))} {j j' : Nat} {l : List (List UInt8)} (h : j < ls.length) : rw3 (ls.set j l) j' = if j' = j then l else rw3 ls j' := by
  unfold rw3
  simp only [List.getD, List.getElem?_set]
  by_cases e : j' = j
  · subst e; simp [h]
  · rw [if_neg (fun x => e x.symm), if_neg e]
/-- what was cut, of which i have been lost of each row, one more of the first rr rows -/
structure TornI (W : List (List UInt8)) (ls : List (List (List UInt8))) (n H rr i : Nat) : Prop where
  len : ls.length = n
  fit : ∀ l ∈ ls, fitL (H : Nat) l
  row : ∀ r, r < H → ∃ lost : List Nat, lost.length ≤ i + (if r < rr then 1 else 0) ∧ ∀ j, j < n → (j ∈ lost ∧ rw_ (rw3 ls j) r = []) ∨ rw_ (rw3 ls j) r = chunk (rw_ W j) r
theorem TornI.start (b : List UInt8) (k m : Nat) (hk : 0 < k) (hb : 0 < b.length) : TornI (cutB b k m) (cut3 b k m) (k + m) (hgt b.length k) 0 0 where
  len := cut3_len b k m hk hb
  fit := cut3_fit b k m hk hb
  row := fun r hr => ⟨[], by simp, fun j hj => .inr (by
    show rw_ ((cut3 b k m).getD j []) r = _
    rw [getD_get (cut3_get hk hb hj)]
    exact chunks_rw _ hr)⟩
/-- a shard is lost -/
theorem TornI.all {W : List (List UInt8)} {ls : List (List (List UInt8))} {n H i j : Nat} (h : TornI W ls n H 0 i) (hj : j < n) : TornI W (ls.set j []) n H 0 (i + 1) where
  len := by rw [List.length_set, h.len]
  fit := fun l hl => by
    rcases List.mem_or_eq_of_mem_set hl with h9 | h9
    · exact h.fit l h9
    · rw [h9]; exact fit_nil _
  row := fun r hr => by
    obtain ⟨lost, h1, h2⟩ := h.row r hr
    refine ⟨j :: lost, by simp at h1 ⊢; omega, fun j' hj' => ?_⟩
    rw [rw3_set (by rw [h.len]; exact hj)]
    by_cases e : j' = j
    · rw [if_pos e]; exact .inl ⟨by simp [e], by simp [rw_]⟩
    · rw [if_neg e]
      rcases h2 j' hj' with h3 | h3
      · exact .inl ⟨List.mem_cons_of_mem _ h3.1, h3.2⟩
      · exact .inr h3
/-- a row of a shard is lost -/
theorem TornI.one {W : List (List UInt8)} {ls : List (List (List UInt8))} {n H rr i j : Nat} (h : TornI W ls n H rr i) (hj : j < n) : TornI W (ls.set j ((rw3 ls j).set rr [])) n H (rr + 1) i where
  len := by rw [List.length_set, h.len]
  fit := fun l hl => by
    rcases List.mem_or_eq_of_mem_set hl with h9 | h9
    · exact h.fit l h9
    · have hm : rw3 ls j ∈ ls := by
        unfold rw3
        simp [List.getD, show j < ls.length by rw [h.len]; exact hj]
      obtain ⟨f1, f2⟩ := h.fit _ hm
      rw [h9]
      refine ⟨by rw [List.length_set]; exact f1, fun r hr => ?_⟩
      rcases List.mem_or_eq_of_mem_set hr with h8 | h8
      · exact f2 r h8
      · rw [h8]; exact .inl rfl
  row := fun r hr => by
    obtain ⟨lost, h1, h2⟩ := h.row r hr
    by_cases er : r = rr
    · subst er
      rw [if_neg (by omega)] at h1
      refine ⟨j :: lost, by rw [if_pos (by omega), List.length_cons]; omega, fun j' hj' => ?_⟩
      rw [rw3_set (by rw [h.len]; exact hj)]
      by_cases e : j' = j
      · rw [if_pos e]
        refine .inl ⟨by simp [e], ?_⟩
        by_cases hl : r < (rw3 ls j).length
        · rw [rw_set hl, if_pos rfl]
        · unfold rw_
          rw [List.getD, List.getElem?_eq_none (by rw [List.length_set]; omega)]; rfl
      · rw [if_neg e]
        rcases h2 j' hj' with h3 | h3
        · exact .inl ⟨List.mem_cons_of_mem _ h3.1, h3.2⟩
        · exact .inr h3
    · refine ⟨lost, Nat.le_trans h1 (by split <;> split <;> omega), fun j' hj' => ?_⟩
      rw [rw3_set (by rw [h.len]; exact hj)]
      by_cases e : j' = j
      · rw [if_pos e]
        have e2 : rw_ ((rw3 ls j).set rr []) r = rw_ (rw3 ls j) r := by
          unfold rw_
          simp only [List.getD]
          rw [List.getElem?_set_ne (fun x => er x.symm)]
        rw [e2, ← e]
        exact h2 j' hj'
      · rw [if_neg e]
        exact h2 j' hj'
theorem TornI.more {W : List (List UInt8)} {ls : List (List (List UInt8))} {n H rr i rr' i' : Nat} (h : TornI W ls n H rr i) (hle : ∀ r, i + (if r < rr then 1 else 0) ≤ i' + (if r < rr' then 1 else 0)) : TornI W ls n H rr' i' :=
  ⟨h.len, h.fit, fun r hr => by
    obtain ⟨lost, h1, h2⟩ := h.row r hr
    exact ⟨lost, Nat.le_trans h1 (hle r), h2⟩⟩
theorem TornI.skip {W : List (List UInt8)} {ls : List (List (List UInt8))} {n H rr i : Nat} (h : TornI W ls n H rr i) : TornI W ls n H (rr + 1) i := h.more fun r => by split <;> split <;> omega
theorem TornI.next {W : List (List UInt8)} {ls : List (List (List UInt8))} {n H rr i : Nat} (h : TornI W ls n H rr i) : TornI W ls n H 0 (i + 1) := h.more fun r => by split <;> split <;> omega
theorem TornI.torn {W : List (List UInt8)} {ls : List (List (List UInt8))} {n H m : Nat} (h : TornI W ls n H 0 m) : Torn W ls n m H :=
  ⟨h.len, fun r hr => by
    obtain ⟨lost, h1, h2⟩ := h.row r hr
    exact ⟨lost, by simpa using h1, h2⟩⟩
end Go.Proofs.YtlldgodjfpgbcaaDoor
