/- Windows of bytes; the sum tells one byte. needle: Decode. Nothing is claimed here. -/
import Derived.Test.YtladfadcgfdbfaaGreatDoorD14
import Derived.Test.YtladfadcgfdbfaaGreatDoorD15
import Derived.Test.YtladfadcgfdbfaaGreatDoorD07
namespace Go.Proofs.YtladfadcgfdbfaaGreatDoor
open Go.RowKit
set_option linter.unusedVariables false
set_option linter.unusedSimpArgs false
set_option maxRecDepth 100000
/-- n bytes from a place on -/
def win (b : List UInt8) (a n : Nat) : List UInt8 := (b.drop a).take n
theorem win_len {b : List UInt8} {a n : Nat} (h : a + n ≤ b.length) : (win b a n).length = n := by simp [win]; omega
/-! the sum tells one byte -/
theorem ofB_inj : ∀ (n : Nat) (l m : List UInt8), l.length = n → m.length = n → ofB l = ofB m → l = m
  | 0, l, m, hl, hm, _ => by rw [List.length_eq_zero_iff.1 hl, List.length_eq_zero_iff.1 hm]
  | n + 1, l, m, hl, hm, h => by
    have hl' : l ≠ [] := fun h => by rw [h] at hl; cases hl
    have hm' : m ≠ [] := fun h => by rw [h] at hm; cases hm
    rw [← List.dropLast_concat_getLast hl', ← List.dropLast_concat_getLast hm', ofB_snoc, ofB_snoc] at h
    have h1 := (l.getLast hl').toNat_lt
    have h2 := (m.getLast hm').toNat_lt
    have h3 := ofB_inj n l.dropLast m.dropLast (by simp [hl]) (by simp [hm]) (by omega)
    have h4 : (l.getLast hl') = m.getLast hm' := UInt8.toNat_inj.1 (by omega)
    rw [← List.dropLast_concat_getLast hl', ← List.dropLast_concat_getLast hm', h3, h4]
theorem ofB_put4 (v : Nat) (h : v < 4294967296) : ofB (putB v 4) = v := by
  simp only [putB, ofB, List.foldl_cons, List.foldl_nil, UInt8.toNat_ofNat']
  omega
/-! the windows of a file -/
theorem win_app {A B C : List UInt8} {n : Nat} (h : B.length = n) : win (A ++ B ++ C) A.length n = B := by
  unfold win
  rw [List.append_assoc, List.drop_left, List.take_left' h]
theorem win_app' {A B C : List UInt8} {a n : Nat} (ha : A.length = a) (h : B.length = n) : win (A ++ B ++ C) a n = B := by subst ha; exact win_app h
end Go.Proofs.YtladfadcgfdbfaaGreatDoor
namespace Go.Proofs.YtladfadcgfdbfaaGreatDoor
open Go.RowKit
set_option linter.unusedVariables false
set_option linter.unusedSimpArgs false
set_option maxRecDepth 100000
def dDead (b : List UInt8) : Bool := decide (((b.getD 2 0).toNat : Int) = 1)
def dKey (b : List UInt8) : Nat := ofB (Go.Proofs.YtladfadcgfdbfaaGreatDoor.win b 4 8)
def dCook (b : List UInt8) : Nat := ofB (Go.Proofs.YtladfadcgfdbfaaGreatDoor.win b 12 4)
def dSize (b : List UInt8) : Nat := ofB (Go.Proofs.YtladfadcgfdbfaaGreatDoor.win b 16 4)
def dData (b : List UInt8) : List UInt8 := Go.Proofs.YtladfadcgfdbfaaGreatDoor.win b 24 (dSize b)
def dRest (b : List UInt8) : List UInt8 := Go.Proofs.YtladfadcgfdbfaaGreatDoor.win b (24 + dSize b) (szN (dSize b) - (24 + dSize b))
def dWant (b : List UInt8) : List UInt8 := putB (crc (dData b)) 4 ++ List.replicate (szN (dSize b) - (28 + dSize b)) 0
def dForm (b : List UInt8) : Prop := 65536 < dSize b ∨ (dDead b = true ∧ 0 < dSize b) ∨ b.take 24 ≠ hd24 (dKey b) (dCook b) (dDead b) (dSize b)
instance (b : List UInt8) : Decidable (dForm b) := by unfold dForm; infer_instance
/-- what is told of bytes that are to be a needle -/
def dE (b : List UInt8) : Nat := if b.length < 24 then 2 else if dForm b then 3 else if b.length < szN (dSize b) then 2 else if dRest b ≠ dWant b then 4 else 0
def zeroN : Value := .agg #[.int .u64 0, .int .u32 0, .bool false, .slice none 0 0]
def decNPost (b : List UInt8) (r : Value) (w w' : World) : Prop :=
  ((dE b = 2 ∨ dE b = 3) ∧ r = .tuple #[zeroN, .int .i64 0, .int .i64 (dE b : Nat)]) ∨
  (dE b = 4 ∧ r = .tuple #[.agg (ndC (dKey b) (dCook b) (dDead b) (.slice none 0 0)).toArray, .int .i64 (szN (dSize b) : Nat), .int .i64 4]) ∨
  (dE b = 0 ∧ ∃ u, r = .tuple #[.agg (ndC (dKey b) (dCook b) (dDead b) u).toArray, .int .i64 (szN (dSize b) : Nat), .int .i64 0] ∧ w'.ownsRow w.heap.size 5 1 u (dData b).length (bv (dData b)))
theorem dKey_lt (b : List UInt8) : dKey b < 18446744073709551616 := by
  have h := ofB_lt (Go.Proofs.YtladfadcgfdbfaaGreatDoor.win b 4 8)
  have h2 : (Go.Proofs.YtladfadcgfdbfaaGreatDoor.win b 4 8).length ≤ 8 := by simp [win]; omega
  exact Nat.lt_of_lt_of_le h (Nat.le_trans (Nat.pow_le_pow_right (by decide) h2) (by decide))
theorem win4_lt (b : List UInt8) (a : Nat) : ofB (Go.Proofs.YtladfadcgfdbfaaGreatDoor.win b a 4) < 4294967296 := by
  have h := ofB_lt (Go.Proofs.YtladfadcgfdbfaaGreatDoor.win b a 4)
  have h2 : (Go.Proofs.YtladfadcgfdbfaaGreatDoor.win b a 4).length ≤ 4 := by simp [win]; omega
  exact Nat.lt_of_lt_of_le h (Nat.le_trans (Nat.pow_le_pow_right (by decide) h2) (by decide))
set_option maxHeartbeats 8000000 in
theorem decNeedle_fn (v : Value) (b : List UInt8) (w0 : World) (hs : Sl w0 v (bv b)) :
    Fn Tryz.prog 69 #[v] w0 fun r w' => decNPost b r w0 w' ∧ Below w0.heap.size w0 w' := by
  have hL := Sep.start Tryz.prog w0
  have hB := Nat.le_refl w0.heap.size
  have hle := hs.le
  obtain ⟨va, vc, rfl⟩ := hs.shape
  simp only [bv_length] at *
  by_cases hlt : b.length < 24
  · have e1 : dE b = 2 := if_pos hlt
    refine Fn.mk Tryz.func69 rfl (by kernel_rfl) Tryz.ntmps69 rfl (by rw [Tryz.results69]) ?_
    repeat (first | (refine RunH ?_; intro w hL hB; try clear w) | (refine Both.mk ?_ ?_ <;> conv => whnf) | fail)
    (refine Nw.sep hL hB (fun t2 w hL hB ht2 => ?_); conv => whnf)
    repeat (first | (refine RunH ?_; intro w hL hB; try clear w) | (refine Both.mk ?_ ?_ <;> conv => whnf) | fail)
    exact ⟨.inl ⟨.inl e1, by rw [e1]; rfl⟩, hL.below⟩
  obtain ⟨bb, o, rfl, hrow⟩ := hs.addr (by omega)
  have hlen := hs.len
  simp only [bv_length] at hlen
  have g2 : b[2]? = some (b.getD 2 0) := by simp [List.getD, List.getElem?_eq_getElem (show 2 < b.length by omega)]
  have p1 : ∀ {L : List Res} (w' : World), Sep Tryz.prog w0.heap.size w0 w' L → Sl w' (.slice (some ⟨bb, o, none⟩) b.length vc) (bv b) := fun w' h => h.sl hs rfl
  have hk := dKey_lt b
  have hc : dCook b < 4294967296 := win4_lt b 12
  have hz : dSize b < 4294967296 := win4_lt b 16
  refine Fn.mk Tryz.func69 rfl (by kernel_rfl) Tryz.ntmps69 rfl (by rw [Tryz.results69]) ?_
  repeat (first | (refine RunH ?_; intro w hL hB; try clear w) | (refine Both.mk ?_ ?_ <;> conv => whnf) | fail)
  (refine Nw.sep hL hB (fun t2 w hL hB ht2 => ?_); conv => whnf)
  repeat (first | (refine RunH ?_; intro w hL hB; try clear w) | (refine Both.mk ?_ ?_ <;> conv => whnf) | fail)
  intro o1 ho1
  conv => whnf
  repeat (first | (refine RunH ?_; intro w hL hB; try clear w) | (refine Both.mk ?_ ?_ <;> conv => whnf) | fail)
  refine Ld.row1 ttOk (p1 _ hL).toN.rowOf tl5 rfl (bv_get g2) (by omega) ?_
  conv => whnf
  rw [show decide (((b.getD 2 0).toNat : Int) = 1) = dDead b from rfl]
  repeat (first | (refine RunH ?_; intro w hL hB; try clear w) | (refine Both.mk ?_ ?_ <;> conv => whnf) | fail)
  (refine Nw.sep hL hB (fun t5 w hL hB ht5 => ?_); conv => whnf)
  repeat (first | (refine RunH ?_; intro w hL hB; try clear w) | (refine Both.mk ?_ ?_ <;> conv => whnf) | fail)
  intro o2 n2 c2 z1 z2 z3 z4
  conv => whnf
  repeat (first | (refine RunH ?_; intro w hL hB; try clear w) | (refine Both.mk ?_ ?_ <;> conv => whnf) | fail)
  refine (get64_fn _ (b.drop 4) _ (by rw [bv_drop]; exact (p1 _ hL).drop (k := 4) (by rw [bv_length]; omega) (by omega) (by omega) (by omega))).mono fun r w1 ⟨hw, hr⟩ => ?_
  subst hw
  rw [if_neg (by simp; omega), show ofB ((b.drop 4).take 8) = dKey b from rfl] at hr
  subst hr
  conv => whnf
  repeat (first | (refine RunH ?_; intro w hL hB; try clear w) | (refine Both.mk ?_ ?_ <;> conv => whnf) | fail)
  intro o2 n2 c2 z1 z2 z3 z4
  conv => whnf
  repeat (first | (refine RunH ?_; intro w hL hB; try clear w) | (refine Both.mk ?_ ?_ <;> conv => whnf) | fail)
  refine (get32_fn _ (b.drop 12) _ (by rw [bv_drop]; exact (p1 _ hL).drop (k := 12) (by rw [bv_length]; omega) (by omega) (by omega) (by omega))).mono fun r w1 ⟨hw, hr⟩ => ?_
  subst hw
  rw [if_neg (by simp; omega), show ofB ((b.drop 12).take 4) = dCook b from rfl] at hr
  subst hr
  conv => whnf
  repeat (first | (refine RunH ?_; intro w hL hB; try clear w) | (refine Both.mk ?_ ?_ <;> conv => whnf) | fail)
  intro o2 n2 c2 z1 z2 z3 z4
  conv => whnf
  repeat (first | (refine RunH ?_; intro w hL hB; try clear w) | (refine Both.mk ?_ ?_ <;> conv => whnf) | fail)
  refine (get32_fn _ (b.drop 16) _ (by rw [bv_drop]; exact (p1 _ hL).drop (k := 16) (by rw [bv_length]; omega) (by omega) (by omega) (by omega))).mono fun r w1 ⟨hw, hr⟩ => ?_
  subst hw
  rw [if_neg (by simp; omega), show ofB ((b.drop 16).take 4) = dSize b from rfl] at hr
  subst hr
  conv => whnf
  repeat (first | (refine RunH ?_; intro w hL hB; try clear w) | (refine Both.mk ?_ ?_ <;> conv => whnf) | fail)
  refine (ndHead_fn (dKey b) (dCook b) (dDead b) (.slice none 0 0) (dSize b) hk hc hz _).mono fun r w ⟨hr, hw⟩ => ?_
  subst hr
  replace hL := hL.call hB (Turns.of_below hw)
  replace hB := Nat.le_trans hB hw.size
  have e24 := hd24_len (dKey b) (dCook b) (dDead b) (dSize b)
  have hfm : dForm b = (65536 < dSize b ∨ (dDead b = true ∧ 0 < dSize b) ∨ b.take 24 ≠ hd24 (dKey b) (dCook b) (dDead b) (dSize b)) := rfl
  generalize hd24 (dKey b) (dCook b) (dDead b) (dSize b) = G at *
  conv => whnf
  (refine Nw.sep hL hB (fun t8 w hL hB ht8 => ?_); conv => whnf)
  repeat (first | (refine RunH ?_; intro w hL hB; try clear w) | (refine Both.mk ?_ ?_ <;> conv => whnf) | fail)
  refine St.blkW ttOk hL 0 tl160 (by rw [bv_length]; exact e24) (bv_one _) rfl (by rw [bv_length, e24]; rfl) hB fun w hL hB => ?_
  dsimp only [List.set] at hL
  have hEf : dForm b → dE b = 3 := fun h => by rw [dE, if_neg hlt, if_pos h]
  by_cases h65 : 65536 < dSize b
  · have e1 : dE b = 3 := hEf (hfm ▸ .inl h65)
    conv => whnf
    repeat (first | (refine RunH ?_; intro w hL hB; try clear w) | (refine Both.mk ?_ ?_ <;> conv => whnf) | fail)
    exact ⟨.inl ⟨.inr e1, by rw [e1]; rfl⟩, hL.below⟩
  by_cases hdz : dDead b = true ∧ 0 < dSize b
  · have e1 : dE b = 3 := hEf (hfm ▸ .inr (.inl hdz))
    rw [hdz.1] at hL ⊢
    have h0 := hdz.2
    conv => whnf
    repeat (first | (refine RunH ?_; intro w hL hB; try clear w) | (refine Both.mk ?_ ?_ <;> conv => whnf) | fail)
    exact ⟨.inl ⟨.inr e1, by rw [e1]; rfl⟩, hL.below⟩
  have key : ∀ w, Sep Tryz.prog w0.heap.size w0 w [.blk t8 (bv G) 160, .blk t5 [.int .u64 (dKey b : Int), .int .u32 (dCook b : Int), .bool (dDead b), .slice none 0 0] 42, .blk t2 [.int .u64 0, .int .u32 0, .bool false, .slice none 0 0] 42] → True := fun _ _ => trivial
  have hsG : ∀ {w : World} {L : List Res}, Sep Tryz.prog w0.heap.size w0 w (.blk t8 (bv G) 160 :: L) → Sl w (.slice (some ⟨t8, 0, none⟩) 24 24) (bv G) := fun h => by
    have := sl_blk (o := 0) (n := 24) (c := 24) (h.blk (i := 0) rfl) (by rw [bv_length, e24]; decide) (by decide) (by decide)
    rwa [List.drop_zero, List.take_of_length_le (by rw [bv_length, e24]; decide)] at this
  have hdz' : dDead b = true → dSize b = 0 := fun h => by
    rcases Nat.eq_zero_or_pos (dSize b) with h0 | h0
    · exact h0
    · exact absurd ⟨h, h0⟩ hdz
  generalize hdd : dDead b = dd at *
  cases dd <;> (
    try have h00 := hdz' rfl
    conv => whnf
    repeat (first | (refine RunH ?_; intro w hL hB; try clear w) | (refine Both.mk ?_ ?_ <;> conv => whnf) | fail)
    intro n3 c3 z1 z2
    obtain ⟨rfl, rfl⟩ : n3 = 24 ∧ c3 = 24 := by omega
    conv => whnf
    repeat (first | (refine RunH ?_; intro w hL hB; try clear w) | (refine Both.mk ?_ ?_ <;> conv => whnf) | fail)
    intro n4 c4 z3 z4
    obtain rfl : n4 = 24 := by omega
    conv => whnf
    repeat (first | (refine RunH ?_; intro w hL hB; try clear w) | (refine Both.mk ?_ ?_ <;> conv => whnf) | fail)
    refine (eqB_fn _ _ G (b.take 24) _ (hsG hL) (by rw [bv_take]; exact (p1 _ hL).take (k := 24) (by rw [bv_length]; omega) (by omega) (by omega))).mono fun r w1 ⟨hr, hw⟩ => ?_
    subst hw
    subst hr
    conv => whnf
    repeat (first | (refine RunH ?_; intro w hL hB; try clear w) | (refine Both.mk ?_ ?_ <;> conv => whnf) | fail)
    by_cases hG : G = b.take 24
    case neg =>
      have e1 : dE b = 3 := hEf (hfm ▸ .inr (.inr fun h => hG h.symm))
      repeat (first | (refine RunH ?_; intro w hL hB; try clear w) | (refine Both.mk ?_ ?_ <;> conv => whnf) | fail)
      exact ⟨.inl ⟨.inr e1, by rw [e1]; rfl⟩, hL.below⟩
    have hnf : ¬ dForm b := hfm ▸ fun h => by
      rcases h with h | h | h
      · exact h65 h
      · exact hdz h
      · exact h hG.symm
    have hsz := szN_le (dSize b)
    repeat (first | (refine RunH ?_; intro w hL hB; try clear w) | (refine Both.mk ?_ ?_ <;> conv => whnf) | fail)
    refine (ndSize_fn (dSize b : Int) (by omega) _).mono fun r w' ⟨hr, hw⟩ => ?_
    rw [Int.toNat_natCast] at hr
    subst hr; subst hw
    by_cases hsh : b.length < szN (dSize b)
    · have e1 : dE b = 2 := by rw [dE, if_neg hlt, if_neg hnf, if_pos hsh]
      conv => whnf
      repeat (first | (refine RunH ?_; intro w hL hB; try clear w) | (refine Both.mk ?_ ?_ <;> conv => whnf) | fail)
      exact ⟨.inl ⟨.inl e1, by rw [e1]; rfl⟩, hL.below⟩
    have hE : dE b = if dRest b ≠ dWant b then 4 else 0 := by rw [dE, if_neg hlt, if_neg hnf, if_neg hsh]
    have hDl : (dData b).length = dSize b := win_len (by omega)
    have hRl : (dRest b).length = szN (dSize b) - (24 + dSize b) := win_len (by omega)
    have hWl : (dWant b).length = szN (dSize b) - (24 + dSize b) := by simp [dWant, putB_len]; omega
    have eW : dWant b = putB (crc (dData b)) 4 ++ List.replicate (szN (dSize b) - (28 + dSize b)) 0 := rfl
    have hD : ∀ {w : World} {L : List Res}, Sep Tryz.prog w0.heap.size w0 w L → ∀ (o' n' c' : Nat), n' = dSize b → o' = o + 24 → n' ≤ c' → c' + 24 ≤ vc → Sl w (.slice (some ⟨bb, o', none⟩) n' c') (bv (dData b)) := fun h o' n' c' e1 e2 e3 e4 => by
      subst e1; subst e2
      have := ((p1 _ h).drop (k := 24) (o' := o + 24) (n' := b.length - 24) (c' := vc - 24) (by rw [bv_length]; omega) (by omega) (by omega) (by omega)).take (k := dSize b) (c' := c') (by simp; omega) (by omega) (by omega)
      rwa [← bv_drop, ← bv_take] at this
    have hR : ∀ {w : World} {L : List Res}, Sep Tryz.prog w0.heap.size w0 w L → ∀ (o' n' c' : Nat), n' = szN (dSize b) - (24 + dSize b) → o' = o + (24 + dSize b) → n' ≤ c' → c' + (24 + dSize b) ≤ vc → Sl w (.slice (some ⟨bb, o', none⟩) n' c') (bv (dRest b)) := fun h o' n' c' e1 e2 e3 e4 => by
      subst e1; subst e2
      have := ((p1 _ h).drop (k := 24 + dSize b) (o' := o + (24 + dSize b)) (n' := b.length - (24 + dSize b)) (c' := vc - (24 + dSize b)) (by rw [bv_length]; omega) (by omega) (by omega) (by omega)).take (k := szN (dSize b) - (24 + dSize b)) (c' := c') (by simp; omega) (by omega) (by omega)
      rwa [← bv_drop, ← bv_take] at this
    generalize hRR : dRest b = R at *
    generalize hWW : dWant b = W at *
    generalize hDD : dData b = D at *
    conv => whnf
    repeat (first | (refine RunH ?_; intro w hL hB; try clear w) | (refine Both.mk ?_ ?_ <;> conv => whnf) | fail)
    intro o5 n5 c5 z5 z6 z7 z8
    obtain rfl : n5 = dSize b := by omega
    conv => whnf
    repeat (first | (refine RunH ?_; intro w hL hB; try clear w) | (refine Both.mk ?_ ?_ <;> conv => whnf) | fail)
    intro o6 n6 c6 z9 z10 z11 z12
    obtain rfl : n6 = szN (dSize b) - (24 + dSize b) := by omega
    conv => whnf
    repeat (first | (refine RunH ?_; intro w hL hB; try clear w) | (refine Both.mk ?_ ?_ <;> conv => whnf) | fail)
    generalize hM : szN (dSize b) - (24 + dSize b) = M at *
    refine Rv.makeS ttOk hL M M tl40 tl5 rfl rfl rfl (Nat.le_refl _) (by omega) (by simp only [maxLen]; omega) hB fun g w hL hB => ?_
    replace hL := hL.saidN 0 rfl (R' := .row 5 1 (.slice (some ⟨g, 0, none⟩) M M) M (bv ([] ++ List.replicate M 0))) (by
      have := hL.at (i := 0) rfl
      have e : bv ([] ++ List.replicate M 0) = List.replicate M (.int .u8 0) := by simp [bv, u8]
      rw [e]; exact this) rfl
    dsimp only [List.set] at hL
    conv => whnf
    repeat (first | (refine RunH ?_; intro w hL hB; try clear w) | (refine Both.mk ?_ ?_ <;> conv => whnf) | fail)
    refine (sum_fn _ D _ (hD hL _ _ _ rfl (by omega) (by omega) (by omega))).mono fun r2 w ⟨hr, hw⟩ => ?_
    subst hr
    replace hL := hL.call hB (Turns.of_below hw)
    replace hB := Nat.le_trans hB hw.size
    conv => whnf
    repeat (first | (refine RunH ?_; intro w hL hB; try clear w) | (refine Both.mk ?_ ?_ <;> conv => whnf) | fail)
    refine (put32m _ (crc_lt _) _).mono fun r w ⟨ho, hw⟩ => ?_
    replace hL := hL.addRow hB hw ho
    replace hB := Nat.le_trans hB hw.size
    obtain ⟨ra, rc, rfl⟩ := (show SlN w 1 r _ _ from hL.rowN (i := 0) rfl).shape
    rw [putB_len]
    conv => whnf
    repeat (first | (refine RunH ?_; intro w hL hB; try clear w) | (refine Both.mk ?_ ?_ <;> conv => whnf) | fail)
    refine Rv.copyR ttOk hL 1 tl40 tl5 rfl (by have := hL.row (i := 0) rfl; rwa [putB_len] at this) (bv_one _) (by omega) hB fun w hL hB => ?_
    dsimp only [List.set] at hL
    rw [List.take_of_length_le (by rw [bv_length, putB_len]; omega), splice_tail _ _ M (szN (dSize b) - (28 + dSize b)) 0 rfl (by rw [putB_len]; omega), List.nil_append, ← eW] at hL
    replace hL := hL.tl
    conv => whnf
    repeat (first | (refine RunH ?_; intro w hL hB; try clear w) | (refine Both.mk ?_ ?_ <;> conv => whnf) | fail)
    refine (eqB_fn _ _ R W _ (hR hL _ _ _ rfl (by omega) (by omega) (by omega)) (by have := hL.row (i := 0) rfl; exact this)).mono fun r w1 ⟨hr, hw⟩ => ?_
    subst hw
    subst hr
    by_cases hRW : R = W
    case neg =>
      have e1 : dE b = 4 := by rw [hE, if_pos hRW]
      conv => whnf
      repeat (first | (refine RunH ?_; intro w hL hB; try clear w) | (refine Both.mk ?_ ?_ <;> conv => whnf) | fail)
      exact ⟨.inr (.inl ⟨e1, by rw [hdd]; rfl⟩), hL.below⟩
    have e1 : dE b = 0 := by rw [hE, if_neg (fun h => h hRW)]
    conv => whnf
    repeat (first | (refine RunH ?_; intro w hL hB; try clear w) | (refine Both.mk ?_ ?_ <;> conv => whnf) | fail)
    refine (clone_fn _ D _ (hD hL _ _ _ rfl (by omega) (by omega) (by omega)) (by omega)).mono fun r w ⟨ho, hw⟩ => ?_
    replace hL := hL.addRow hB hw ho
    replace hB := Nat.le_trans hB hw.size
    obtain ⟨ra, rc, rfl⟩ := (show SlN w 1 r _ _ from hL.rowN (i := 0) rfl).shape
    conv => whnf
    repeat (first | (refine RunH ?_; intro w hL hB; try clear w) | (refine Both.mk ?_ ?_ <;> conv => whnf) | fail)
    refine ⟨.inr (.inr ⟨e1, _, by rw [hdd]; rfl, ?_⟩), hL.below⟩
    rw [hDD]
    exact hL.ownR (i := 0) rfl)
end Go.Proofs.YtladfadcgfdbfaaGreatDoor
