/- Records with their sum: what they say; the walks of frame.Decode and its reference. Nothing is claimed here. -/
import Derived.Test.YtlldgodjfpgbcaaRr
import Derived.Test.YtlldgodjfpgbcaaE
namespace Go.Proofs.Ytlldgodjfpgbcaa
open Go.RowKit
set_option linter.unusedVariables false
set_option linter.unusedSimpArgs false
set_option maxRecDepth 100000

def decN (b : List UInt8) : Nat := ofB (Go.Proofs.Ytlldgodjfpgbcaa.win b 0 4)
def decP (b : List UInt8) : List UInt8 := Go.Proofs.Ytlldgodjfpgbcaa.win b 8 (decN b)
def decE (b : List UInt8) : Nat := if b.length < 8 then 2 else if 1048576 < decN b then 5 else if b.length < 8 + decN b then 2 else if crc (Go.Proofs.Ytlldgodjfpgbcaa.win b 0 4 ++ decP b) ≠ ofB (Go.Proofs.Ytlldgodjfpgbcaa.win b 4 4) then 4 else 0
def decPost (b : List UInt8) (r : Value) (w w' : World) : Prop := if decE b = 0 then 8 + decN b ≤ b.length ∧ (decP b).length = decN b ∧ ∃ u, r = .tuple #[u, .int .i64 ((8 + decN b : Nat) : Int), .int .i64 0] ∧ w'.ownsRow w.heap.size 5 1 u (decN b) (bv (decP b)) else
  r = .tuple #[.slice none 0 0, .int .i64 0, .int .i64 (decE b : Int)]

set_option maxHeartbeats 4000000 in
theorem decode_fn (v : Value) (b : List UInt8) (w0 : World) (hs : Sl w0 v (bv b)) : Fn Try.prog 45 #[v] w0 fun r w' => decPost b r w0 w' ∧ Below w0.heap.size w0 w' := by
  have hle := hs.le
  obtain ⟨a, c, rfl⟩ := hs.shape
  simp only [bv_length] at *
  have hL := Sep.start Try.prog w0
  have hB := Nat.le_refl w0.heap.size
  refine Fn.mk Try.func45 rfl (by kernel_rfl) Try.ntmps45 rfl (by rw [Try.results45]) ?_
  repeat (first | (refine RunH ?_; intro w hL hB; try clear w) | (refine Both.mk ?_ ?_ <;> conv => whnf) | fail)
  refine (get32_fn _ b _ hs).mono fun r w1 ⟨hw, hr⟩ => ?_
  subst hr; subst hw
  by_cases h8 : b.length < 8
  · have he : decE b = 2 := by rw [decE, if_pos h8]
    by_cases h4 : b.length < 4
    · rw [if_pos h4]
      conv => whnf
      repeat (first | (refine RunH ?_; intro w hL hB; try clear w) | (refine Both.mk ?_ ?_ <;> conv => whnf) | fail)
      exact ⟨by simp [decPost, he], hL.below⟩
    · rw [if_neg h4]
      conv => whnf
      repeat (first | (refine RunH ?_; intro w hL hB; try clear w) | (refine Both.mk ?_ ?_ <;> conv => whnf) | fail)
      exact ⟨by simp [decPost, he], hL.below⟩
  rw [if_neg (by omega), show b.take 4 = Go.Proofs.Ytlldgodjfpgbcaa.win b 0 4 from rfl]
  obtain ⟨bb, o, rfl, hr⟩ := hs.addr (by omega)
  obtain ⟨q1, q2, q3⟩ := hs.len
  rw [bv_length] at q1
  have hn : ofB (Go.Proofs.Ytlldgodjfpgbcaa.win b 0 4) = decN b := rfl
  rw [hn]
  have hnl : decN b < 4294967296 := ofB4_lt b 0
  conv => whnf
  repeat (first | (refine RunH ?_; intro w hL hB; try clear w) | (refine Both.mk ?_ ?_ <;> conv => whnf) | fail)
  intro o1 n1 c1 p1 p2 p3 p4
  conv => whnf
  repeat (first | (refine RunH ?_; intro w hL hB; try clear w) | (refine Both.mk ?_ ?_ <;> conv => whnf) | fail)
  refine (get32w (hs.win (lo := 4) (n := b.length - 4) (by omega) (fun h => by have := p1 (by omega); omega) (by omega) (by omega)) (by omega) (by omega)).mono fun r w1 ⟨hr, hw⟩ => ?_
  subst hr; subst hw
  by_cases h5 : 1048576 < decN b
  · have he : decE b = 5 := by rw [decE, if_neg h8, if_pos h5]
    conv => whnf
    repeat (first | (refine RunH ?_; intro w hL hB; try clear w) | (refine Both.mk ?_ ?_ <;> conv => whnf) | fail)
    exact ⟨by simp [decPost, he], hL.below⟩
  by_cases h9 : b.length < 8 + decN b
  · have he : decE b = 2 := by rw [decE, if_neg h8, if_neg h5, if_pos h9]
    conv => whnf
    repeat (first | (refine RunH ?_; intro w hL hB; try clear w) | (refine Both.mk ?_ ?_ <;> conv => whnf) | fail)
    exact ⟨by simp [decPost, he], hL.below⟩
  have hpl : (decP b).length = decN b := win_len (by omega)
  have h4l : (Go.Proofs.Ytlldgodjfpgbcaa.win b 0 4).length = 4 := win_len (by omega)
  conv => whnf
  repeat (first | (refine RunH ?_; intro w hL hB; try clear w) | (refine Both.mk ?_ ?_ <;> conv => whnf) | fail)
  intro o2 n2 c2 p5 p6 p7 p8
  conv => whnf
  repeat (first | (refine RunH ?_; intro w hL hB; try clear w) | (refine Both.mk ?_ ?_ <;> conv => whnf) | fail)
  obtain rfl : n2 = decN b := by omega
  have hp2 : Sl w1 (.slice (some ⟨bb, o2, none⟩) (decN b) c2) (bv (decP b)) := hs.win (lo := 8) (n := decN b) (by omega) (fun h => by have := p5 (by omega); omega) (by omega) (by omega)
  intro n3 c3 p9 p10
  conv => whnf
  repeat (first | (refine RunH ?_; intro w hL hB; try clear w) | (refine Both.mk ?_ ?_ <;> conv => whnf) | fail)
  obtain rfl : n3 = 4 := by omega
  have hp3 : Sl w1 (.slice (some ⟨bb, o, none⟩) 4 c3) (bv (Go.Proofs.Ytlldgodjfpgbcaa.win b 0 4)) := by
    have := hs.take (k := 4) (by rw [bv_length]; omega) (c' := c3) (by omega) (by omega)
    rw [← bv_take] at this; exact this
  refine (clone_fn _ _ _ hp3 (by omega)).mono fun r w ⟨ho, hw⟩ => ?_
  replace hL := hL.addRow hB hw ho
  replace hB := Nat.le_trans hB hw.size
  clear ho hw
  obtain ⟨oa, oc, rfl⟩ := own_shape1 (show World.ownsRow _ 0 5 1 r _ _ from hL.at (i := 0) rfl)
  conv => whnf
  repeat (first | (refine RunH ?_; intro w hL hB; try clear w) | (refine Both.mk ?_ ?_ <;> conv => whnf) | fail)
  refine Rv.appendS ttOk hL tl22 tl5 rfl (by decide) 0 rfl (Sl.toN (hp2.below hL.below)) (bv_one _) (by simp only [maxLen, bv_length]; omega) (by rw [bv_length]; omega) hB fun vo w hL hB => ?_
  dsimp only [List.set] at hL
  rw [← bv_append, bv_length, ← List.length_append] at hL
  conv => whnf
  repeat (first | (refine RunH ?_; intro w hL hB; try clear w) | (refine Both.mk ?_ ?_ <;> conv => whnf) | fail)
  refine (sumw (hL.row (i := 0) rfl)).mono fun r2 w ⟨hr, hw⟩ => ?_
  subst hr
  replace hL := (hL.call hB (Turns.of_below hw)).tl
  replace hB := Nat.le_trans hB hw.size
  by_cases hc : crc (Go.Proofs.Ytlldgodjfpgbcaa.win b 0 4 ++ decP b) = ofB (Go.Proofs.Ytlldgodjfpgbcaa.win b 4 4)
  · have he : decE b = 0 := by rw [decE, if_neg h8, if_neg h5, if_neg h9, if_neg (fun h => h hc)]
    conv => whnf
    repeat (first | (refine RunH ?_; intro w hL hB; try clear w) | (refine Both.mk ?_ ?_ <;> conv => whnf) | fail)
    refine (clone_fn _ _ _ (hp2.below hL.below) (by omega)).mono fun r w ⟨ho, hw⟩ => ?_
    replace hL := hL.addRow hB hw ho
    replace hB := Nat.le_trans hB hw.size
    conv => whnf
    repeat (first | (refine RunH ?_; intro w hL hB; try clear w) | (refine Both.mk ?_ ?_ <;> conv => whnf) | fail)
    refine ⟨?_, hL.below⟩
    rw [decPost, if_pos he]
    refine ⟨by omega, hpl, _, rfl, ?_⟩
    rw [← hpl]
    exact own_raise (hL.at (i := 0) rfl) fun b hb => hL.own _ (List.mem_cons_self ..) b (mem_rowB.2 hb)
  · have he : decE b = 4 := by rw [decE, if_neg h8, if_neg h5, if_neg h9, if_pos hc]
    conv => whnf
    repeat (first | (refine RunH ?_; intro w hL hB; try clear w) | (refine Both.mk ?_ ?_ <;> conv => whnf) | fail)
    exact ⟨by simp [decPost, he], hL.below⟩

set_option maxHeartbeats 4000000 in
theorem decodeR_fn (v : Value) (b : List UInt8) (w0 : World) (hs : Sl w0 v (bv b)) : Fn Try.prog 48 #[v] w0 fun r w' => decPost b r w0 w' ∧ Below w0.heap.size w0 w' := by
  have hle := hs.le
  obtain ⟨a, c, rfl⟩ := hs.shape
  simp only [bv_length] at *
  have hL := Sep.start Try.prog w0
  have hB := Nat.le_refl w0.heap.size
  refine Fn.mk Try.func48 rfl (by kernel_rfl) Try.ntmps48 rfl (by rw [Try.results48]) ?_
  by_cases h8 : b.length < 8
  · have he : decE b = 2 := by rw [decE, if_pos h8]
    repeat (first | (refine RunH ?_; intro w hL hB; try clear w) | (refine Both.mk ?_ ?_ <;> conv => whnf) | fail)
    exact ⟨by simp [decPost, he], hL.below⟩
  obtain ⟨bb, o, rfl, hr⟩ := hs.addr (by omega)
  obtain ⟨q1, q2, q3⟩ := hs.len
  rw [bv_length] at q1
  have hn : ofB (Go.Proofs.Ytlldgodjfpgbcaa.win b 0 4) = decN b := rfl
  have hnl : decN b < 4294967296 := ofB4_lt b 0
  repeat (first | (refine RunH ?_; intro w hL hB; try clear w) | (refine Both.mk ?_ ?_ <;> conv => whnf) | fail)
  refine (get32R_fn _ b (by omega) _ hs).mono fun r w ⟨hw, hr⟩ => ?_
  subst hr
  replace hw : Below w0.heap.size w0 w := by subst hw; exact (Below.refl _ _).drew
  rw [show b.take 4 = Go.Proofs.Ytlldgodjfpgbcaa.win b 0 4 from rfl, hn]
  replace hL := hL.call hB (Turns.of_below hw)
  replace hB := Nat.le_trans hB hw.size
  conv => whnf
  by_cases h5 : 1048576 < decN b
  · have he : decE b = 5 := by rw [decE, if_neg h8, if_pos h5]
    repeat (first | (refine RunH ?_; intro w hL hB; try clear w) | (refine Both.mk ?_ ?_ <;> conv => whnf) | fail)
    exact ⟨by simp [decPost, he], hL.below⟩
  by_cases h9 : b.length < 8 + decN b
  · have he : decE b = 2 := by rw [decE, if_neg h8, if_neg h5, if_pos h9]
    repeat (first | (refine RunH ?_; intro w hL hB; try clear w) | (refine Both.mk ?_ ?_ <;> conv => whnf) | fail)
    exact ⟨by simp [decPost, he], hL.below⟩
  have hpl : (decP b).length = decN b := win_len (by omega)
  have h4l : (Go.Proofs.Ytlldgodjfpgbcaa.win b 0 4).length = 4 := win_len (by omega)
  repeat (first | (refine RunH ?_; intro w hL hB; try clear w) | (refine Both.mk ?_ ?_ <;> conv => whnf) | fail)
  refine Rv.buildS (len := 0) (vs := []) ttOk hL tl22 tl5 rfl rfl (by intro u hu; cases hu) (by decide) (by decide) hB fun bo w hL hB => ?_
  conv => whnf
  repeat (first | (refine RunH ?_; intro w hL hB; try clear w) | (refine Both.mk ?_ ?_ <;> conv => whnf) | fail)
  intro o2 n2 c2 p5 p6 p7 p8
  conv => whnf
  repeat (first | (refine RunH ?_; intro w hL hB; try clear w) | (refine Both.mk ?_ ?_ <;> conv => whnf) | fail)
  obtain rfl : n2 = decN b := by omega
  have hp2 : ∀ {w}, Below w0.heap.size w0 w → Sl w (.slice (some ⟨bb, o2, none⟩) (decN b) c2) (bv (decP b)) := fun h => (hs.below h).win (lo := 8) (n := decN b) (by omega) (fun h => by have := p5 (by omega); omega) (by omega) (by omega)
  refine Rv.appendS ttOk hL tl22 tl5 rfl (by decide) 0 rfl (Sl.toN (hp2 hL.below)) (bv_one _) (by simp only [maxLen, bv_length]; omega) (by rw [bv_length]; omega) hB fun vo w hL hB => ?_
  dsimp only [List.set] at hL
  rw [show List.flatMap cellsL [] ++ bv (decP b) = bv (decP b) from rfl, bv_length, Nat.zero_add] at hL
  obtain ⟨oa, oc, rfl⟩ := own_shape1 (show World.ownsRow _ 0 5 1 vo _ _ from hL.at (i := 0) rfl)
  conv => whnf
  repeat (first | (refine RunH ?_; intro w hL hB; try clear w) | (refine Both.mk ?_ ?_ <;> conv => whnf) | fail)
  repeat (first | (refine RunK ?_; intro w hL hB; try clear w) | (refine V.treeA ttOk hL (.q 1 (.q 2 (.q 4 (.q 7 (.q 8 (.alt 0 (.alt 3 (.alt 5 (.alt 6 (.alt 9 (.q 10 .nil) .stop) .stop) .stop) .stop) .stop)))))) mixed (by decide +kernel) ?_; replace hL := hL.drew; conv => whnf) | (refine V.tailA ttOk mixed (by decide +kernel) ?_; replace hL := hL.drew; conv => whnf) | (refine Both.mk ?_ ?_ <;> conv => whnf) | fail)
  intro n3 c3 p9 p10
  conv => whnf
  repeat (first | (refine RunH ?_; intro w hL hB; try clear w) | (refine Both.mk ?_ ?_ <;> conv => whnf) | fail)
  intro o4 n4 c4 p11 p12 p13 p14
  conv => whnf
  repeat (first | (refine RunH ?_; intro w hL hB; try clear w) | (refine Both.mk ?_ ?_ <;> conv => whnf) | fail)
  obtain rfl : n3 = 4 := by omega
  have hp3 : ∀ {w}, Below w0.heap.size w0 w → Sl w (.slice (some ⟨bb, o, none⟩) 4 c3) (bv (Go.Proofs.Ytlldgodjfpgbcaa.win b 0 4)) := fun h => by
    have := (hs.below h).take (k := 4) (by rw [bv_length]; omega) (c' := c3) (by omega) (by omega)
    rw [← bv_take] at this; exact this
  refine Rv.buildS (len := 0) (vs := []) ttOk hL tl22 tl5 rfl rfl (by intro u hu; cases hu) (by decide) (by decide) hB fun bo w hL hB => ?_
  conv => whnf
  repeat (first | (refine RunH ?_; intro w hL hB; try clear w) | (refine Both.mk ?_ ?_ <;> conv => whnf) | fail)
  refine Rv.appendS ttOk hL tl22 tl5 rfl (by decide) 0 rfl (Sl.toN (hp3 hL.below)) (bv_one _) (by simp only [maxLen, bv_length]; omega) (by rw [bv_length]; omega) hB fun vo w hL hB => ?_
  dsimp only [List.set] at hL
  rw [show List.flatMap cellsL [] ++ bv (Go.Proofs.Ytlldgodjfpgbcaa.win b 0 4) = bv (Go.Proofs.Ytlldgodjfpgbcaa.win b 0 4) from rfl, bv_length, Nat.zero_add] at hL
  obtain ⟨oa2, oc2, rfl⟩ := own_shape1 (show World.ownsRow _ 0 5 1 vo _ _ from hL.at (i := 0) rfl)
  conv => whnf
  repeat (first | (refine RunH ?_; intro w hL hB; try clear w) | (refine Both.mk ?_ ?_ <;> conv => whnf) | fail)
  refine Rv.appendS ttOk hL tl22 tl5 rfl (by decide) 0 rfl (hL.rowN (i := 1) rfl) (bv_one _) (by simp only [maxLen]; omega) (by omega) hB fun vo w hL hB => ?_
  dsimp only [List.set] at hL
  rw [← bv_append, ← List.length_append] at hL
  obtain ⟨oa3, oc3, rfl⟩ := own_shape1 (show World.ownsRow _ 0 5 1 vo _ _ from hL.at (i := 0) rfl)
  conv => whnf
  repeat (first | (refine RunH ?_; intro w hL hB; try clear w) | (refine Both.mk ?_ ?_ <;> conv => whnf) | fail)
  refine (sumRw (hL.row (i := 0) rfl)).mono fun r2 w ⟨hr, hw⟩ => ?_
  subst hr
  replace hL := (hL.call hB (Turns.of_below hw)).tl
  replace hB := Nat.le_trans hB hw.size
  conv => whnf
  repeat (first | (refine RunH ?_; intro w hL hB; try clear w) | (refine Both.mk ?_ ?_ <;> conv => whnf) | fail)
  refine (get32Rw ((hs.below hL.below).win (lo := 4) (n := b.length - 4) (by omega) (fun h => by have := p11 (by omega); omega) (by omega) (by omega)) (by omega) (by omega)).mono fun r2 w ⟨hr, hw⟩ => ?_
  subst hr
  replace hL := hL.call hB (Turns.of_below hw)
  replace hB := Nat.le_trans hB hw.size
  conv => whnf
  by_cases hc : crc (Go.Proofs.Ytlldgodjfpgbcaa.win b 0 4 ++ decP b) = ofB (Go.Proofs.Ytlldgodjfpgbcaa.win b 4 4)
  · have he : decE b = 0 := by rw [decE, if_neg h8, if_neg h5, if_neg h9, if_neg (fun h => h hc)]
    repeat (first | (refine RunH ?_; intro w hL hB; try clear w) | (refine Both.mk ?_ ?_ <;> conv => whnf) | fail)
    refine ⟨?_, hL.below⟩
    rw [decPost, if_pos he]
    refine ⟨by omega, hpl, _, rfl, ?_⟩
    rw [← hpl]
    exact own_raise (hL.at (i := 0) rfl) fun b hb => hL.own _ (List.mem_cons_self ..) b (mem_rowB.2 hb)
  · have he : decE b = 4 := by rw [decE, if_neg h8, if_neg h5, if_neg h9, if_pos hc]
    repeat (first | (refine RunH ?_; intro w hL hB; try clear w) | (refine Both.mk ?_ ?_ <;> conv => whnf) | fail)
    exact ⟨by simp [decPost, he], hL.below⟩
end Go.Proofs.Ytlldgodjfpgbcaa
