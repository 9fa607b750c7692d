/- Records with their sum: the reference's walks. Nothing is claimed here. -/
import Derived.Test.YtjgiailgidbkmaaWf
namespace Go.Proofs.Ytjgiailgidbkmaa
open Go.RowKit
set_option linter.unusedVariables false
set_option linter.unusedSimpArgs false
set_option maxRecDepth 100000

theorem get32Rw {w : World} {v : Value} {b : List UInt8} {lo n : Nat} (h : Sl w v (bv (Go.Proofs.Ytjgiailgidbkmaa.win b lo n))) (hk : lo + n ≤ b.length) (h4 : 4 ≤ n) : Fn Try.prog 69 #[v] w fun r w' => r = .int .u32 (ofB (Go.Proofs.Ytjgiailgidbkmaa.win b lo 4) : Int) ∧ Below w.heap.size w w' :=
  (get32R_fn v _ (by rw [win_len hk]; exact h4) w h).mono fun r w' ⟨hw, hr⟩ => by
    subst hw
    rw [win_take h4] at hr
    exact ⟨hr, (Below.refl _ w).drew⟩
theorem sumRw {w : World} {v : Value} {l : List UInt8} (h : Sl w v (bv l)) : Fn Try.prog 68 #[v] w fun r w' => r = .int .u32 (crc l : Int) ∧ Below w.heap.size w w' := sumR_fn v l w h
set_option maxHeartbeats 4000000 in
theorem decodeR_fn (v : Value) (b : List UInt8) (w0 : World) (hs : Sl w0 v (bv b)) : Fn Try.prog 54 #[v] w0 fun r w' => decPost b r w0 w' ∧ Below w0.heap.size w0 w' := by
  have hle := hs.le
  obtain ⟨a, c, rfl⟩ := hs.shape
  simp only [bv_length] at *
  have hL := Sep.start Try.prog w0
  have hB := Nat.le_refl w0.heap.size
  refine Fn.mk Try.func54 rfl (by kernel_rfl) Try.ntmps54 rfl (by rw [Try.results54]) ?_
  by_cases h8 : b.length < 8
  · have he : decE b = 2 := by rw [decE, if_pos h8]
    repeat (first | (refine RunH ?_; intro w hL hB; try clear w) | (refine Both.mk ?_ ?_ <;> conv => whnf) | fail)
    exact ⟨by simp [decPost, he], hL.below⟩
  obtain ⟨bb, o, rfl, hr⟩ := hs.addr (by omega)
  obtain ⟨q1, q2, q3⟩ := hs.len
  rw [bv_length] at q1
  have hn : ofB (Go.Proofs.Ytjgiailgidbkmaa.win b 0 4) = decN b := rfl
  have hnl : decN b < 4294967296 := ofB4_lt b 0
  repeat (first | (refine RunH ?_; intro w hL hB; try clear w) | (refine Both.mk ?_ ?_ <;> conv => whnf) | fail)
  refine (get32R_fn _ b (by omega) _ hs).mono fun r w ⟨hw, hr⟩ => ?_
  subst hr
  replace hw : Below w0.heap.size w0 w := by subst hw; exact (Below.refl _ _).drew
  rw [show b.take 4 = Go.Proofs.Ytjgiailgidbkmaa.win b 0 4 from rfl, hn]
  replace hL := hL.call hB (Turns.of_below hw)
  replace hB := Nat.le_trans hB hw.size
  conv => whnf
  by_cases h5 : 1048576 < decN b
  · have he : decE b = 5 := by rw [decE, if_neg h8, if_pos h5]
    repeat (first | (refine RunH ?_; intro w hL hB; try clear w) | (refine Both.mk ?_ ?_ <;> conv => whnf) | fail)
    exact ⟨by simp [decPost, he], hL.below⟩
  by_cases h9 : b.length < 8 + decN b
  · have he : decE b = 2 := by rw [decE, if_neg h8, if_neg h5, if_pos h9]
    repeat (first | (refine RunH ?_; intro w hL hB; try clear w) | (refine Both.mk ?_ ?_ <;> conv => whnf) | fail)
    exact ⟨by simp [decPost, he], hL.below⟩
  have hpl : (decP b).length = decN b := win_len (by omega)
  have h4l : (Go.Proofs.Ytjgiailgidbkmaa.win b 0 4).length = 4 := win_len (by omega)
  repeat (first | (refine RunH ?_; intro w hL hB; try clear w) | (refine Both.mk ?_ ?_ <;> conv => whnf) | fail)
  refine Rv.buildS (len := 0) (vs := []) ttOk hL tl22 tl5 rfl rfl (by intro u hu; cases hu) (by decide) (by decide) hB fun bo w hL hB => ?_
  conv => whnf
  repeat (first | (refine RunH ?_; intro w hL hB; try clear w) | (refine Both.mk ?_ ?_ <;> conv => whnf) | fail)
  intro o2 n2 c2 p5 p6 p7 p8
  conv => whnf
  repeat (first | (refine RunH ?_; intro w hL hB; try clear w) | (refine Both.mk ?_ ?_ <;> conv => whnf) | fail)
  obtain rfl : n2 = decN b := by omega
  have hp2 : ∀ {w}, Below w0.heap.size w0 w → Sl w (.slice (some ⟨bb, o2, none⟩) (decN b) c2) (bv (decP b)) := fun h => (hs.below h).win (lo := 8) (n := decN b) (by omega) (fun h => by have := p5 (by omega); omega) (by omega) (by omega)
  refine Rv.appendS ttOk hL tl22 tl5 rfl (by decide) 0 rfl (Sl.toN (hp2 hL.below)) (bv_one _) (by simp only [maxLen, bv_length]; omega) (by rw [bv_length]; omega) hB fun vo w hL hB => ?_
  dsimp only [List.set] at hL
  rw [show List.flatMap cellsL [] ++ bv (decP b) = bv (decP b) from rfl, bv_length, Nat.zero_add] at hL
  obtain ⟨oa, oc, rfl⟩ := own_shape1 (show World.ownsRow _ 0 5 1 vo _ _ from hL.at (i := 0) rfl)
  conv => whnf
  repeat (first | (refine RunH ?_; intro w hL hB; try clear w) | (refine Both.mk ?_ ?_ <;> conv => whnf) | fail)
  repeat (first | (refine RunK ?_; intro w hL hB; try clear w) | (refine V.treeA ttOk hL (.q 1 (.q 2 (.q 4 (.q 7 (.q 8 (.alt 0 (.alt 3 (.alt 5 (.alt 6 (.alt 9 (.q 10 .nil) .stop) .stop) .stop) .stop) .stop)))))) mixed (by decide +kernel) ?_; replace hL := hL.drew; conv => whnf) | (refine V.tailA ttOk mixed (by decide +kernel) ?_; replace hL := hL.drew; conv => whnf) | (refine Both.mk ?_ ?_ <;> conv => whnf) | fail)
  intro n3 c3 p9 p10
  conv => whnf
  repeat (first | (refine RunH ?_; intro w hL hB; try clear w) | (refine Both.mk ?_ ?_ <;> conv => whnf) | fail)
  intro o4 n4 c4 p11 p12 p13 p14
  conv => whnf
  repeat (first | (refine RunH ?_; intro w hL hB; try clear w) | (refine Both.mk ?_ ?_ <;> conv => whnf) | fail)
  obtain rfl : n3 = 4 := by omega
  have hp3 : ∀ {w}, Below w0.heap.size w0 w → Sl w (.slice (some ⟨bb, o, none⟩) 4 c3) (bv (Go.Proofs.Ytjgiailgidbkmaa.win b 0 4)) := fun h => by
    have := (hs.below h).take (k := 4) (by rw [bv_length]; omega) (c' := c3) (by omega) (by omega)
    rw [← bv_take] at this; exact this
  refine Rv.buildS (len := 0) (vs := []) ttOk hL tl22 tl5 rfl rfl (by intro u hu; cases hu) (by decide) (by decide) hB fun bo w hL hB => ?_
  conv => whnf
  repeat (first | (refine RunH ?_; intro w hL hB; try clear w) | (refine Both.mk ?_ ?_ <;> conv => whnf) | fail)
  refine Rv.appendS ttOk hL tl22 tl5 rfl (by decide) 0 rfl (Sl.toN (hp3 hL.below)) (bv_one _) (by simp only [maxLen, bv_length]; omega) (by rw [bv_length]; omega) hB fun vo w hL hB => ?_
  dsimp only [List.set] at hL
  rw [show List.flatMap cellsL [] ++ bv (Go.Proofs.Ytjgiailgidbkmaa.win b 0 4) = bv (Go.Proofs.Ytjgiailgidbkmaa.win b 0 4) from rfl, bv_length, Nat.zero_add] at hL
  obtain ⟨oa2, oc2, rfl⟩ := own_shape1 (show World.ownsRow _ 0 5 1 vo _ _ from hL.at (i := 0) rfl)
  conv => whnf
  repeat (first | (refine RunH ?_; intro w hL hB; try clear w) | (refine Both.mk ?_ ?_ <;> conv => whnf) | fail)
  refine Rv.appendS ttOk hL tl22 tl5 rfl (by decide) 0 rfl (hL.rowN (i := 1) rfl) (bv_one _) (by simp only [maxLen]; omega) (by omega) hB fun vo w hL hB => ?_
  dsimp only [List.set] at hL
  rw [← bv_append, ← List.length_append] at hL
  obtain ⟨oa3, oc3, rfl⟩ := own_shape1 (show World.ownsRow _ 0 5 1 vo _ _ from hL.at (i := 0) rfl)
  conv => whnf
  repeat (first | (refine RunH ?_; intro w hL hB; try clear w) | (refine Both.mk ?_ ?_ <;> conv => whnf) | fail)
  refine (sumRw (hL.row (i := 0) rfl)).mono fun r2 w ⟨hr, hw⟩ => ?_
  subst hr
  replace hL := (hL.call hB (Turns.of_below hw)).tl
  replace hB := Nat.le_trans hB hw.size
  conv => whnf
  repeat (first | (refine RunH ?_; intro w hL hB; try clear w) | (refine Both.mk ?_ ?_ <;> conv => whnf) | fail)
  refine (get32Rw ((hs.below hL.below).win (lo := 4) (n := b.length - 4) (by omega) (fun h => by have := p11 (by omega); omega) (by omega) (by omega)) (by omega) (by omega)).mono fun r2 w ⟨hr, hw⟩ => ?_
  subst hr
  replace hL := hL.call hB (Turns.of_below hw)
  replace hB := Nat.le_trans hB hw.size
  conv => whnf
  by_cases hc : crc (Go.Proofs.Ytjgiailgidbkmaa.win b 0 4 ++ decP b) = ofB (Go.Proofs.Ytjgiailgidbkmaa.win b 4 4)
  · have he : decE b = 0 := by rw [decE, if_neg h8, if_neg h5, if_neg h9, if_neg (fun h => h hc)]
    repeat (first | (refine RunH ?_; intro w hL hB; try clear w) | (refine Both.mk ?_ ?_ <;> conv => whnf) | fail)
    refine ⟨?_, hL.below⟩
    rw [decPost, if_pos he]
    refine ⟨by omega, hpl, _, rfl, ?_⟩
    rw [← hpl]
    exact own_raise (hL.at (i := 0) rfl) fun b hb => hL.own _ (List.mem_cons_self ..) b (mem_rowB.2 hb)
  · have he : decE b = 4 := by rw [decE, if_neg h8, if_neg h5, if_neg h9, if_pos hc]
    repeat (first | (refine RunH ?_; intro w hL hB; try clear w) | (refine Both.mk ?_ ?_ <;> conv => whnf) | fail)
    exact ⟨by simp [decPost, he], hL.below⟩
theorem put32Rn (v : Nat) (hv : v < 4294967296) (w : World) : Fn Try.prog 67 #[.int .u32 v] w fun r w' => w'.ownsRow w.heap.size 5 1 r (putB v 4).length (bv (putB v 4)) ∧ Below w.heap.size w w' :=
  (put32R_fn v hv w).mono fun r w' ⟨h1, h2⟩ => ⟨by rw [putB_len]; exact h1, h2⟩
set_option maxHeartbeats 4000000 in
theorem encodeR_fn (v : Value) (p : List UInt8) (hp : p.length ≤ 1048576) (w0 : World) (hs : Sl w0 v (bv p)) : Fn Try.prog 49 #[v] w0 fun r w' => ∃ u, r = .tuple #[u, .int .i64 0] ∧ w'.ownsRow w0.heap.size 5 1 u (encF p).length (bv (encF p)) ∧ Below w0.heap.size w0 w' := by
  obtain ⟨a, c, rfl⟩ := hs.shape
  simp only [bv_length] at *
  have hL := Sep.start Try.prog w0
  have hB := Nat.le_refl w0.heap.size
  refine Fn.mk Try.func49 rfl (by kernel_rfl) Try.ntmps49 rfl (by rw [Try.results49]) ?_
  repeat (first | (refine RunH ?_; intro w hL hB; try clear w) | (refine Both.mk ?_ ?_ <;> conv => whnf) | fail)
  refine (put32Rn p.length (by omega) _).mono fun r w ⟨ho, hw⟩ => ?_
  replace hL := hL.addRow hB hw ho
  replace hB := Nat.le_trans hB hw.size
  clear ho hw
  generalize hA : putB p.length 4 = A at *
  have hAl : A.length = 4 := by rw [← hA]; exact putB_len _ _
  obtain ⟨ra, rc, rfl⟩ := (show SlN w 1 r A.length _ from hL.rowN (i := 0) rfl).shape
  conv => whnf
  repeat (first | (refine RunH ?_; intro w hL hB; try clear w) | (refine Both.mk ?_ ?_ <;> conv => whnf) | fail)
  refine Rv.buildS (len := 0) (vs := []) ttOk hL tl22 tl5 rfl rfl (by intro u hu; cases hu) (by decide) (by decide) hB fun bo w hL hB => ?_
  conv => whnf
  repeat (first | (refine RunH ?_; intro w hL hB; try clear w) | (refine Both.mk ?_ ?_ <;> conv => whnf) | fail)
  refine Rv.appendS ttOk hL tl22 tl5 rfl (by decide) 0 rfl (hL.rowN (i := 1) rfl) (bv_one _) (by simp only [maxLen]; omega) (by omega) hB fun vo w hL hB => ?_
  dsimp only [List.set] at hL
  rw [show List.flatMap cellsL [] ++ bv A = bv A from rfl, Nat.zero_add] at hL
  obtain ⟨ra2, rc2, rfl⟩ := (show SlN w 1 vo A.length _ from hL.rowN (i := 0) rfl).shape
  conv => whnf
  repeat (first | (refine RunH ?_; intro w hL hB; try clear w) | (refine Both.mk ?_ ?_ <;> conv => whnf) | fail)
  refine Rv.appendS ttOk hL tl22 tl5 rfl (by decide) 0 rfl (Sl.toN (hs.below hL.below)) (bv_one _) (by simp only [maxLen, bv_length]; omega) (by rw [bv_length]; omega) hB fun vo w hL hB => ?_
  dsimp only [List.set] at hL
  rw [← bv_append, bv_length, ← List.length_append] at hL
  conv => whnf
  repeat (first | (refine RunH ?_; intro w hL hB; try clear w) | (refine Both.mk ?_ ?_ <;> conv => whnf) | fail)
  refine (sumRw (hL.row (i := 0) rfl)).mono fun r2 w ⟨hr, hw⟩ => ?_
  subst hr
  replace hL := (hL.call hB (Turns.of_below hw)).tl
  replace hB := Nat.le_trans hB hw.size
  have hcl := crc_lt (A ++ p)
  conv => whnf
  repeat (first | (refine RunH ?_; intro w hL hB; try clear w) | (refine Both.mk ?_ ?_ <;> conv => whnf) | fail)
  refine (put32Rn (crc (A ++ p)) hcl _).mono fun r w ⟨ho, hw⟩ => ?_
  replace hL := hL.addRow hB hw ho
  replace hB := Nat.le_trans hB hw.size
  clear ho hw
  have hQl : (putB (crc (A ++ p)) 4).length = 4 := putB_len _ _
  conv => whnf
  repeat (first | (refine RunH ?_; intro w hL hB; try clear w) | (refine Both.mk ?_ ?_ <;> conv => whnf) | fail)
  refine Rv.appendS ttOk hL tl22 tl5 rfl (by decide) 1 rfl (hL.rowN (i := 0) rfl) (bv_one _) (by simp only [maxLen]; omega) (by omega) hB fun vo w hL hB => ?_
  dsimp only [List.set] at hL
  rw [← bv_append, ← List.length_append] at hL
  have h8 : (A ++ putB (crc (A ++ p)) 4).length = 8 := by simp [hAl, putB_len]
  obtain ⟨ra3, rc3, rfl⟩ := (show SlN w 1 vo (A ++ putB (crc (A ++ p)) 4).length _ from hL.rowN (i := 1) rfl).shape
  conv => whnf
  repeat (first | (refine RunH ?_; intro w hL hB; try clear w) | (refine Both.mk ?_ ?_ <;> conv => whnf) | fail)
  refine Rv.appendS ttOk hL tl22 tl5 rfl (by decide) 1 rfl (Sl.toN (hs.below hL.below)) (bv_one _) (by simp only [maxLen, bv_length]; omega) (by rw [bv_length]; omega) hB fun vo w hL hB => ?_
  dsimp only [List.set] at hL
  rw [← bv_append, bv_length, ← List.length_append] at hL
  conv => whnf
  repeat (first | (refine RunH ?_; intro w hL hB; try clear w) | (refine Both.mk ?_ ?_ <;> conv => whnf) | fail)
  refine ⟨_, rfl, ?_, hL.below⟩
  have hr := hL.ownR (i := 1) rfl
  unfold encF
  rw [hA]
  exact hr
end Go.Proofs.Ytjgiailgidbkmaa
