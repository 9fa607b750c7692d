/- Records with their sum: the reference's walks. Numbers of varying length: the walks of the reference, for any seat. Nothing is claimed here. -/
import Derived.Test.YtjafamiaahabgaaGreatDoorK11
namespace Go.Proofs.YtjafamiaahabgaaGreatDoor
open Go.RowKit
set_option linter.unusedVariables false
set_option linter.unusedSimpArgs false
set_option maxRecDepth 100000

theorem get32Rw {w : World} {v : Value} {b : List UInt8} {lo n : Nat} (h : Sl w v (bv (Go.Proofs.YtjafamiaahabgaaGreatDoor.win b lo n))) (hk : lo + n ≤ b.length) (h4 : 4 ≤ n) : Fn Tryz.prog 116 #[v] w fun r w' => r = .int .u32 (ofB (Go.Proofs.YtjafamiaahabgaaGreatDoor.win b lo 4) : Int) ∧ Below w.heap.size w w' :=
  (get32R_fn v _ (by rw [win_len hk]; exact h4) w h).mono fun r w' ⟨hw, hr⟩ => by
    subst hw
    rw [win_take h4] at hr
    exact ⟨hr, (Below.refl _ w).drew⟩
theorem sumRw {w : World} {v : Value} {l : List UInt8} (h : Sl w v (bv l)) : Fn Tryz.prog 117 #[v] w fun r w' => r = .int .u32 (crc l : Int) ∧ Below w.heap.size w w' := sumR_fn v l w h
set_option maxHeartbeats 4000000 in
theorem decodeR_fn (v : Value) (b : List UInt8) (w0 : World) (hs : Sl w0 v (bv b)) : Fn Tryz.prog 100 #[v] w0 fun r w' => decPost b r w0 w' ∧ Below w0.heap.size w0 w' := by
  have hle := hs.le
  obtain ⟨a, c, rfl⟩ := hs.shape
  simp only [bv_length] at *
  have hL := Sep.start Tryz.prog w0
  have hB := Nat.le_refl w0.heap.size
  refine Fn.mk Tryz.func100 rfl (by kernel_rfl) Tryz.ntmps100 rfl (by rw [Tryz.results100]) ?_
  by_cases h8 : b.length < 8
  · have he : decE b = 2 := by rw [decE, if_pos h8]
    repeat (first | (refine RunH ?_; intro w hL hB; try clear w) | (refine Both.mk ?_ ?_ <;> conv => whnf) | fail)
    exact ⟨by simp [decPost, he], hL.below⟩
  obtain ⟨bb, o, rfl, hr⟩ := hs.addr (by omega)
  obtain ⟨q1, q2, q3⟩ := hs.len
  rw [bv_length] at q1
  have hn : ofB (Go.Proofs.YtjafamiaahabgaaGreatDoor.win b 0 4) = decN b := rfl
  have hnl : decN b < 4294967296 := ofB4_lt b 0
  repeat (first | (refine RunH ?_; intro w hL hB; try clear w) | (refine Both.mk ?_ ?_ <;> conv => whnf) | fail)
  refine (get32R_fn _ b (by omega) _ hs).mono fun r w ⟨hw, hr⟩ => ?_
  subst hr
  replace hw : Below w0.heap.size w0 w := by subst hw; exact (Below.refl _ _).drew
  rw [show b.take 4 = Go.Proofs.YtjafamiaahabgaaGreatDoor.win b 0 4 from rfl, hn]
  replace hL := hL.call hB (Turns.of_below hw)
  replace hB := Nat.le_trans hB hw.size
  conv => whnf
  by_cases h5 : 1048576 < decN b
  · have he : decE b = 5 := by rw [decE, if_neg h8, if_pos h5]
    repeat (first | (refine RunH ?_; intro w hL hB; try clear w) | (refine Both.mk ?_ ?_ <;> conv => whnf) | fail)
    exact ⟨by simp [decPost, he], hL.below⟩
  by_cases h9 : b.length < 8 + decN b
  · have he : decE b = 2 := by rw [decE, if_neg h8, if_neg h5, if_pos h9]
    repeat (first | (refine RunH ?_; intro w hL hB; try clear w) | (refine Both.mk ?_ ?_ <;> conv => whnf) | fail)
    exact ⟨by simp [decPost, he], hL.below⟩
  have hpl : (decP b).length = decN b := win_len (by omega)
  have h4l : (Go.Proofs.YtjafamiaahabgaaGreatDoor.win b 0 4).length = 4 := win_len (by omega)
  repeat (first | (refine RunH ?_; intro w hL hB; try clear w) | (refine Both.mk ?_ ?_ <;> conv => whnf) | fail)
  refine Rv.buildS (len := 0) (vs := []) ttOk hL tl23 tl5 rfl rfl (by intro u hu; cases hu) (by decide) (by decide) hB fun bo w hL hB => ?_
  conv => whnf
  repeat (first | (refine RunH ?_; intro w hL hB; try clear w) | (refine Both.mk ?_ ?_ <;> conv => whnf) | fail)
  intro o2 n2 c2 p5 p6 p7 p8
  conv => whnf
  repeat (first | (refine RunH ?_; intro w hL hB; try clear w) | (refine Both.mk ?_ ?_ <;> conv => whnf) | fail)
  obtain rfl : n2 = decN b := by omega
  have hp2 : ∀ {w}, Below w0.heap.size w0 w → Sl w (.slice (some ⟨bb, o2, none⟩) (decN b) c2) (bv (decP b)) := fun h => (hs.below h).win (lo := 8) (n := decN b) (by omega) (fun h => by have := p5 (by omega); omega) (by omega) (by omega)
  refine Rv.appendS ttOk hL tl23 tl5 rfl (by decide) 0 rfl (Sl.toN (hp2 hL.below)) (bv_one _) (by simp only [maxLen, bv_length]; omega) (by rw [bv_length]; omega) hB fun vo w hL hB => ?_
  dsimp only [List.set] at hL
  rw [show List.flatMap cellsL [] ++ bv (decP b) = bv (decP b) from rfl, bv_length, Nat.zero_add] at hL
  obtain ⟨oa, oc, rfl⟩ := own_shape1 (show World.ownsRow _ 0 5 1 vo _ _ from hL.at (i := 0) rfl)
  conv => whnf
  repeat (first | (refine RunH ?_; intro w hL hB; try clear w) | (refine Both.mk ?_ ?_ <;> conv => whnf) | fail)
  repeat (first | (refine RunK ?_; intro w hL hB; try clear w) | (refine V.treeA ttOk hL (.q 1 (.q 2 (.q 4 (.q 7 (.q 8 (.alt 0 (.alt 3 (.alt 5 (.alt 6 (.alt 9 (.q 10 .nil) .stop) .stop) .stop) .stop) .stop)))))) mixed (by decide +kernel) ?_; replace hL := hL.drew; conv => whnf) | (refine V.tailA ttOk mixed (by decide +kernel) ?_; replace hL := hL.drew; conv => whnf) | (refine Both.mk ?_ ?_ <;> conv => whnf) | fail)
  intro n3 c3 p9 p10
  conv => whnf
  repeat (first | (refine RunH ?_; intro w hL hB; try clear w) | (refine Both.mk ?_ ?_ <;> conv => whnf) | fail)
  intro o4 n4 c4 p11 p12 p13 p14
  conv => whnf
  repeat (first | (refine RunH ?_; intro w hL hB; try clear w) | (refine Both.mk ?_ ?_ <;> conv => whnf) | fail)
  obtain rfl : n3 = 4 := by omega
  have hp3 : ∀ {w}, Below w0.heap.size w0 w → Sl w (.slice (some ⟨bb, o, none⟩) 4 c3) (bv (Go.Proofs.YtjafamiaahabgaaGreatDoor.win b 0 4)) := fun h => by
    have := (hs.below h).take (k := 4) (by rw [bv_length]; omega) (c' := c3) (by omega) (by omega)
    rw [← bv_take] at this; exact this
  refine Rv.buildS (len := 0) (vs := []) ttOk hL tl23 tl5 rfl rfl (by intro u hu; cases hu) (by decide) (by decide) hB fun bo w hL hB => ?_
  conv => whnf
  repeat (first | (refine RunH ?_; intro w hL hB; try clear w) | (refine Both.mk ?_ ?_ <;> conv => whnf) | fail)
  refine Rv.appendS ttOk hL tl23 tl5 rfl (by decide) 0 rfl (Sl.toN (hp3 hL.below)) (bv_one _) (by simp only [maxLen, bv_length]; omega) (by rw [bv_length]; omega) hB fun vo w hL hB => ?_
  dsimp only [List.set] at hL
  rw [show List.flatMap cellsL [] ++ bv (Go.Proofs.YtjafamiaahabgaaGreatDoor.win b 0 4) = bv (Go.Proofs.YtjafamiaahabgaaGreatDoor.win b 0 4) from rfl, bv_length, Nat.zero_add] at hL
  obtain ⟨oa2, oc2, rfl⟩ := own_shape1 (show World.ownsRow _ 0 5 1 vo _ _ from hL.at (i := 0) rfl)
  conv => whnf
  repeat (first | (refine RunH ?_; intro w hL hB; try clear w) | (refine Both.mk ?_ ?_ <;> conv => whnf) | fail)
  refine Rv.appendS ttOk hL tl23 tl5 rfl (by decide) 0 rfl (hL.rowN (i := 1) rfl) (bv_one _) (by simp only [maxLen]; omega) (by omega) hB fun vo w hL hB => ?_
  dsimp only [List.set] at hL
  rw [← bv_append, ← List.length_append] at hL
  obtain ⟨oa3, oc3, rfl⟩ := own_shape1 (show World.ownsRow _ 0 5 1 vo _ _ from hL.at (i := 0) rfl)
  conv => whnf
  repeat (first | (refine RunH ?_; intro w hL hB; try clear w) | (refine Both.mk ?_ ?_ <;> conv => whnf) | fail)
  refine (sumRw (hL.row (i := 0) rfl)).mono fun r2 w ⟨hr, hw⟩ => ?_
  subst hr
  replace hL := (hL.call hB (Turns.of_below hw)).tl
  replace hB := Nat.le_trans hB hw.size
  conv => whnf
  repeat (first | (refine RunH ?_; intro w hL hB; try clear w) | (refine Both.mk ?_ ?_ <;> conv => whnf) | fail)
  refine (get32Rw ((hs.below hL.below).win (lo := 4) (n := b.length - 4) (by omega) (fun h => by have := p11 (by omega); omega) (by omega) (by omega)) (by omega) (by omega)).mono fun r2 w ⟨hr, hw⟩ => ?_
  subst hr
  replace hL := hL.call hB (Turns.of_below hw)
  replace hB := Nat.le_trans hB hw.size
  conv => whnf
  by_cases hc : crc (Go.Proofs.YtjafamiaahabgaaGreatDoor.win b 0 4 ++ decP b) = ofB (Go.Proofs.YtjafamiaahabgaaGreatDoor.win b 4 4)
  · have he : decE b = 0 := by rw [decE, if_neg h8, if_neg h5, if_neg h9, if_neg (fun h => h hc)]
    repeat (first | (refine RunH ?_; intro w hL hB; try clear w) | (refine Both.mk ?_ ?_ <;> conv => whnf) | fail)
    refine ⟨?_, hL.below⟩
    rw [decPost, if_pos he]
    refine ⟨by omega, hpl, _, rfl, ?_⟩
    rw [← hpl]
    exact own_raise (hL.at (i := 0) rfl) fun b hb => hL.own _ (List.mem_cons_self ..) b (mem_rowB.2 hb)
  · have he : decE b = 4 := by rw [decE, if_neg h8, if_neg h5, if_neg h9, if_pos hc]
    repeat (first | (refine RunH ?_; intro w hL hB; try clear w) | (refine Both.mk ?_ ?_ <;> conv => whnf) | fail)
    exact ⟨by simp [decPost, he], hL.below⟩
theorem put32Rn (v : Nat) (hv : v < 4294967296) (w : World) : Fn Tryz.prog 118 #[.int .u32 v] w fun r w' => w'.ownsRow w.heap.size 5 1 r (putB v 4).length (bv (putB v 4)) ∧ Below w.heap.size w w' :=
  (put32R_fn v hv w).mono fun r w' ⟨h1, h2⟩ => ⟨by rw [putB_len]; exact h1, h2⟩
set_option maxHeartbeats 4000000 in
theorem encodeR_fn (v : Value) (p : List UInt8) (hp : p.length ≤ 1048576) (w0 : World) (hs : Sl w0 v (bv p)) : Fn Tryz.prog 103 #[v] w0 fun r w' => ∃ u, r = .tuple #[u, .int .i64 0] ∧ w'.ownsRow w0.heap.size 5 1 u (encF p).length (bv (encF p)) ∧ Below w0.heap.size w0 w' := by
  obtain ⟨a, c, rfl⟩ := hs.shape
  simp only [bv_length] at *
  have hL := Sep.start Tryz.prog w0
  have hB := Nat.le_refl w0.heap.size
  refine Fn.mk Tryz.func103 rfl (by kernel_rfl) Tryz.ntmps103 rfl (by rw [Tryz.results103]) ?_
  repeat (first | (refine RunH ?_; intro w hL hB; try clear w) | (refine Both.mk ?_ ?_ <;> conv => whnf) | fail)
  refine (put32Rn p.length (by omega) _).mono fun r w ⟨ho, hw⟩ => ?_
  replace hL := hL.addRow hB hw ho
  replace hB := Nat.le_trans hB hw.size
  clear ho hw
  generalize hA : putB p.length 4 = A at *
  have hAl : A.length = 4 := by rw [← hA]; exact putB_len _ _
  obtain ⟨ra, rc, rfl⟩ := (show SlN w 1 r A.length _ from hL.rowN (i := 0) rfl).shape
  conv => whnf
  repeat (first | (refine RunH ?_; intro w hL hB; try clear w) | (refine Both.mk ?_ ?_ <;> conv => whnf) | fail)
  refine Rv.buildS (len := 0) (vs := []) ttOk hL tl23 tl5 rfl rfl (by intro u hu; cases hu) (by decide) (by decide) hB fun bo w hL hB => ?_
  conv => whnf
  repeat (first | (refine RunH ?_; intro w hL hB; try clear w) | (refine Both.mk ?_ ?_ <;> conv => whnf) | fail)
  refine Rv.appendS ttOk hL tl23 tl5 rfl (by decide) 0 rfl (hL.rowN (i := 1) rfl) (bv_one _) (by simp only [maxLen]; omega) (by omega) hB fun vo w hL hB => ?_
  dsimp only [List.set] at hL
  rw [show List.flatMap cellsL [] ++ bv A = bv A from rfl, Nat.zero_add] at hL
  obtain ⟨ra2, rc2, rfl⟩ := (show SlN w 1 vo A.length _ from hL.rowN (i := 0) rfl).shape
  conv => whnf
  repeat (first | (refine RunH ?_; intro w hL hB; try clear w) | (refine Both.mk ?_ ?_ <;> conv => whnf) | fail)
  refine Rv.appendS ttOk hL tl23 tl5 rfl (by decide) 0 rfl (Sl.toN (hs.below hL.below)) (bv_one _) (by simp only [maxLen, bv_length]; omega) (by rw [bv_length]; omega) hB fun vo w hL hB => ?_
  dsimp only [List.set] at hL
  rw [← bv_append, bv_length, ← List.length_append] at hL
  conv => whnf
  repeat (first | (refine RunH ?_; intro w hL hB; try clear w) | (refine Both.mk ?_ ?_ <;> conv => whnf) | fail)
  refine (sumRw (hL.row (i := 0) rfl)).mono fun r2 w ⟨hr, hw⟩ => ?_
  subst hr
  replace hL := (hL.call hB (Turns.of_below hw)).tl
  replace hB := Nat.le_trans hB hw.size
  have hcl := crc_lt (A ++ p)
  conv => whnf
  repeat (first | (refine RunH ?_; intro w hL hB; try clear w) | (refine Both.mk ?_ ?_ <;> conv => whnf) | fail)
  refine (put32Rn (crc (A ++ p)) hcl _).mono fun r w ⟨ho, hw⟩ => ?_
  replace hL := hL.addRow hB hw ho
  replace hB := Nat.le_trans hB hw.size
  clear ho hw
  have hQl : (putB (crc (A ++ p)) 4).length = 4 := putB_len _ _
  conv => whnf
  repeat (first | (refine RunH ?_; intro w hL hB; try clear w) | (refine Both.mk ?_ ?_ <;> conv => whnf) | fail)
  refine Rv.appendS ttOk hL tl23 tl5 rfl (by decide) 1 rfl (hL.rowN (i := 0) rfl) (bv_one _) (by simp only [maxLen]; omega) (by omega) hB fun vo w hL hB => ?_
  dsimp only [List.set] at hL
  rw [← bv_append, ← List.length_append] at hL
  have h8 : (A ++ putB (crc (A ++ p)) 4).length = 8 := by simp [hAl, putB_len]
  obtain ⟨ra3, rc3, rfl⟩ := (show SlN w 1 vo (A ++ putB (crc (A ++ p)) 4).length _ from hL.rowN (i := 1) rfl).shape
  conv => whnf
  repeat (first | (refine RunH ?_; intro w hL hB; try clear w) | (refine Both.mk ?_ ?_ <;> conv => whnf) | fail)
  refine Rv.appendS ttOk hL tl23 tl5 rfl (by decide) 1 rfl (Sl.toN (hs.below hL.below)) (bv_one _) (by simp only [maxLen, bv_length]; omega) (by rw [bv_length]; omega) hB fun vo w hL hB => ?_
  dsimp only [List.set] at hL
  rw [← bv_append, bv_length, ← List.length_append] at hL
  conv => whnf
  repeat (first | (refine RunH ?_; intro w hL hB; try clear w) | (refine Both.mk ?_ ?_ <;> conv => whnf) | fail)
  refine ⟨_, rfl, ?_, hL.below⟩
  have hr := hL.ownR (i := 1) rfl
  unfold encF
  rw [hA]
  exact hr
end Go.Proofs.YtjafamiaahabgaaGreatDoor
namespace Go.Proofs.YtjafamiaahabgaaGreatDoor
open Go.RowKit
set_option linter.unusedVariables false
set_option linter.unusedSimpArgs false
set_option maxRecDepth 100000

set_option maxHeartbeats 4000000 in
theorem readUvR_fn (v : Value) (l : List UInt8) (w0 : World) (hs : Sl w0 v (bv l)) : Fn Tryz.prog 101 #[v] w0 fun r w' => r = ruV (rdU l) ∧ w' = w0 := by
  have hle := hs.le
  obtain ⟨a, cp, rfl⟩ := hs.shape
  simp only [bv_length] at *
  refine Fn.mk Tryz.func101 rfl (by kernel_rfl) Tryz.ntmps101 rfl (by rw [Tryz.results101]) ?_
  refine RunR ?_
  refine V.loop (α := Nat × Nat) (fun z => [(0, .slice a l.length cp), (6, .int .i64 (z.1 : Int)), (5, .int .u64 (z.2 : Int))])
    (fun z w' => z.1 ≤ l.length ∧ z.1 ≤ 9 ∧ z.2 < 128 ^ z.1 ∧ rdU l = rdG (l.drop z.1) z.1 z.2 ∧ w' = w0)
    (fun z => l.length - z.1) (0, 0) ⟨rfl, rfl, rfl, trivial⟩ ⟨by simp, by simp, by simp, rfl, rfl⟩ ?_
  rintro ⟨i, x⟩ w ⟨hi, h9, hx, hr, rfl⟩
  dsimp only at *
  refine RunR ?_
  refine Br.dec (fun hlt => ?_) (fun hlt => ?_)
  · have hil : i < l.length := by omega
    obtain ⟨b, o, rfl, hrow⟩ := hs.addr (by omega)
    have hg : l.drop i = l[i] :: l.drop (i + 1) := List.drop_eq_getElem_cons hil
    generalize hc : l[i] = c at *
    have hcc : (bv l)[i]? = some (.int .u8 (c.toNat : Int)) := bv_get (by rw [List.getElem?_eq_getElem hil, hc])
    have hcl := c.toNat_lt
    rw [hg, rdG] at hr
    have hp9 := p128 h9
    refine RunR ?_
    intro o1 ho1
    conv => whnf
    refine Ld.row1 ttOk hrow rfl rfl hcc (by omega) ?_
    conv => whnf
    refine Rem.at c.toNat 128 rfl rfl (by decide) ?_
    conv => whnf
    by_cases hi9 : i = 9
    · by_cases h128 : 128 ≤ c.toNat
      · rw [if_pos h128, if_pos hi9] at hr
        repeat (first | (intro o2 ho2; conv => whnf) | (refine Ld.row1 ttOk hrow rfl rfl hcc (by omega) ?_; conv => whnf) | refine V.seq ?_ | (refine V.reg ttOk ?_; conv => whnf) | refine V.cnd rfl ?_ | refine V.blk ?_ | (refine V.ext ?_; conv => whnf) | (refine V.rt ?_; conv => whnf) | (refine V.skp ?_; conv => whnf) | (refine V.lab ?_; conv => whnf) | (refine Ar.i64 (by omega) (by omega) ?_; conv => whnf) | (refine Ar.u64 (by omega) (by omega) ?_; conv => whnf) | (refine Ar.u32 (by omega) (by omega) ?_; conv => whnf) | (refine Ar.u8 (by omega) (by omega) ?_; conv => whnf) | (refine Br.tt ?_; conv => whnf) | (refine Br.ff ?_; conv => whnf) | refine Br.not ?_ | (refine Br.yes (by assumption) ?_; conv => whnf) | (refine Br.no (by assumption) ?_; conv => whnf) | (refine Br.dec_t (by omega) ?_; conv => whnf) | (refine Br.dec_f (by omega) ?_; conv => whnf) | (refine Chk.mk (by omega) ?_; conv => whnf))
        exact ⟨by rw [hr]; rfl, rfl⟩
      · rw [if_neg h128] at hr
        have hcm : c.toNat % 128 = c.toNat := by omega
        by_cases h1 : 1 < c.toNat
        · rw [if_pos (.inr ⟨hi9, h1⟩)] at hr
          repeat (first | (intro o2 ho2; conv => whnf) | (refine Ld.row1 ttOk hrow rfl rfl hcc (by omega) ?_; conv => whnf) | refine V.seq ?_ | (refine V.reg ttOk ?_; conv => whnf) | refine V.cnd rfl ?_ | refine V.blk ?_ | (refine V.ext ?_; conv => whnf) | (refine V.rt ?_; conv => whnf) | (refine V.skp ?_; conv => whnf) | (refine V.lab ?_; conv => whnf) | (refine Ar.i64 (by omega) (by omega) ?_; conv => whnf) | (refine Ar.u64 (by omega) (by omega) ?_; conv => whnf) | (refine Ar.u32 (by omega) (by omega) ?_; conv => whnf) | (refine Ar.u8 (by omega) (by omega) ?_; conv => whnf) | (refine Br.tt ?_; conv => whnf) | (refine Br.ff ?_; conv => whnf) | refine Br.not ?_ | (refine Br.yes (by assumption) ?_; conv => whnf) | (refine Br.no (by assumption) ?_; conv => whnf) | (refine Br.dec_t (by omega) ?_; conv => whnf) | (refine Br.dec_f (by omega) ?_; conv => whnf) | (refine Chk.mk (by omega) ?_; conv => whnf))
          exact ⟨by rw [hr]; rfl, rfl⟩
        · have hm : c.toNat * 128 ^ i ≤ 9223372036854775808 := by
            subst hi9
            exact Nat.le_trans (Nat.mul_le_mul_right _ (show c.toNat ≤ 1 by omega)) (by decide)
          repeat (first | (intro o2 ho2; conv => whnf) | (refine Ld.row1 ttOk hrow rfl rfl hcc (by omega) ?_; conv => whnf) | (refine Shl.u64 (7 * i) (128 ^ i) (by first | rfl | (push_cast; rfl)) (by omega) (pow7 i) ?_; rw [hcm]; refine Ar.n64 (c.toNat * 128 ^ i) (by first | rfl | (push_cast; rfl)) (by omega) ?_; refine Bt.or64 x (c.toNat * 128 ^ i) rfl rfl (by omega) (by omega) ?_; rw [or128 hx]; conv => whnf) | refine V.seq ?_ | (refine V.reg ttOk ?_; conv => whnf) | refine V.cnd rfl ?_ | refine V.blk ?_ | (refine V.ext ?_; conv => whnf) | (refine V.rt ?_; conv => whnf) | (refine V.skp ?_; conv => whnf) | (refine V.lab ?_; conv => whnf) | (refine Ar.i64 (by omega) (by omega) ?_; conv => whnf) | (refine Ar.u64 (by omega) (by omega) ?_; conv => whnf) | (refine Ar.u32 (by omega) (by omega) ?_; conv => whnf) | (refine Ar.u8 (by omega) (by omega) ?_; conv => whnf) | (refine Br.tt ?_; conv => whnf) | (refine Br.ff ?_; conv => whnf) | refine Br.not ?_ | (refine Br.yes (by assumption) ?_; conv => whnf) | (refine Br.no (by assumption) ?_; conv => whnf) | (refine Br.dec_t (by omega) ?_; conv => whnf) | (refine Br.dec_f (by omega) ?_; conv => whnf) | (refine Chk.mk (by omega) ?_; conv => whnf))
          by_cases h0 : c.toNat = 0
          · rw [if_pos (.inl ⟨h0, by omega⟩)] at hr
            repeat (first | (intro o2 ho2; conv => whnf) | (refine Ld.row1 ttOk hrow rfl rfl hcc (by omega) ?_; conv => whnf) | refine V.seq ?_ | (refine V.reg ttOk ?_; conv => whnf) | refine V.cnd rfl ?_ | refine V.blk ?_ | (refine V.ext ?_; conv => whnf) | (refine V.rt ?_; conv => whnf) | (refine V.skp ?_; conv => whnf) | (refine V.lab ?_; conv => whnf) | (refine Ar.i64 (by omega) (by omega) ?_; conv => whnf) | (refine Ar.u64 (by omega) (by omega) ?_; conv => whnf) | (refine Ar.u32 (by omega) (by omega) ?_; conv => whnf) | (refine Ar.u8 (by omega) (by omega) ?_; conv => whnf) | (refine Br.tt ?_; conv => whnf) | (refine Br.ff ?_; conv => whnf) | refine Br.not ?_ | (refine Br.yes (by assumption) ?_; conv => whnf) | (refine Br.no (by assumption) ?_; conv => whnf) | (refine Br.dec_t (by omega) ?_; conv => whnf) | (refine Br.dec_f (by omega) ?_; conv => whnf) | (refine Chk.mk (by omega) ?_; conv => whnf))
            exact ⟨by rw [hr]; rfl, rfl⟩
          · rw [if_neg (by omega)] at hr
            repeat (first | (intro o2 ho2; conv => whnf) | (refine Ld.row1 ttOk hrow rfl rfl hcc (by omega) ?_; conv => whnf) | refine V.seq ?_ | (refine V.reg ttOk ?_; conv => whnf) | refine V.cnd rfl ?_ | refine V.blk ?_ | (refine V.ext ?_; conv => whnf) | (refine V.rt ?_; conv => whnf) | (refine V.skp ?_; conv => whnf) | (refine V.lab ?_; conv => whnf) | (refine Ar.i64 (by omega) (by omega) ?_; conv => whnf) | (refine Ar.u64 (by omega) (by omega) ?_; conv => whnf) | (refine Ar.u32 (by omega) (by omega) ?_; conv => whnf) | (refine Ar.u8 (by omega) (by omega) ?_; conv => whnf) | (refine Br.tt ?_; conv => whnf) | (refine Br.ff ?_; conv => whnf) | refine Br.not ?_ | (refine Br.yes (by assumption) ?_; conv => whnf) | (refine Br.no (by assumption) ?_; conv => whnf) | (refine Br.dec_t (by omega) ?_; conv => whnf) | (refine Br.dec_f (by omega) ?_; conv => whnf) | (refine Chk.mk (by omega) ?_; conv => whnf))
            exact ⟨by rw [hr]; rfl, rfl⟩
    · have hi8 : i ≤ 8 := by omega
      have hp8 := p128' hi8
      have hmm : c.toNat % 128 * 128 ^ i ≤ 127 * 128 ^ i := Nat.mul_le_mul_right _ (by omega)
      repeat (first | (intro o2 ho2; conv => whnf) | (refine Ld.row1 ttOk hrow rfl rfl hcc (by omega) ?_; conv => whnf) | (refine Shl.u64 (7 * i) (128 ^ i) (by first | rfl | (push_cast; rfl)) (by omega) (pow7 i) ?_; refine Ar.n64 (c.toNat % 128 * 128 ^ i) (by first | rfl | (push_cast; rfl)) (by omega) ?_; refine Bt.or64 x (c.toNat % 128 * 128 ^ i) rfl rfl (by omega) (by omega) ?_; rw [or128 hx]; conv => whnf) | refine V.seq ?_ | (refine V.reg ttOk ?_; conv => whnf) | refine V.cnd rfl ?_ | refine V.blk ?_ | (refine V.ext ?_; conv => whnf) | (refine V.rt ?_; conv => whnf) | (refine V.skp ?_; conv => whnf) | (refine V.lab ?_; conv => whnf) | (refine Ar.i64 (by omega) (by omega) ?_; conv => whnf) | (refine Ar.u64 (by omega) (by omega) ?_; conv => whnf) | (refine Ar.u32 (by omega) (by omega) ?_; conv => whnf) | (refine Ar.u8 (by omega) (by omega) ?_; conv => whnf) | (refine Br.tt ?_; conv => whnf) | (refine Br.ff ?_; conv => whnf) | refine Br.not ?_ | (refine Br.yes (by assumption) ?_; conv => whnf) | (refine Br.no (by assumption) ?_; conv => whnf) | (refine Br.dec_t (by omega) ?_; conv => whnf) | (refine Br.dec_f (by omega) ?_; conv => whnf) | (refine Chk.mk (by omega) ?_; conv => whnf))
      by_cases h128 : 128 ≤ c.toNat
      · rw [if_pos h128, if_neg hi9] at hr
        rw [show c.toNat - 128 = c.toNat % 128 by omega] at hr
        have hp : 128 ^ (i + 1) = 128 * 128 ^ i := by rw [Nat.pow_succ, Nat.mul_comm]
        repeat (first | (intro o2 ho2; conv => whnf) | (refine Ld.row1 ttOk hrow rfl rfl hcc (by omega) ?_; conv => whnf) | refine V.seq ?_ | (refine V.reg ttOk ?_; conv => whnf) | refine V.cnd rfl ?_ | refine V.blk ?_ | (refine V.ext ?_; conv => whnf) | (refine V.rt ?_; conv => whnf) | (refine V.skp ?_; conv => whnf) | (refine V.lab ?_; conv => whnf) | (refine Ar.i64 (by omega) (by omega) ?_; conv => whnf) | (refine Ar.u64 (by omega) (by omega) ?_; conv => whnf) | (refine Ar.u32 (by omega) (by omega) ?_; conv => whnf) | (refine Ar.u8 (by omega) (by omega) ?_; conv => whnf) | (refine Br.tt ?_; conv => whnf) | (refine Br.ff ?_; conv => whnf) | refine Br.not ?_ | (refine Br.yes (by assumption) ?_; conv => whnf) | (refine Br.no (by assumption) ?_; conv => whnf) | (refine Br.dec_t (by omega) ?_; conv => whnf) | (refine Br.dec_f (by omega) ?_; conv => whnf) | (refine Chk.mk (by omega) ?_; conv => whnf))
        exact ⟨(i + 1, x + c.toNat % 128 * 128 ^ i), ⟨rfl, vint (by push_cast; omega), rfl, trivial⟩, ⟨hil, by dsimp only; omega, by dsimp only; omega, hr, rfl⟩, (by first | omega | (dsimp only; omega))⟩
      · rw [if_neg h128] at hr
        by_cases h0 : c.toNat = 0
        · by_cases hi0 : 0 < i
          · rw [if_pos (.inl ⟨h0, hi0⟩)] at hr
            repeat (first | (intro o2 ho2; conv => whnf) | (refine Ld.row1 ttOk hrow rfl rfl hcc (by omega) ?_; conv => whnf) | refine V.seq ?_ | (refine V.reg ttOk ?_; conv => whnf) | refine V.cnd rfl ?_ | refine V.blk ?_ | (refine V.ext ?_; conv => whnf) | (refine V.rt ?_; conv => whnf) | (refine V.skp ?_; conv => whnf) | (refine V.lab ?_; conv => whnf) | (refine Ar.i64 (by omega) (by omega) ?_; conv => whnf) | (refine Ar.u64 (by omega) (by omega) ?_; conv => whnf) | (refine Ar.u32 (by omega) (by omega) ?_; conv => whnf) | (refine Ar.u8 (by omega) (by omega) ?_; conv => whnf) | (refine Br.tt ?_; conv => whnf) | (refine Br.ff ?_; conv => whnf) | refine Br.not ?_ | (refine Br.yes (by assumption) ?_; conv => whnf) | (refine Br.no (by assumption) ?_; conv => whnf) | (refine Br.dec_t (by omega) ?_; conv => whnf) | (refine Br.dec_f (by omega) ?_; conv => whnf) | (refine Chk.mk (by omega) ?_; conv => whnf))
            exact ⟨by rw [hr]; rfl, rfl⟩
          · rw [if_neg (by omega)] at hr
            repeat (first | (intro o2 ho2; conv => whnf) | (refine Ld.row1 ttOk hrow rfl rfl hcc (by omega) ?_; conv => whnf) | refine V.seq ?_ | (refine V.reg ttOk ?_; conv => whnf) | refine V.cnd rfl ?_ | refine V.blk ?_ | (refine V.ext ?_; conv => whnf) | (refine V.rt ?_; conv => whnf) | (refine V.skp ?_; conv => whnf) | (refine V.lab ?_; conv => whnf) | (refine Ar.i64 (by omega) (by omega) ?_; conv => whnf) | (refine Ar.u64 (by omega) (by omega) ?_; conv => whnf) | (refine Ar.u32 (by omega) (by omega) ?_; conv => whnf) | (refine Ar.u8 (by omega) (by omega) ?_; conv => whnf) | (refine Br.tt ?_; conv => whnf) | (refine Br.ff ?_; conv => whnf) | refine Br.not ?_ | (refine Br.yes (by assumption) ?_; conv => whnf) | (refine Br.no (by assumption) ?_; conv => whnf) | (refine Br.dec_t (by omega) ?_; conv => whnf) | (refine Br.dec_f (by omega) ?_; conv => whnf) | (refine Chk.mk (by omega) ?_; conv => whnf))
            exact ⟨by rw [hr, show c.toNat % 128 = c.toNat by omega]; rfl, rfl⟩
        · rw [if_neg (by omega)] at hr
          repeat (first | (intro o2 ho2; conv => whnf) | (refine Ld.row1 ttOk hrow rfl rfl hcc (by omega) ?_; conv => whnf) | refine V.seq ?_ | (refine V.reg ttOk ?_; conv => whnf) | refine V.cnd rfl ?_ | refine V.blk ?_ | (refine V.ext ?_; conv => whnf) | (refine V.rt ?_; conv => whnf) | (refine V.skp ?_; conv => whnf) | (refine V.lab ?_; conv => whnf) | (refine Ar.i64 (by omega) (by omega) ?_; conv => whnf) | (refine Ar.u64 (by omega) (by omega) ?_; conv => whnf) | (refine Ar.u32 (by omega) (by omega) ?_; conv => whnf) | (refine Ar.u8 (by omega) (by omega) ?_; conv => whnf) | (refine Br.tt ?_; conv => whnf) | (refine Br.ff ?_; conv => whnf) | refine Br.not ?_ | (refine Br.yes (by assumption) ?_; conv => whnf) | (refine Br.no (by assumption) ?_; conv => whnf) | (refine Br.dec_t (by omega) ?_; conv => whnf) | (refine Br.dec_f (by omega) ?_; conv => whnf) | (refine Chk.mk (by omega) ?_; conv => whnf))
          exact ⟨by rw [hr, show c.toNat % 128 = c.toNat by omega]; rfl, rfl⟩
  · obtain rfl : i = l.length := by omega
    rw [List.drop_length, rdG] at hr
    refine RunR ?_
    exact ⟨by rw [hr]; rfl, rfl⟩
set_option maxHeartbeats 4000000 in
theorem uvarintR_fn (v : Nat) (hv : v < 18446744073709551616) (w0 : World) : Fn Tryz.prog 104 #[.int .u64 (v : Int)] w0 fun r w' => w'.ownsRow w0.heap.size 5 1 r (encU v).length (bv (encU v)) ∧ Below w0.heap.size w0 w' := by
  have hL := Sep.start Tryz.prog w0
  have hB := Nat.le_refl w0.heap.size
  refine Fn.mk Tryz.func104 rfl (by kernel_rfl) Tryz.ntmps104 rfl (by rw [Tryz.results104]) ?_
  replace hL := hL.nilRow 5 1
  repeat (first | (refine RunH ?_; intro w hL hB; try clear w) | (refine Both.mk ?_ ?_ <;> conv => whnf) | fail)
  refine V.loop (α := Nat × Nat × Value × List UInt8) (fun z => [(0, .int .u64 (z.2.1 : Int)), (3, z.2.2.1)])
    (fun z w' => z.1 ≤ 9 ∧ z.2.1 * 128 ^ (9 - z.1) < 18446744073709551616 ∧ encU v = z.2.2.2 ++ encG (z.1 + 1) z.2.1 ∧ z.2.2.2.length + z.1 = 9 ∧ w0.heap.size ≤ w'.heap.size ∧ Sep Tryz.prog w0.heap.size w0 w' [.row 5 1 z.2.2.1 z.2.2.2.length (bv z.2.2.2)])
    (fun z => z.1) (9, v, .slice none 0 0, []) ⟨rfl, rfl, trivial⟩ ⟨by simp, by simpa using hv, rfl, rfl, hB, hL⟩ ?_
  clear hL hB
  rintro ⟨f, x, u, acc⟩ w ⟨hf, hx, he, hfl, hB, hL⟩
  dsimp only at *
  obtain ⟨ua, uc, rfl⟩ := (show SlN w 1 u acc.length _ from hL.rowN (i := 0) rfl).shape
  have hx64 : x < 18446744073709551616 := Nat.lt_of_le_of_lt (Nat.le_mul_of_pos_right x (Nat.pow_pos (by decide))) hx
  repeat (first | (refine RunH ?_; intro w hL hB; try clear w) | (refine Both.mk ?_ ?_ <;> conv => whnf) | fail)
  by_cases h128 : x < 128
  · repeat (first | (refine RunH ?_; intro w hL hB; try clear w) | (refine Both.mk ?_ ?_ <;> conv => whnf) | fail)
    refine Rv.buildS (len := 1) (vs := [.int .u8 (x : Int)]) ttOk hL tl23 tl5 rfl rfl (by intro u hu; simp only [List.mem_singleton] at hu; subst hu; rfl) (by decide) (by decide) hB fun bo w hL hB => ?_
    conv => whnf
    refine Rv.appendS ttOk hL tl23 tl5 rfl (by decide) 1 rfl (hL.rowN (i := 0) rfl) (allOne_mem rfl) (by simp only [maxLen]; omega) (by omega) hB fun vo w hL hB => ?_
    dsimp only [List.set] at hL
    conv => whnf
    repeat (first | (refine RunH ?_; intro w hL hB; try clear w) | (refine Both.mk ?_ ?_ <;> conv => whnf) | fail)
    refine ⟨?_, hL.below⟩
    have e : encU v = acc ++ [UInt8.ofNat x] := by rw [he, encG, if_pos h128]
    have hr := hL.ownR (i := 1) rfl
    rw [e]
    have e2 : bv (acc ++ [UInt8.ofNat x]) = bv acc ++ List.flatMap cellsL [Value.int IntKind.u8 (x : Int)] := by
      have : ((UInt8.ofNat x).toNat : Int) = x := by simp; omega
      simp [bv, u8, cellsL]; omega
    rw [e2, List.length_append]
    exact hr
  · have hf0 : f ≠ 0 := by
      rintro rfl
      simp only [Nat.sub_zero] at hx
      omega
    repeat (first | (refine RunH ?_; intro w hL hB; try clear w) | (refine Both.mk ?_ ?_ <;> conv => whnf) | fail)
    refine Ar.m8 x rfl ?_
    refine Bt.or8 (x % 256) 128 rfl rfl (by omega) (by decide) ?_
    rw [or8b _ (by omega), show x % 256 % 128 = x % 128 by omega]
    conv => whnf
    repeat (first | (refine RunH ?_; intro w hL hB; try clear w) | (refine Both.mk ?_ ?_ <;> conv => whnf) | fail)
    refine Rv.buildS (len := 1) (vs := [.int .u8 ((x % 128 + 128 : Nat) : Int)]) ttOk hL tl23 tl5 rfl rfl (by intro u hu; simp only [List.mem_singleton] at hu; subst hu; rfl) (by decide) (by decide) hB fun bo w hL hB => ?_
    conv => whnf
    refine Rv.appendS ttOk hL tl23 tl5 rfl (by decide) 1 rfl (hL.rowN (i := 0) rfl) (allOne_mem rfl) (by simp only [maxLen]; omega) (by omega) hB fun vo w hL hB => ?_
    dsimp only [List.set] at hL
    conv => whnf
    repeat (first | (refine RunH ?_; intro w hL hB; try clear w) | (refine Both.mk ?_ ?_ <;> conv => whnf) | fail)
    refine Quo.at x 128 rfl rfl (by decide) ?_
    conv => whnf
    repeat (first | (refine RunH ?_; intro w hL hB; try clear w) | (refine Both.mk ?_ ?_ <;> conv => whnf) | fail)
    refine ⟨(f - 1, x / 128, vo, acc ++ [UInt8.ofNat (x % 128 + 128)]), ⟨rfl, rfl, trivial⟩, ⟨by dsimp only; omega, ?_, ?_, by simp; omega, hB, ?_⟩, (by first | omega | (dsimp only; omega))⟩
    · dsimp only
      rw [show 9 - (f - 1) = (9 - f) + 1 by omega, Nat.pow_succ, Nat.mul_comm (128 ^ (9 - f)), ← Nat.mul_assoc]
      exact Nat.lt_of_le_of_lt (Nat.mul_le_mul_right _ (Nat.div_mul_le_self x 128)) hx
    · dsimp only
      obtain ⟨g, rfl⟩ : ∃ g, f = g + 1 := ⟨f - 1, by omega⟩
      rw [he, encG, if_neg h128]
      simp
    · have e2 : bv (acc ++ [UInt8.ofNat (x % 128 + 128)]) = bv acc ++ List.flatMap cellsL [Value.int IntKind.u8 ((x % 128 + 128 : Nat) : Int)] := by
        simp [bv, u8, cellsL]; omega
      dsimp only
      rw [e2, List.length_append]
      exact hL.tl

end Go.Proofs.YtjafamiaahabgaaGreatDoor
