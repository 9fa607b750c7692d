/- garnerref14.Part. garnerref14.Mend. Nothing is claimed here. -/
import Derived.Test.YtlldgodjfpgbcaaDoorK26
namespace Go.Proofs.YtlldgodjfpgbcaaDoor
open Go.RowKit
set_option linter.unusedVariables false
set_option linter.unusedSimpArgs false
set_option maxRecDepth 100000

def PartRGot (ls : List (List (List UInt8))) (k m at_ n : Nat) (r : Value) (w' : World) : Prop :=
  ((∀ x, at_ ≤ x → x < at_ + n → canJ ls k (x / 16)) ∧ ∃ u, r = .tuple #[u, .int .i64 0] ∧ Sl w' u (bv ((List.range n).map fun i => byteJ ls k m (at_ + i)))) ∨ ((¬ ∀ x, at_ ≤ x → x < at_ + n → canJ ls k (x / 16)) ∧ r = .tuple #[.slice none 0 0, .int .i64 15])
set_option maxHeartbeats 16000000 in
theorem partR_fn (v : Value) (ls : List (List (List UInt8))) (k m size at_ n : Nat) (hg : goodP ls k m size) (hsz : size ≤ 1000000) (hfit : at_ + n ≤ size) (w0 : World) (hs : S3 w0 v ls) :
    Fn Tryd.prog 14 #[v, .int .i64 (k : Int), .int .i64 (m : Int), .int .i64 (size : Int), .int .i64 (at_ : Int), .int .i64 (n : Int)] w0 fun r w' => PartRGot ls k m at_ n r w' ∧ Below w0.heap.size w0 w' := by
  have hG := mayR_fn v ls k m size ⟨by omega, by have := hg.1; unfold codeOk at this; omega⟩ ⟨by omega, by have := hg.1; unfold codeOk at this; omega⟩ (by omega) w0 hs
  rw [decide_eq_true hg] at hG
  obtain ⟨hc, hs1, hs2, hln, hfl⟩ := hg
  have hc' : 1 ≤ k ∧ k + m ≤ 14 := by unfold codeOk at hc; omega
  obtain ⟨hk1, hkm⟩ := hc'
  have hlen : ls.length = k + m := by omega
  have hrows : ∀ r, ∀ l ∈ rowsAt ls r, l ≠ [] → l.length = 16 := fun r => rowsAt_mem hfl
  have hrl : ∀ r, (rowsAt ls r).length = k + m := fun r => by rw [rowsAt_len, hlen]
  have hri : ∀ r i, i < (rowsAt ls r).length → rw_ (rowsAt ls r) i ≠ [] → (rw_ (rowsAt ls r) i).length = 16 := fun r i hi hne => hrows r _ (rw_mem hi) hne
  have hL := Sep.start Tryd.prog w0
  have hB := Nat.le_refl w0.heap.size
  unfold PartRGot
  refine Fn.mk Tryd.func14 rfl (by kernel_rfl) Tryd.ntmps14 rfl (by rw [Tryd.results14]) ?_
  repeat (first | (refine RunH ?_; intro w hL hB; try clear w) | (refine Both.mk ?_ ?_ <;> conv => whnf) | fail)
  refine hG.mono fun r w ⟨hr', hbl⟩ => ?_
  subst hr'
  replace hL := hL.call hB (Turns.of_below hbl)
  replace hB := Nat.le_trans hB hbl.size
  clear hbl hG
  conv => whnf
  repeat (first | (refine RunH ?_; intro w hL hB; try clear w) | (refine Both.mk ?_ ?_ <;> conv => whnf) | fail)
  refine V.loop (α := Nat × Value) (fun z => [(0, v), (1, .int .i64 (k : Int)), (2, .int .i64 (m : Int)), (4, .int .i64 (at_ : Int)), (5, .int .i64 (n : Int)), (14, z.2), (15, .int .i64 ((at_ + z.1 : Nat) : Int))])
    (fun z w' => z.1 ≤ n ∧ (∀ x, at_ ≤ x → x < at_ + z.1 → canJ ls k (x / 16)) ∧ w0.heap.size ≤ w'.heap.size ∧ Sep Tryd.prog w0.heap.size w0 w' [.row 5 1 z.2 z.1 (bv ((List.range z.1).map fun i => byteJ ls k m (at_ + i)))]) (fun z => n - z.1) (0, .slice none 0 0) ⟨rfl, rfl, rfl, rfl, rfl, rfl, vint (by omega), trivial⟩ ⟨Nat.zero_le _, fun x h3 h4 => by omega, hB, hL.nilRow 5 1⟩ ?_
  clear hL hB
  rintro ⟨s, dv⟩ w ⟨hsn, hok, hB, hL⟩
  dsimp only at hsn hok hL
  obtain ⟨da, dc, rfl⟩ := (hL.rowN (i := 0) rfl).shape
  repeat (first | (refine RunH ?_; intro w hL hB; try clear w) | (refine Both.mk ?_ ?_ <;> conv => whnf) | fail)
  refine Br.dec (fun hlt => ?_) (fun hlt => ?_)
  · have hsl : s < n := by omega
    have hmore := fun c => bytes_more (ls := ls) (k := k) (m := m) (at_ := at_) (s := s) (c := c)
    have hbad : ¬ canJ ls k ((at_ + s) / 16) → ¬ ∀ x, at_ ≤ x → x < at_ + n → canJ ls k (x / 16) := fun h h2 => h (h2 _ (by omega) (by omega))
    have hxd := Nat.mod_add_div (at_ + s) 16
    have hx16 := Nat.mod_lt (at_ + s) (show 16 > 0 by omega)
    have hokn : canJ ls k ((at_ + s) / 16) → ∀ c, (at_ + s) % 16 + c ≤ 16 → ∀ x, at_ ≤ x → x < at_ + (s + c) → canJ ls k (x / 16) := fun h c hc x h3 h4 => by
      by_cases h5 : x < at_ + s
      · exact hok x h3 h5
      · rw [show x / 16 = (at_ + s) / 16 by omega]; exact h
    repeat (first | (refine RunH ?_; intro w hL hB; try clear w) | (refine Both.mk ?_ ?_ <;> conv => whnf) | fail)
    refine Quo.at (at_ + s) 16 rfl rfl (by decide) ?_
    refine Ar.mi _ rfl (by omega) ?_
    generalize hj : (at_ + s) / 16 = j at *
    generalize hfm : (at_ + s) % 16 = fm at *
    conv => whnf
    repeat (first | (refine RunH ?_; intro w hL hB; try clear w) | (refine Both.mk ?_ ?_ <;> conv => whnf) | fail)
    have hq : j % k < k := Nat.mod_lt _ (by omega)
    have hr62 : j / k ≤ j := Nat.div_le_self _ _
    have hrj : rowJ ls k m j = if rw_ (rowsAt ls (j / k)) (j % k) = [] then rw_ (mendV k m (rowsAt ls (j / k))) (j % k) else rw_ (rowsAt ls (j / k)) (j % k) := rfl
    have hcj : canJ ls k j ↔ (rw_ (rowsAt ls (j / k)) (j % k) = [] → (selS k (rowsAt ls (j / k))).length = k) := Iff.rfl
    refine Quo.at j k (by dsimp only) rfl (by omega) ?_
    refine Ar.mi _ rfl (by omega) ?_
    conv => whnf
    repeat (first | (refine RunH ?_; intro w hL hB; try clear w) | (refine Both.mk ?_ ?_ <;> conv => whnf) | fail)
    refine (rowR_fn v ls (j / k) (by omega) (by omega) _ (hs.below hL.below)).mono fun x w hr9 => ?_
    obtain ⟨hss, hbl⟩ := hr9
    replace hL := hL.call hB (Turns.of_below hbl)
    replace hB := Nat.le_trans hB hbl.size
    clear hbl
    have hrlr := hrl (j / k)
    have hrir := hri (j / k)
    have hrowr := hrows (j / k)
    generalize rowsAt ls (j / k) = R at *
    obtain ⟨xs, hxs, hxi⟩ := hss.of
    have hxl := hxi.len
    obtain ⟨xa, xc, rfl⟩ := hxs.shape
    rw [hxl, hrlr] at hxs hss ⊢
    obtain ⟨xb, xo, rfl, hxr⟩ := hxs.addr (by omega)
    conv => whnf
    repeat (first | (refine RunH ?_; intro w hL hB; try clear w) | (refine Both.mk ?_ ?_ <;> conv => whnf) | fail)
    refine Rem.at j k (by dsimp only) rfl (by omega) ?_
    generalize hqq : j % k = q at *
    obtain ⟨y, hy, hsy⟩ := hxi.get (rw_some (show q < R.length by omega))
    obtain ⟨ya, yc, rfl⟩ := hsy.shape
    conv => whnf
    repeat (first | (refine RunH ?_; intro w hL hB; try clear w) | (refine Both.mk ?_ ?_ <;> conv => whnf) | fail)
    intro o3 ho3
    conv => whnf
    repeat (first | (refine RunH ?_; intro w hL hB; try clear w) | (refine Both.mk ?_ ?_ <;> conv => whnf) | fail)
    refine Ld.row1 ttOk hxr rfl rfl (k := q) hy (by omega) ?_
    conv => whnf
    refine V.seq ?_
    refine V.join (α := Value) (fun z => [(0, v), (1, .int .i64 (k : Int)), (2, .int .i64 (m : Int)), (4, .int .i64 (at_ : Int)), (5, .int .i64 (n : Int)), (14, .slice da s dc), (15, .int .i64 ((at_ + s : Nat) : Int)), (18, z)])
      (fun z w' => Sl w' z (bv (rowJ ls k m j)) ∧ (rowJ ls k m j).length = 16 ∧ canJ ls k j ∧ w0.heap.size ≤ w'.heap.size ∧ Sep Tryd.prog w0.heap.size w0 w' [.row 5 1 (.slice da s dc) s (bv ((List.range s).map fun i => byteJ ls k m (at_ + i)))]) ?_ ?_
    · by_cases hne : rw_ R q = []
      · rw [if_pos hne] at hrj
        rw [hne, show (bv []).length = 0 from rfl]
        repeat (first | (refine RunH ?_; intro w hL hB; try clear w) | (refine Both.mk ?_ ?_ <;> conv => whnf) | fail)
        refine (rmend_fn k m 16 _ R hk1 hkm hrlr hrowr (by decide) _ hss).mono fun y9 w' hr9 => ?_
        obtain ⟨hgot, hbl2⟩ := hr9
        unfold MendRGot at hgot
        by_cases hfew : (selS k R).length < k
        · rw [if_pos hfew] at hgot
          subst hgot
          conv => whnf
          repeat (first | (refine RunH ?_; intro w hL hB; try clear w) | (refine Both.mk ?_ ?_ <;> conv => whnf) | fail)
          exact ⟨.inr ⟨hbad fun h => by have := hcj.1 h hne; omega, rfl⟩, (hL.call hB (Turns.of_below hbl2)).below⟩
        rw [if_neg hfew] at hgot
        have hsel : (selS k R).length = k := by
          have := selS_len (k := k) hrlr
          omega
        obtain ⟨u, out2, us2, Rs2, hmr, hins2, rfl, hS2⟩ := hgot
        have hso := sl_ss (hS2.row (i := 0) rfl) ((hins2.cons _).ins hS2)
        have hol := hmr.len
        have ho16 := hmr.row hsel hrir
        have hov := hmr.val hsel hrir
        replace hL := hL.call hB (Turns.of_below hbl2)
        replace hB := Nat.le_trans hB hbl2.size
        obtain ⟨os, hos, hoi⟩ := hso.of
        have hosl := hoi.len
        obtain ⟨ua, uc, rfl⟩ := hos.shape
        rw [hosl, hol] at hos ⊢
        obtain ⟨ub, uo, rfl, hor⟩ := hos.addr (by omega)
        obtain ⟨z, hz, hsz⟩ := hoi.get (rw_some (show q < out2.length by omega))
        obtain ⟨za, zc, rfl⟩ := hsz.shape
        conv => whnf
        repeat (first | (refine RunH ?_; intro w hL hB; try clear w) | (refine Both.mk ?_ ?_ <;> conv => whnf) | fail)
        refine Rem.at j k (by dsimp only) rfl (by omega) ?_
        rw [hqq]
        conv => whnf
        repeat (first | (refine RunH ?_; intro w hL hB; try clear w) | (refine Both.mk ?_ ?_ <;> conv => whnf) | fail)
        intro o4 ho4
        conv => whnf
        repeat (first | (refine RunH ?_; intro w hL hB; try clear w) | (refine Both.mk ?_ ?_ <;> conv => whnf) | fail)
        refine Ld.row1 ttOk hor rfl rfl (k := q) hz (by omega) ?_
        conv => whnf
        repeat (first | (refine RunH ?_; intro w hL hB; try clear w) | (refine Both.mk ?_ ?_ <;> conv => whnf) | fail)
        refine ⟨.slice za (bv (rw_ out2 q)).length zc, ⟨rfl, rfl, rfl, rfl, rfl, rfl, rfl, rfl, trivial⟩, ?_⟩
        exact ⟨by rw [hrj, ← hov]; exact hsz, by rw [hrj, ← hov]; exact ho16 _ (rw_mem (by omega)), hcj.2 fun _ => hsel, hB, hL⟩
      · rw [if_neg hne] at hrj
        have hl16 := hrowr _ (rw_mem (C := R) (i := q) (by omega)) hne
        rw [bv_length, hl16] at hy hsy ⊢
        repeat (first | (refine RunH ?_; intro w hL hB; try clear w) | (refine Both.mk ?_ ?_ <;> conv => whnf) | fail)
        refine ⟨.slice ya 16 yc, ⟨rfl, rfl, rfl, rfl, rfl, rfl, rfl, rfl, trivial⟩, ?_⟩
        exact ⟨by rw [hrj]; exact hsy, by rw [hrj]; exact hl16, hcj.2 fun h => absurd h hne, hB, hL⟩
    repeat clear hL
    repeat clear hB
    clear hss hxs hxi hy hsy hxr
    rintro xv w ⟨hxv, hx16, hxok, hB, hL⟩
    replace hmore := fun c => hmore c hx16
    replace hokn := hokn hxok
    clear hcj hbad hrj
    generalize rowJ ls k m j = row at *
    obtain ⟨xa, xc, rfl⟩ := hxv.shape
    rw [bv_length, hx16] at hxv ⊢
    obtain ⟨xb, xo, rfl, _⟩ := hxv.addr (by omega)
    obtain ⟨q1, q2, q3⟩ := hxv.len
    repeat (first | (refine RunH ?_; intro w hL hB; try clear w) | (refine Both.mk ?_ ?_ <;> conv => whnf) | fail)
    refine Rem.at (at_ + s) 16 rfl rfl (by omega) ?_
    rw [hfm]
    conv => whnf
    repeat (first | (refine RunH ?_; intro w hL hB; try clear w) | (refine Both.mk ?_ ?_ <;> conv => whnf) | fail)
    obtain ⟨c, hcd⟩ : ∃ c, c = min (16 - fm) (n - s) := ⟨_, rfl⟩
    have hto : min (16 : Int) ((fm : Int) + (at_ : Int) + (n : Int) - ((at_ + s : Nat) : Int)) = ((fm + c : Nat) : Int) := by omega
    rw [hto]
    have hc1 : fm + c ≤ 16 := by omega
    have hc2 : s + c ≤ n := by omega
    have hc3 : 1 ≤ c := by omega
    replace hmore := hmore c hc1
    replace hokn := hokn c hc1
    clear hcd
    intro o5 n5 c5 g1 g2 g3 g4
    obtain rfl : c = n5 := by omega
    have hs5 := hxv.drop (k := fm) (o' := o5) (n' := 16 - fm) (c' := c5) (by rw [bv_length]; omega) (fun h => by have := g1 (by omega); omega) (by omega) (by omega)
    have hs6 := hs5.take (k := c) (by rw [List.length_drop, bv_length]; omega) (c' := c5) (by omega) (by omega)
    rw [← bv_drop, ← bv_take] at hs6
    have hl6 : ((row.drop fm).take c).length = c := by rw [List.length_take, List.length_drop]; omega
    generalize (row.drop fm).take c = part at *
    conv => whnf
    repeat (first | (refine RunH ?_; intro w hL hB; try clear w) | (refine Both.mk ?_ ?_ <;> conv => whnf) | fail)
    refine Rv.appendS ttOk hL tl22 tl5 rfl (by decide) 0 rfl hs6.toN (bv_one _) (by rw [bv_length]; simp only [maxLen]; omega) (by rw [bv_length]; omega) hB fun v9 w hL hB => ?_
    dsimp only [List.set] at hL
    rw [← bv_append, hmore, bv_length, hl6] at hL
    conv => whnf
    repeat (first | (refine RunH ?_; intro w hL hB; try clear w) | (refine Both.mk ?_ ?_ <;> conv => whnf) | fail)
    refine ⟨(s + c, v9), ⟨rfl, rfl, rfl, rfl, rfl, rfl, vint (by omega), trivial⟩, ⟨hc2, hokn, hB, hL⟩, (by first | omega | (dsimp only; omega))⟩
  · obtain rfl : n = s := by omega
    repeat (first | (refine RunH ?_; intro w hL hB; try clear w) | (refine Both.mk ?_ ?_ <;> conv => whnf) | fail)
    exact ⟨.inl ⟨hok, _, rfl, hL.row (i := 0) rfl⟩, hL.below⟩
end Go.Proofs.YtlldgodjfpgbcaaDoor
namespace Go.Proofs.YtlldgodjfpgbcaaDoor
open Go.RowKit
set_option linter.unusedVariables false
set_option linter.unusedSimpArgs false
set_option maxRecDepth 100000

set_option maxHeartbeats 16000000 in
theorem mendRA_fn (v : Value) (ls : List (List (List UInt8))) (k m size : Nat) (hg : goodP ls k m size) (hsz : size ≤ 1000000) (w0 : World) (hs : S3 w0 v ls) :
    Fn Tryd.prog 15 #[v, .int .i64 (k : Int), .int .i64 (m : Int), .int .i64 (size : Int)] w0 fun r w' => MendAGot ls k m (hgt size k) r w' ∧ Below w0.heap.size w0 w' := by
  have hG := mayR_fn v ls k m size ⟨by omega, by have := hg.1; unfold codeOk at this; omega⟩ ⟨by omega, by have := hg.1; unfold codeOk at this; omega⟩ (by omega) w0 hs
  rw [decide_eq_true hg] at hG
  obtain ⟨hc, hs1, hs2, hln, hfit⟩ := hg
  have hc' : 1 ≤ k ∧ k + m ≤ 14 := by unfold codeOk at hc; omega
  obtain ⟨hk1, hkm⟩ := hc'
  rw [Int.toNat_natCast, Int.toNat_natCast] at hfit
  have hlen : ls.length = k + m := by omega
  have hh := fun w => heightR_fn size k (by omega) (by omega) (by omega) w
  have hH1 : hgt size k ≤ 1000000 := by
    have h1 := hgt_le size k
    have h3 : hgt size k ≤ hgt size k * k := Nat.le_mul_of_pos_right _ (by omega)
    omega
  unfold MendAGot
  generalize hgt size k = H at *
  have hrows : ∀ r, ∀ l ∈ rowsAt ls r, l ≠ [] → l.length = 16 := fun r => rowsAt_mem hfit
  have hrl : ∀ r, (rowsAt ls r).length = k + m := fun r => by rw [rowsAt_len, hlen]
  have hri : ∀ r i, i < (rowsAt ls r).length → rw_ (rowsAt ls r) i ≠ [] → (rw_ (rowsAt ls r) i).length = 16 := fun r i hi hne => hrows r _ (rw_mem hi) hne
  have hL := Sep.start Tryd.prog w0
  have hB := Nat.le_refl w0.heap.size
  refine Fn.mk Tryd.func15 rfl (by kernel_rfl) Tryd.ntmps15 rfl (by rw [Tryd.results15]) ?_
  repeat (first | (refine RunH ?_; intro w hL hB; try clear w) | (refine Both.mk ?_ ?_ <;> conv => whnf) | fail)
  refine hG.mono fun r w ⟨hr', hbl⟩ => ?_
  subst hr'
  replace hL := hL.call hB (Turns.of_below hbl)
  replace hB := Nat.le_trans hB hbl.size
  conv => whnf
  repeat (first | (refine RunH ?_; intro w hL hB; try clear w) | (refine Both.mk ?_ ?_ <;> conv => whnf) | fail)
  refine Rv.makeS ttOk hL (k + m) (k + m) tl29 tl22 rfl (by omega) (by omega) (Nat.le_refl _) (by omega) (by simp only [maxLen]; omega) hB fun g w hL hB => ?_
  conv => whnf
  repeat (first | (refine RunH ?_; intro w hL hB; try clear w) | (refine Both.mk ?_ ?_ <;> conv => whnf) | fail)
  have hz : List.zipWith bR (List.replicate (k + m) (Value.slice none 0 0)) (List.replicate (k + m) ([] : List UInt8)) = List.replicate (k + m) (bR (.slice none 0 0) []) := by simp
  refine V.loop (α := Nat × List Value) (fun z => [(0, v), (1, .int .i64 (k : Int)), (2, .int .i64 (m : Int)), (10, .slice (some ⟨g, 0, none⟩) (k + m) (k + m)), (3, .int .i64 (size : Int)), (11, .int .i64 (z.1 : Int))])
    (fun z w' => z.1 ≤ H ∧ (∀ r, r < z.1 → (selS k (rowsAt ls r)).length = k ∧ ((mendV k m (rowsAt ls r)).length = k + m ∧ ∀ l ∈ mendV k m (rowsAt ls r), l.length = 16) ∧ MendR k m 16 (rowsAt ls r) (mendV k m (rowsAt ls r))) ∧ z.2.length = k + m ∧ w0.heap.size ≤ w'.heap.size ∧ Sep Tryd.prog w0.heap.size w0 w' (.row 22 1 (.slice (some ⟨g, 0, none⟩) (k + m) (k + m)) (k + m) z.2 :: List.zipWith bR z.2 (accM k m ls z.1))) (fun z => H - z.1) (0, List.replicate (k + m) (.slice none 0 0)) ⟨rfl, rfl, rfl, rfl, rfl, rfl, trivial⟩ ⟨Nat.zero_le _, fun r h => by omega, by simp, hB, ?_⟩ ?_
  · dsimp only
    rw [accM, hz]
    exact (Sep.nils hL (k + m)).perm (List.perm_append_singleton _ _)
  repeat clear hL
  repeat clear hB
  rintro ⟨r, us⟩ w ⟨hr, hok, hul, hB, hL⟩
  dsimp only at hr hok hul hL
  obtain ⟨hal, ha16⟩ := accM_len (k := k) (m := m) (ls := ls) (H := r) (fun r' h => (hok r' h).2.1) r (Nat.le_refl _)
  repeat (first | (refine RunH ?_; intro w hL hB; try clear w) | (refine Both.mk ?_ ?_ <;> conv => whnf) | fail)
  refine (hh _).mono fun r w' ⟨hw', hr'⟩ => ?_
  subst hr'
  replace hw' := hw'.symm
  subst hw'
  conv => whnf
  repeat (first | (refine RunH ?_; intro w hL hB; try clear w) | (refine Both.mk ?_ ?_ <;> conv => whnf) | fail)
  refine Br.dec (fun hlt => ?_) (fun hlt => ?_)
  · have hrH : r < H := by omega
    repeat (first | (refine RunH ?_; intro w hL hB; try clear w) | (refine Both.mk ?_ ?_ <;> conv => whnf) | fail)
    refine (rowR_fn v ls r (by omega) (by omega) _ (hs.below hL.below)).mono fun x w hr9 => ?_
    obtain ⟨hss, hbl⟩ := hr9
    replace hL := hL.call hB (Turns.of_below hbl)
    replace hB := Nat.le_trans hB hbl.size
    conv => whnf
    repeat (first | (refine RunH ?_; intro w hL hB; try clear w) | (refine Both.mk ?_ ?_ <;> conv => whnf) | fail)
    refine (rmend_fn k m 16 x (rowsAt ls r) hk1 hkm (hrl r) (hrows r) (by decide) w hss).mono fun y w' hr9 => ?_
    obtain ⟨hgot, hbl2⟩ := hr9
    unfold MendRGot at hgot
    by_cases hfew : (selS k (rowsAt ls r)).length < k
    · rw [if_pos hfew] at hgot
      subst hgot
      conv => whnf
      repeat (first | (refine RunH ?_; intro w hL hB; try clear w) | (refine Both.mk ?_ ?_ <;> conv => whnf) | fail)
      refine ⟨.inr ⟨fun h => ?_, rfl⟩, (hL.call hB (Turns.of_below hbl2)).below⟩
      have := h r hrH
      omega
    rw [if_neg hfew] at hgot
    have hselk : (selS k (rowsAt ls r)).length = k := by
      have := selS_len (k := k) (hrl r)
      omega
    obtain ⟨u, out, bs, L2, hm, hins, rfl, hS⟩ := hgot
    have hol := hm.len
    have ho16 := hm.row hselk (hri r)
    have hov := hm.val hselk (hri r)
    replace hL := hL.adds hB hS
    replace hB := Nat.le_trans hB hS.below.size
    clear hS hss hbl2
    rw [hol] at hL
    obtain ⟨ua, uc, rfl⟩ := (hL.rowN (i := 0) rfl).shape
    obtain ⟨⟨ub, rfl⟩, _⟩ := own_addr (hL.at (i := 0) rfl) (by omega)
    have hbl9 := hins.len
    replace hL := hL.perm List.perm_append_comm
    rw [List.cons_append] at hL
    have hacc : accM k m ls (r + 1) = List.zipWith (· ++ ·) (accM k m ls r) out := by rw [hov]; rfl
    have hoks : ∀ r', r' < r + 1 → (selS k (rowsAt ls r')).length = k ∧ ((mendV k m (rowsAt ls r')).length = k + m ∧ ∀ l ∈ mendV k m (rowsAt ls r'), l.length = 16) ∧ MendR k m 16 (rowsAt ls r') (mendV k m (rowsAt ls r')) := fun r' hr' => by
      by_cases e : r' = r
      · subst e; rw [← hov]; exact ⟨hselk, ⟨hol, ho16⟩, hm⟩
      · exact hok r' (by omega)
    clear hok hov hm
    generalize accM k m ls r = acc at *
    conv => whnf
    repeat (first | (refine RunH ?_; intro w hL hB; try clear w) | (refine Both.mk ?_ ?_ <;> conv => whnf) | fail)
    refine V.loop (α := Nat × List Value) (fun z => [(0, v), (1, .int .i64 (k : Int)), (2, .int .i64 (m : Int)), (10, .slice (some ⟨g, 0, none⟩) (k + m) (k + m)), (3, .int .i64 (size : Int)), (11, .int .i64 (r : Int)), (12, .slice (some ⟨ub, 0, none⟩) (k + m) uc), (14, .int .i64 (z.1 : Int))])
      (fun z w' => z.1 ≤ k + m ∧ z.2.length = k + m ∧ w0.heap.size ≤ w'.heap.size ∧ Sep Tryd.prog w0.heap.size w0 w' (.row 22 1 (.slice (some ⟨g, 0, none⟩) (k + m) (k + m)) (k + m) z.2 :: (List.zipWith bR z.2 (upTo acc out z.1) ++ .row 22 1 (.slice (some ⟨ub, 0, none⟩) (k + m) uc) (k + m) bs :: L2))) (fun z => k + m - z.1) (0, us) ⟨rfl, rfl, rfl, rfl, rfl, rfl, rfl, rfl, trivial⟩ ⟨Nat.zero_le _, hul, hB, by dsimp only; rw [upTo_zero]; exact hL⟩ ?_
    repeat clear hL
    repeat clear hB
    clear hul
    rintro ⟨i, us⟩ w ⟨hi, hul, hB, hL⟩
    dsimp only at hi hul hL
    have hupl := upTo_len acc out i
    repeat (first | (refine RunH ?_; intro w hL hB; try clear w) | (refine Both.mk ?_ ?_ <;> conv => whnf) | fail)
    refine Br.dec (fun hlt2 => ?_) (fun hlt2 => ?_)
    · have hik : i < k + m := by omega
      have hgi : us[i]? = some us[i] := List.getElem?_eq_getElem (by omega)
      have hga : (upTo acc out i)[i]? = some (rw_ acc i) := by
        rw [rw_some (by omega), upTo_rw (by omega), if_neg (by omega)]
      have hsu := upTo_succ (A := acc) (B := out) (i := i) (by omega)
      have hal := ha16 _ (rw_mem (C := acc) (i := i) (by omega))
      obtain ⟨bi, hbi, _, hbm⟩ := hins.get (i := i) (by omega)
      have hoi := ho16 _ (rw_mem (C := out) (i := i) (by omega))
      generalize rw_ acc i = la at *
      generalize rw_ out i = lo at *
      generalize us[i] = ui at *
      have hat : (Res.row 22 1 (.slice (some ⟨g, 0, none⟩) (k + m) (k + m)) (k + m) us :: (List.zipWith bR us (upTo acc out i) ++ .row 22 1 (.slice (some ⟨ub, 0, none⟩) (k + m) uc) (k + m) bs :: L2))[i + 1]? = some (bR ui la) := by
        rw [List.getElem?_cons_succ, List.getElem?_append_left (by rw [List.length_zipWith]; omega), List.getElem?_zipWith, hgi, hga]
      have hru : SlN w 1 (.slice (some ⟨ub, 0, none⟩) (k + m) uc) (k + m) bs := SlN.of_own (show w.ownsRow 0 22 1 _ _ _ from hL.hold (.row 22 1 (.slice (some ⟨ub, 0, none⟩) (k + m) uc) (k + m) bs) (by simp))
      have hsb : Sl w bi (bv lo) := bR_sl (hL.hold _ (List.mem_cons_of_mem _ (List.mem_append_right _ (List.mem_cons_of_mem _ hbm))))
      obtain ⟨uia, uic, rfl⟩ := (show Sl w ui (bv la) from bR_sl (hL.at hat)).shape
      obtain ⟨bia, bic, rfl⟩ := hsb.shape
      have hrow : ∀ {x : World} {L' : List Res}, Sep Tryd.prog w0.heap.size w0 x L' → (Res.row 22 1 (.slice (some ⟨ub, 0, none⟩) (k + m) uc) (k + m) bs) ∈ L' → Row x ub 0 bs := fun {x L'} h hm => (SlN.of_own (show x.ownsRow 0 22 1 _ _ _ from h.hold _ hm)).rowOf
      repeat (first | (refine RunH ?_; intro w hL hB; try clear w) | (refine Both.mk ?_ ?_ <;> conv => whnf) | fail)
      refine V.tree ttOk (fun x => Row x ub 0 bs) (.q 0 (.q 1 (.q 2 (.q 3 (.q 4 (.q 6 (.q 7 (.q 8 (.q 9 (.alt 5 (.alt 10 (.q 11 (.alt 12 .nil .stop)) .stop) .stop)))))))))) mixed (by decide +kernel) (hrow hL.drew (by simp)) ?_
      replace hL := hL.drew
      replace hsb := hsb.below ((Below.refl w.heap.size w).drew)
      conv => whnf
      repeat (first | (refine RunH ?_; intro w hL hB; try clear w) | (refine Both.mk ?_ ?_ <;> conv => whnf) | fail)
      intro o3 ho3
      conv => whnf
      repeat (first | (refine RunH ?_; intro w hL hB; try clear w) | (refine Both.mk ?_ ?_ <;> conv => whnf) | fail)
      intro o4 ho4
      conv => whnf
      repeat (first | (refine RunH ?_; intro w hL hB; try clear w) | (refine Both.mk ?_ ?_ <;> conv => whnf) | fail)
      refine Lq.of_class (fun x hx => Ld.row1 ttOk hx rfl rfl (k := i) hbi (by omega) rfl) ?_
      conv => whnf
      repeat (first | (refine RunH ?_; intro w hL hB; try clear w) | (refine Both.mk ?_ ?_ <;> conv => whnf) | fail)
      refine Ld.row1 ttOk (hL.rowN (i := 0) rfl).rowOf rfl rfl (k := i) hgi (by omega) ?_
      conv => whnf
      refine ⟨hrow hL (by simp), ?_⟩
      conv => whnf
      repeat (first | (refine RunH ?_; intro w hL hB; try clear w) | (refine Both.mk ?_ ?_ <;> conv => whnf) | fail)
      refine Rv.appendS ttOk hL tl22 tl5 rfl (by decide) (i + 1) hat hsb.toN (bv_one _) (by rw [bv_length]; simp only [maxLen]; omega) (by rw [bv_length]; omega) hB fun v9 w hL hB => ?_
      have e1 : la.length + (bv lo).length = (la ++ lo).length := by rw [bv_length, List.length_append]
      rw [e1, ← bv_append, List.set_cons_succ, List.set_append_left _ _ (by rw [List.length_zipWith]; omega)] at hL
      have e2 := zipWith_set' bR us (upTo acc out i) i v9 (la ++ lo)
      change _ = _ at e2
      rw [show Res.row 5 1 v9 (la ++ lo).length (bv (la ++ lo)) = bR v9 (la ++ lo) from rfl, e2, ← hsu] at hL
      have hcl := hrow hL (by simp)
      have hsv : Sl w v9 (bv (la ++ lo)) := bR_sl (hL.hold (bR v9 (la ++ lo)) (List.mem_cons_of_mem _ (List.mem_append_left _ (List.mem_of_getElem? (i := i) (by rw [List.getElem?_zipWith, List.getElem?_set_self (by omega), hsu, List.getElem?_set_self (by omega)])))))
      obtain ⟨va, vc, rfl⟩ := hsv.shape
      conv => whnf
      refine ⟨hcl, ?_⟩
      conv => whnf
      repeat (first | (refine RunH ?_; intro w hL hB; try clear w) | (refine Both.mk ?_ ?_ <;> conv => whnf) | fail)
      intro o5 ho5
      obtain rfl : i = o5 := by omega
      conv => whnf
      refine St.rowS ttOk hL 0 rfl rfl rfl rfl (by rw [hul]; show i + 1 ≤ _; omega) hB (fun w hL hB => ?_)
      rw [List.set_cons_zero] at hL
      dsimp only [cellsL] at hL
      rw [splice_one (by omega)] at hL
      conv => whnf
      refine ⟨hrow hL (by simp), ?_⟩
      conv => whnf
      repeat (first | (refine RunH ?_; intro w hL hB; try clear w) | (refine Both.mk ?_ ?_ <;> conv => whnf) | fail)
      refine ⟨(i + 1, us.set i _), ⟨rfl, rfl, rfl, rfl, rfl, rfl, rfl, rfl, trivial⟩, ⟨by dsimp only; omega, by dsimp only; rw [List.length_set, hul], hB, hL⟩, (by first | omega | (dsimp only; omega))⟩
    · obtain rfl : i = k + m := by omega
      rw [← hal, upTo_full (by omega), ← hacc] at hL
      rw [hal] at hL
      repeat (first | (refine RunH ?_; intro w hL hB; try clear w) | (refine Both.mk ?_ ?_ <;> conv => whnf) | fail)
      refine ⟨(r + 1, us), ⟨rfl, rfl, rfl, rfl, rfl, rfl, trivial⟩, ⟨by dsimp only; omega, hoks, hul, hB, hL.sub ?_⟩, (by first | omega | (dsimp only; omega))⟩
      exact List.Sublist.cons_cons _ (List.sublist_append_left _ _)
  · obtain rfl : r = H := by omega
    repeat (first | (refine RunH ?_; intro w hL hB; try clear w) | (refine Both.mk ?_ ?_ <;> conv => whnf) | fail)
    refine ⟨.inl ⟨fun r hr => (hok r hr).1, fun r hr => (hok r hr).2.2, _, rfl, ?_⟩, hL.below⟩
    refine sl_ss (hL.row (i := 0) rfl) ⟨by rw [hul, hal], fun i u l h1 h2 => ?_⟩
    refine bR_sl (hL.hold (bR u l) (List.mem_cons_of_mem _ (List.mem_of_getElem? (i := i) ?_)))
    rw [List.getElem?_zipWith, h1, h2]
end Go.Proofs.YtlldgodjfpgbcaaDoor
