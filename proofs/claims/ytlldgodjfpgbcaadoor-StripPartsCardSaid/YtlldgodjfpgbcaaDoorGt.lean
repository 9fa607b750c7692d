/- StripParts. Nothing is claimed here. -/
import Derived.Test.YtlldgodjfpgbcaaDoorGs
namespace Go.Proofs.YtlldgodjfpgbcaaDoor
open Go.RowKit
set_option linter.unusedVariables false
set_option linter.unusedSimpArgs false
set_option maxRecDepth 100000

def numC (l : List Int) : List Value := l.map (.int .i64)
theorem numC_len (l : List Int) : (numC l).length = l.length := by simp [numC]
theorem numC_get {l : List Int} {k : Nat} {x : Int} (h : l[k]? = some x) : (numC l)[k]? = some (.int .i64 x) := by simp [numC, h]
theorem InsP.at' {P : Program} {B : Nat} {w0 w w1 : World} {R : Res} {us : List Value} {ps : List (List (List UInt8) × List Value)} {lss : List (List (List UInt8))} (h : InsP w1 us ps lss) (hL : Sep P B w0 w (R :: List.zipWith xR us ps)) {j : Nat} (hj : j < lss.length) :
    ∃ p xa xc, us[j]? = some (.slice xa p.1.length xc) ∧ ps[j]? = some p ∧ p.1 = rw3 lss j ∧ (R :: List.zipWith xR us ps)[j + 1]? = some (xR (.slice xa p.1.length xc) p) := by
  have hpl : ps.length = lss.length := by rw [← h.map, List.length_map]
  have hp : ps[j]? = some ps[j] := List.getElem?_eq_getElem (by omega)
  have hu : us[j]? = some (us[j]'(by rw [h.len]; omega)) := List.getElem?_eq_getElem _
  generalize ps[j] = p at *
  generalize us[j]'(by rw [h.len]; omega) = u at *
  have hx : (R :: List.zipWith xR us ps)[j + 1]? = some (xR u p) := by rw [List.getElem?_cons_succ, List.getElem?_zipWith, hu, hp]
  obtain ⟨xa, xc, rfl⟩ := (SlN.of_own (show w.ownsRow 0 22 1 u p.1.length p.2 from hL.at hx)).shape
  refine ⟨p, xa, xc, hu, hp, ?_, hx⟩
  unfold rw3
  rw [← h.map]
  exact (getD_get (by rw [List.getElem?_map, hp]; rfl)).symm
set_option maxHeartbeats 16000000 in
theorem stripParts_fn (v lv tv : Value) (b : List UInt8) (k m at_ n : Int) (lose torn : List Int) (w0 : World) (hT : TabAt 0 Go.Lib.deBruijn64tab w0) (hs : Sl w0 v (bv b)) (hlo : SlE w0 lv (numC lose)) (hto : SlE w0 tv (numC torn)) (hai : (Lit.int .i64 at_).wf = true) (hni : (Lit.int .i64 n).wf = true) :
    Fn Tryd.prog 3 #[v, .int .i64 k, .int .i64 m, .int .i64 at_, .int .i64 n, lv, tv] w0 fun r w' => r = .bool true ∧ Below w0.heap.size w0 w' := by
  have hle := hs.le
  obtain ⟨va, vc, rfl⟩ := hs.shape
  rw [bv_length] at hle hs ⊢
  have hlle := hlo.le
  have htle := hto.le
  obtain ⟨la, lc, rfl⟩ := hlo.shape
  obtain ⟨ta, tc, rfl⟩ := hto.shape
  rw [numC_len lose] at hlo hlle ⊢
  rw [numC_len torn] at hto htle ⊢
  refine Fn.mk Tryd.func3 rfl (by kernel_rfl) Tryd.ntmps3 rfl (by rw [Tryd.results3]) ?_
  by_cases hbig : 3000 < b.length
  · refine RunR ?_
    exact ⟨rfl, Below.refl _ _⟩
  by_cases hb0 : b.length = 0
  · refine RunR ?_
    exact ⟨rfl, Below.refl _ _⟩
  refine RunR ?_
  refine (small_fn k m w0).mono fun r w1 ⟨hr, hw⟩ => ?_
  subst hr
  replace hw := hw.symm
  subst hw
  by_cases hsm : k < 20 ∧ m < 20 ∧ -20 < k ∧ -20 < m
  case neg =>
    rw [decide_eq_false hsm]
    conv => whnf
    refine RunR ?_
    exact ⟨rfl, Below.refl _ _⟩
  rw [decide_eq_true hsm]
  conv => whnf
  by_cases hl50 : 50 < lose.length
  · refine RunR ?_
    exact ⟨rfl, Below.refl _ _⟩
  by_cases ht400 : 400 < torn.length
  · refine RunR ?_
    exact ⟨rfl, Below.refl _ _⟩
  refine RunR ?_
  have hbp : 0 < b.length := by omega
  obtain ⟨vb9, vo9, rfl, _⟩ := hs.addr (by omega)
  by_cases hcok : codeOk k m
  case neg =>
    refine (lcut_bad _ b k m (.inl hcok) (by omega) (by omega) w0 hs).mono fun r w1 ⟨hr, hbl⟩ => ?_
    subst hr
    conv => whnf
    refine RunR ?_
    refine (known_fn _).mono fun r w2 ⟨hr, hb2⟩ => ?_
    subst hr
    conv => whnf
    refine RunR ?_
    exact ⟨rfl, hbl.trans (hb2.mono hbl.size)⟩
  have hc' : 1 ≤ k ∧ 0 ≤ m ∧ k + m ≤ 14 := by unfold codeOk at hcok; omega
  obtain ⟨k, rfl⟩ := Int.eq_ofNat_of_zero_le (show 0 ≤ k by omega)
  obtain ⟨m, rfl⟩ := Int.eq_ofNat_of_zero_le (show 0 ≤ m by omega)
  have hH0 := hgt_pos b.length k (by omega) hbp
  have hti0 := TornI.start b k m (by omega) hbp
  refine (lcut2_fn _ b k m (by omega) (by omega) hbp (by omega) w0 hs).mono fun r w ⟨w1, u, us, ps, hbl, hr, hx, hL⟩ => ?_
  subst hr
  have hB := hL.below.size
  obtain ⟨ua, uc, rfl⟩ := (hL.rowN (i := 0) rfl).shape
  obtain ⟨⟨ub, rfl⟩, _⟩ := own_addr (hL.at (i := 0) rfl) (by omega)
  have hs1 := hs.below hbl
  have hlo1 := hlo.below hbl
  have hto1 := hto.below hbl
  have hl0 : (rw3 (cut3 b k m) 0).length = hgt b.length k := by
    unfold rw3
    rw [getD_get (cut3_get (by omega) hbp (by omega)), chunks_len]
  have hlk := cut3_len b k m (by omega) hbp
  generalize cut3 b k m = ls at *
  obtain ⟨p0, xa, xc, hu0, hp0, he0, _⟩ := hx.at' hL (j := 0) (by omega)
  have hp0l : p0.1.length = hgt b.length k := by rw [he0, hl0]
  rw [hp0l] at hu0
  conv => whnf
  repeat (first | (refine RunH ?_; intro w hL hB; try clear w) | (refine Both.mk ?_ ?_ <;> conv => whnf) | fail)
  intro o3 ho3
  conv => whnf
  repeat (first | (refine RunH ?_; intro w hL hB; try clear w) | (refine Both.mk ?_ ?_ <;> conv => whnf) | fail)
  refine Ld.row1 ttOk (hL.rowN (i := 0) rfl).rowOf rfl rfl (k := 0) hu0 (by omega) ?_
  conv => whnf
  repeat (first | (refine RunH ?_; intro w hL hB; try clear w) | (refine Both.mk ?_ ?_ <;> conv => whnf) | fail)
  refine Rem.mk (by omega) ?_
  have ht1 := Int.tmod_lt_of_pos at_ (show 0 < (b.length : Int) + 1 by omega)
  have ht2 := Int.lt_tmod_of_pos at_ (show 0 < (b.length : Int) + 1 by omega)
  generalize at_.tmod ((b.length : Int) + 1) = a1 at *
  conv => whnf
  repeat (first | (refine Br.go ?_; first | ((first | refine Br.tt ?_ | refine Br.ff ?_ | refine Br.y ?_ | refine Br.n ?_ | refine Br.t ?_ | refine Br.f ?_ | fail); conv => whnf) | refine Br.not ?_ | fail) | (refine Ld.go ?_; first | ((first | refine Ld.x ttOk hL ?_ | refine Ld.p ttOk hL ?_ | fail); conv => whnf) | fail) | (refine St.x ttOk hL hB (fun w hL hB => ?_); dsimp only [List.set, splice, overL, cellsL, takeL, dropL, List.drop, List.take, bR] at hL; conv => whnf) | (refine Lq.go ?_; first | ((first | refine Lq.x ttOk hL.cls ?_ | refine Lq.x ttOk (fun _ h => h) ?_ | refine Lq.p ttOk hL.cls ?_ | refine Lq.p ttOk (fun _ h => h) ?_ | fail); conv => whnf) | fail) | (refine Ar.go ?_; first | ((first | refine Ar.s ?_ | refine Ar.u ?_ | refine Ar.h ?_ | refine Ar.b ?_ | fail); conv => whnf) | fail) | ((first | refine Chk.m ?_ | refine Qv.str ttOk rfl rfl rfl ?_ | refine An.x hL ?_ | fail); conv => whnf) | (refine Both.mk ?_ ?_ <;> conv => whnf) | fail)
  refine V.seq ?_
  refine V.join (α := Nat) (fun a => [(0, .slice (some ⟨vb9, vo9, none⟩) b.length vc), (1, .int .i64 (k : Int)), (2, .int .i64 (m : Int)), (3, .int .i64 (a : Int)), (4, .int .i64 n), (5, .slice la lose.length lc), (6, .slice ta torn.length tc), (15, .slice (some ⟨ub, 0, none⟩) (k + m) uc)]) (fun a w' => a ≤ b.length ∧ w' = w) ?_ ?_
  · by_cases hneg : a1 < 0
    · repeat (first | (refine RunH ?_; intro w hL hB; try clear w) | (refine Both.mk ?_ ?_ <;> conv => whnf) | fail)
      exact ⟨(a1 + b.length + 1).toNat, ⟨rfl, rfl, rfl, vint (by omega), rfl, rfl, rfl, rfl, trivial⟩, by omega, rfl⟩
    · repeat (first | (refine RunH ?_; intro w hL hB; try clear w) | (refine Both.mk ?_ ?_ <;> conv => whnf) | fail)
      exact ⟨a1.toNat, ⟨rfl, rfl, rfl, vint (by omega), rfl, rfl, rfl, rfl, trivial⟩, by omega, rfl⟩
  rintro a w' ⟨hab, hww⟩
  replace hww := hww.symm
  subst hww
  repeat (first | (refine RunH ?_; intro w hL hB; try clear w) | (refine Both.mk ?_ ?_ <;> conv => whnf) | fail)
  refine Rem.mk (by omega) ?_
  have ht3 := Int.tmod_lt_of_pos n (show 0 < (b.length : Int) - a + 1 by omega)
  have ht4 := Int.lt_tmod_of_pos n (show 0 < (b.length : Int) - a + 1 by omega)
  generalize n.tmod ((b.length : Int) - a + 1) = n1 at *
  conv => whnf
  repeat (first | (refine Br.go ?_; first | ((first | refine Br.tt ?_ | refine Br.ff ?_ | refine Br.y ?_ | refine Br.n ?_ | refine Br.t ?_ | refine Br.f ?_ | fail); conv => whnf) | refine Br.not ?_ | fail) | (refine Ld.go ?_; first | ((first | refine Ld.x ttOk hL ?_ | refine Ld.p ttOk hL ?_ | fail); conv => whnf) | fail) | (refine St.x ttOk hL hB (fun w hL hB => ?_); dsimp only [List.set, splice, overL, cellsL, takeL, dropL, List.drop, List.take, bR] at hL; conv => whnf) | (refine Lq.go ?_; first | ((first | refine Lq.x ttOk hL.cls ?_ | refine Lq.x ttOk (fun _ h => h) ?_ | refine Lq.p ttOk hL.cls ?_ | refine Lq.p ttOk (fun _ h => h) ?_ | fail); conv => whnf) | fail) | (refine Ar.go ?_; first | ((first | refine Ar.s ?_ | refine Ar.u ?_ | refine Ar.h ?_ | refine Ar.b ?_ | fail); conv => whnf) | fail) | ((first | refine Chk.m ?_ | refine Qv.str ttOk rfl rfl rfl ?_ | refine An.x hL ?_ | fail); conv => whnf) | (refine Both.mk ?_ ?_ <;> conv => whnf) | fail)
  refine V.seq ?_
  refine V.join (α := Nat) (fun n => [(0, .slice (some ⟨vb9, vo9, none⟩) b.length vc), (1, .int .i64 (k : Int)), (2, .int .i64 (m : Int)), (3, .int .i64 (a : Int)), (4, .int .i64 (n : Int)), (5, .slice la lose.length lc), (6, .slice ta torn.length tc), (15, .slice (some ⟨ub, 0, none⟩) (k + m) uc)]) (fun n w' => a + n ≤ b.length ∧ w' = w) ?_ ?_
  · by_cases hneg : n1 < 0
    · repeat (first | (refine RunH ?_; intro w hL hB; try clear w) | (refine Both.mk ?_ ?_ <;> conv => whnf) | fail)
      exact ⟨(n1 + b.length - a + 1).toNat, ⟨rfl, rfl, rfl, rfl, vint (by omega), rfl, rfl, rfl, trivial⟩, by omega, rfl⟩
    · repeat (first | (refine RunH ?_; intro w hL hB; try clear w) | (refine Both.mk ?_ ?_ <;> conv => whnf) | fail)
      exact ⟨n1.toNat, ⟨rfl, rfl, rfl, rfl, vint (by omega), rfl, rfl, rfl, trivial⟩, by omega, rfl⟩
  rintro n w' ⟨hab, hww⟩
  replace hww := hww.symm
  subst hww
  repeat (first | (refine RunH ?_; intro w hL hB; try clear w) | (refine Both.mk ?_ ?_ <;> conv => whnf) | fail)
  refine Rem.at lose.length 2 rfl rfl (by decide) ?_
  conv => whnf
  repeat (first | (refine RunH ?_; intro w hL hB; try clear w) | (refine Both.mk ?_ ?_ <;> conv => whnf) | fail)
  have hwh : Value.bool (decide (((lose.length % 2 : Nat) : Int) = 0)) = .bool (decide (lose.length % 2 = 0)) := by
    congr 1
    exact decide_eq_decide.2 (by omega)
  generalize hw9 : decide (lose.length % 2 = 0) = whole at *
  clear ht1 ht2 ht3 ht4 hu0 hp0 he0 hp0l hl0
  refine V.loop (α := Nat × List Value × List (List (List UInt8) × List Value) × List (List (List UInt8))) (fun z => [(0, .slice (some ⟨vb9, vo9, none⟩) b.length vc), (1, .int .i64 (k : Int)), (2, .int .i64 (m : Int)), (3, .int .i64 (a : Int)), (4, .int .i64 (n : Int)), (5, .slice la lose.length lc), (6, .slice ta torn.length tc), (15, .slice (some ⟨ub, 0, none⟩) (k + m) uc), (17, .bool whole), (18, .int .i64 (z.1 : Int))])
    (fun z w' => z.1 ≤ m ∧ InsP w1 z.2.1 z.2.2.1 z.2.2.2 ∧ TornI (cutB b k m) z.2.2.2 (k + m) (hgt b.length k) 0 z.1 ∧ w1.heap.size ≤ w'.heap.size ∧ Sep Tryd.prog w1.heap.size w1 w' (.row 29 1 (.slice (some ⟨ub, 0, none⟩) (k + m) uc) (k + m) z.2.1 :: List.zipWith xR z.2.1 z.2.2.1)) (fun z => m - z.1) (0, us, ps, ls) ⟨rfl, rfl, rfl, rfl, rfl, rfl, rfl, rfl, by simpa [look] using hwh, rfl, trivial⟩ ⟨Nat.zero_le _, hx, hti0, hB, hL⟩ ?_
  repeat clear hL
  repeat clear hB
  clear hx hti0 hlk
  rintro ⟨i, us, ps, ls⟩ w ⟨hi, hx, hti, hB, hL⟩
  dsimp only at hi hx hti hL
  have hlk := hti.len
  have hul : us.length = k + m := by rw [hx.len, ← hlk, ← hx.map, List.length_map]
  repeat (first | (refine RunH ?_; intro w hL hB; try clear w) | (refine Both.mk ?_ ?_ <;> conv => whnf) | fail)
  refine Br.dec (fun hlt => ?_) (fun hlt => ?_)
  · have him : i < m := by omega
    by_cases hwl : whole = true ∧ i < lose.length
    · obtain ⟨rfl, hil⟩ := hwl
      have hgl : lose[i]? = some lose[i] := List.getElem?_eq_getElem hil
      generalize lose[i] = x at *
      obtain ⟨lb, lo, rfl, _⟩ := hlo1.sl.toN.addr (by omega)
      repeat (first | (refine RunH ?_; intro w hL hB; try clear w) | (refine Both.mk ?_ ?_ <;> conv => whnf) | fail)
      intro o4 ho4
      conv => whnf
      repeat (first | (refine RunH ?_; intro w hL hB; try clear w) | (refine Both.mk ?_ ?_ <;> conv => whnf) | fail)
      refine Ld.row1 ttOk (hlo1.below hL.below).sl.toN.rowOf rfl rfl (k := i) (numC_get hgl) (by omega) ?_
      conv => whnf
      repeat (first | (refine RunH ?_; intro w hL hB; try clear w) | (refine Both.mk ?_ ?_ <;> conv => whnf) | fail)
      refine Rem.mk (by omega) ?_
      have ht1 := Int.tmod_lt_of_pos x (show 0 < ((k + m : Nat) : Int) by omega)
      have ht2 := Int.lt_tmod_of_pos x (show 0 < ((k + m : Nat) : Int) by omega)
      generalize x.tmod ((k + m : Nat) : Int) = x1 at *
      conv => whnf
      repeat (first | (refine Br.go ?_; first | ((first | refine Br.tt ?_ | refine Br.ff ?_ | refine Br.y ?_ | refine Br.n ?_ | refine Br.t ?_ | refine Br.f ?_ | fail); conv => whnf) | refine Br.not ?_ | fail) | (refine Ld.go ?_; first | ((first | refine Ld.x ttOk hL ?_ | refine Ld.p ttOk hL ?_ | fail); conv => whnf) | fail) | (refine St.x ttOk hL hB (fun w hL hB => ?_); dsimp only [List.set, splice, overL, cellsL, takeL, dropL, List.drop, List.take, bR] at hL; conv => whnf) | (refine Lq.go ?_; first | ((first | refine Lq.x ttOk hL.cls ?_ | refine Lq.x ttOk (fun _ h => h) ?_ | refine Lq.p ttOk hL.cls ?_ | refine Lq.p ttOk (fun _ h => h) ?_ | fail); conv => whnf) | fail) | (refine Ar.go ?_; first | ((first | refine Ar.s ?_ | refine Ar.u ?_ | refine Ar.h ?_ | refine Ar.b ?_ | fail); conv => whnf) | fail) | ((first | refine Chk.m ?_ | refine Qv.str ttOk rfl rfl rfl ?_ | refine An.x hL ?_ | fail); conv => whnf) | (refine Both.mk ?_ ?_ <;> conv => whnf) | fail)
      refine V.seq ?_
      refine V.join (α := Nat) (fun j => [(0, .slice (some ⟨vb9, vo9, none⟩) b.length vc), (1, .int .i64 (k : Int)), (2, .int .i64 (m : Int)), (3, .int .i64 (a : Int)), (4, .int .i64 (n : Int)), (5, .slice (some ⟨lb, lo, none⟩) lose.length lc), (6, .slice ta torn.length tc), (15, .slice (some ⟨ub, 0, none⟩) (k + m) uc), (17, .bool true), (18, .int .i64 (i : Int)), (19, .int .i64 (j : Int))]) (fun j w' => j < k + m ∧ w' = w) ?_ ?_
      · by_cases hneg : x1 < 0
        · repeat (first | (refine RunH ?_; intro w hL hB; try clear w) | (refine Both.mk ?_ ?_ <;> conv => whnf) | fail)
          exact ⟨(x1 + (k + m : Nat)).toNat, ⟨rfl, rfl, rfl, rfl, rfl, rfl, rfl, rfl, rfl, rfl, vint (by omega), trivial⟩, by omega, rfl⟩
        · repeat (first | (refine RunH ?_; intro w hL hB; try clear w) | (refine Both.mk ?_ ?_ <;> conv => whnf) | fail)
          exact ⟨x1.toNat, ⟨rfl, rfl, rfl, rfl, rfl, rfl, rfl, rfl, rfl, rfl, vint (by omega), trivial⟩, by omega, rfl⟩
      rintro j w' ⟨hjk, hww⟩
      replace hww := hww.symm
      subst hww
      repeat (first | (refine RunH ?_; intro w hL hB; try clear w) | (refine Both.mk ?_ ?_ <;> conv => whnf) | fail)
      intro o5 ho5
      obtain rfl : j = o5 := by omega
      conv => whnf
      refine St.rowS ttOk hL 0 rfl rfl rfl rfl (by rw [hul]; show j + 1 ≤ _; omega) hB (fun w hL hB => ?_)
      rw [List.set_cons_zero] at hL
      dsimp only [cellsL] at hL
      rw [splice_one (by omega)] at hL
      replace hL := hL.nilAt (j := j) (by omega) hx.len
      conv => whnf
      repeat (first | (refine RunH ?_; intro w hL hB; try clear w) | (refine Both.mk ?_ ?_ <;> conv => whnf) | fail)
      exact ⟨(i + 1, us.set j (.slice none 0 0), ps.set j ([], []), ls.set j []), ⟨rfl, rfl, rfl, rfl, rfl, rfl, rfl, rfl, rfl, rfl, trivial⟩, ⟨by dsimp only; omega, hx.nil j, hti.all hjk, hB, hL⟩, (by first | omega | (dsimp only; omega))⟩
    · have hgo : whole = true → lose.length ≤ i := fun h => by
        have : ¬ i < lose.length := fun h2 => hwl ⟨h, h2⟩
        omega
      cases whole with
      | true =>
        have hgo2 := hgo rfl
        repeat (first | (refine RunH ?_; intro w hL hB; try clear w) | (refine Both.mk ?_ ?_ <;> conv => whnf) | fail)
        refine V.loop (α := Nat × Unit) (fun z => [(0, .slice (some ⟨vb9, vo9, none⟩) b.length vc), (1, .int .i64 (k : Int)), (2, .int .i64 (m : Int)), (3, .int .i64 (a : Int)), (4, .int .i64 (n : Int)), (5, .slice la lose.length lc), (6, .slice ta torn.length tc), (15, .slice (some ⟨ub, 0, none⟩) (k + m) uc), (17, .bool true), (18, .int .i64 (i : Int)), (20, .int .i64 (z.1 : Int))]) (fun z w' => z.1 = 0 ∧ w' = w) (fun z => 0) (0, ()) ⟨rfl, rfl, rfl, rfl, rfl, rfl, rfl, rfl, rfl, rfl, rfl, trivial⟩ ⟨rfl, rfl⟩ ?_
        rintro ⟨r, _⟩ w' ⟨hr0, hww⟩
        replace hww := hww.symm
        subst hww
        repeat (first | (refine RunH ?_; intro w hL hB; try clear w) | (refine Both.mk ?_ ?_ <;> conv => whnf) | fail)
        exact ⟨(i + 1, us, ps, ls), ⟨rfl, rfl, rfl, rfl, rfl, rfl, rfl, rfl, rfl, rfl, trivial⟩, ⟨by dsimp only; omega, hx, hti.next, hB, hL⟩, (by first | omega | (dsimp only; omega))⟩
      | false =>
        repeat (first | (refine RunH ?_; intro w hL hB; try clear w) | (refine Both.mk ?_ ?_ <;> conv => whnf) | fail)
        refine V.loop (α := Nat × List (List (List UInt8) × List Value) × List (List (List UInt8))) (fun z => [(0, .slice (some ⟨vb9, vo9, none⟩) b.length vc), (1, .int .i64 (k : Int)), (2, .int .i64 (m : Int)), (3, .int .i64 (a : Int)), (4, .int .i64 (n : Int)), (5, .slice la lose.length lc), (6, .slice ta torn.length tc), (15, .slice (some ⟨ub, 0, none⟩) (k + m) uc), (17, .bool false), (18, .int .i64 (i : Int)), (20, .int .i64 (z.1 : Int))])
          (fun z w' => z.1 ≤ torn.length ∧ InsP w1 us z.2.1 z.2.2 ∧ TornI (cutB b k m) z.2.2 (k + m) (hgt b.length k) z.1 i ∧ w1.heap.size ≤ w'.heap.size ∧ Sep Tryd.prog w1.heap.size w1 w' (.row 29 1 (.slice (some ⟨ub, 0, none⟩) (k + m) uc) (k + m) us :: List.zipWith xR us z.2.1)) (fun z => torn.length - z.1) (0, ps, ls) ⟨rfl, rfl, rfl, rfl, rfl, rfl, rfl, rfl, rfl, rfl, rfl, trivial⟩ ⟨Nat.zero_le _, hx, hti, hB, hL⟩ ?_
        repeat clear hL
        repeat clear hB
        clear hx hti hlk
        rintro ⟨r, ps, ls⟩ w ⟨hr, hx, hti, hB, hL⟩
        dsimp only at hr hx hti hL
        have hlk := hti.len
        obtain ⟨p0, xa, xc, hu0, hp0, he0, _⟩ := hx.at' hL (j := 0) (by omega)
        repeat (first | (refine RunH ?_; intro w hL hB; try clear w) | (refine Both.mk ?_ ?_ <;> conv => whnf) | fail)
        intro o4 ho4
        conv => whnf
        repeat (first | (refine RunH ?_; intro w hL hB; try clear w) | (refine Both.mk ?_ ?_ <;> conv => whnf) | fail)
        refine Ld.row1 ttOk (hL.rowN (i := 0) rfl).rowOf rfl rfl (k := 0) hu0 (by omega) ?_
        conv => whnf
        repeat (first | (refine RunH ?_; intro w hL hB; try clear w) | (refine Both.mk ?_ ?_ <;> conv => whnf) | fail)
        by_cases hg1 : r < p0.1.length
        rotate_left
        · repeat (first | (refine RunH ?_; intro w hL hB; try clear w) | (refine Both.mk ?_ ?_ <;> conv => whnf) | fail)
          exact ⟨(i + 1, us, ps, ls), ⟨rfl, rfl, rfl, rfl, rfl, rfl, rfl, rfl, rfl, rfl, trivial⟩, ⟨by dsimp only; omega, hx, hti.next, hB, hL⟩, (by first | omega | (dsimp only; omega))⟩
        by_cases hg2 : r < torn.length
        rotate_left
        · repeat (first | (refine RunH ?_; intro w hL hB; try clear w) | (refine Both.mk ?_ ?_ <;> conv => whnf) | fail)
          exact ⟨(i + 1, us, ps, ls), ⟨rfl, rfl, rfl, rfl, rfl, rfl, rfl, rfl, rfl, rfl, trivial⟩, ⟨by dsimp only; omega, hx, hti.next, hB, hL⟩, (by first | omega | (dsimp only; omega))⟩
        have hgt9 : torn[r]? = some torn[r] := List.getElem?_eq_getElem hg2
        generalize torn[r] = x at *
        obtain ⟨tb, to, rfl, _⟩ := hto1.sl.toN.addr (by omega)
        repeat (first | (refine RunH ?_; intro w hL hB; try clear w) | (refine Both.mk ?_ ?_ <;> conv => whnf) | fail)
        intro o5 ho5
        conv => whnf
        repeat (first | (refine RunH ?_; intro w hL hB; try clear w) | (refine Both.mk ?_ ?_ <;> conv => whnf) | fail)
        refine Ld.row1 ttOk (hto1.below hL.below).sl.toN.rowOf rfl rfl (k := r) (numC_get hgt9) (by omega) ?_
        conv => whnf
        repeat (first | (refine RunH ?_; intro w hL hB; try clear w) | (refine Both.mk ?_ ?_ <;> conv => whnf) | fail)
        refine Bt.maskI 255 (by omega) rfl fun T hT255 => ?_
        conv => whnf
        repeat (first | (refine RunH ?_; intro w hL hB; try clear w) | (refine Both.mk ?_ ?_ <;> conv => whnf) | fail)
        refine Rem.at (T + i) (k + m) (by omega) rfl (by omega) ?_
        have hjk : (T + i) % (k + m) < k + m := Nat.mod_lt _ (by omega)
        generalize (T + i) % (k + m) = j at *
        obtain ⟨pj, xja, xjc, huj, hpj, hej, hat⟩ := hx.at' hL (j := j) (by omega)
        have hxj : (xR (.slice xja pj.1.length xjc) pj).holds Tryd.prog w := hL.at hat
        have hpl := (SlN.of_own (show w.ownsRow 0 22 1 (.slice xja pj.1.length xjc) pj.1.length pj.2 from hxj)).len
        conv => whnf
        repeat (first | (refine RunH ?_; intro w hL hB; try clear w) | (refine Both.mk ?_ ?_ <;> conv => whnf) | fail)
        intro o6 ho6
        conv => whnf
        repeat (first | (refine RunH ?_; intro w hL hB; try clear w) | (refine Both.mk ?_ ?_ <;> conv => whnf) | fail)
        refine Ld.row1 ttOk (hL.rowN (i := 0) rfl).rowOf rfl rfl (k := j) huj (by omega) ?_
        conv => whnf
        by_cases hg3 : r < pj.1.length
        rotate_left
        · repeat (first | (refine RunH ?_; intro w hL hB; try clear w) | (refine Both.mk ?_ ?_ <;> conv => whnf) | fail)
          exact ⟨(r + 1, ps, ls), ⟨rfl, rfl, rfl, rfl, rfl, rfl, rfl, rfl, rfl, rfl, rfl, trivial⟩, ⟨by dsimp only; omega, hx, hti.skip, hB, hL⟩, (by first | omega | (dsimp only; omega))⟩
        obtain ⟨⟨xjb, rfl⟩, _⟩ := own_addr (show w.ownsRow 0 22 1 (.slice xja pj.1.length xjc) pj.1.length pj.2 from hxj) (by omega)
        repeat (first | (refine RunH ?_; intro w hL hB; try clear w) | (refine Both.mk ?_ ?_ <;> conv => whnf) | fail)
        intro o7 ho7
        conv => whnf
        repeat (first | (refine RunH ?_; intro w hL hB; try clear w) | (refine Both.mk ?_ ?_ <;> conv => whnf) | fail)
        refine Ld.row1 ttOk (hL.rowN (i := 0) rfl).rowOf rfl rfl (k := j) huj (by omega) ?_
        conv => whnf
        repeat (first | (refine RunH ?_; intro w hL hB; try clear w) | (refine Both.mk ?_ ?_ <;> conv => whnf) | fail)
        intro o8 ho8
        obtain rfl : r = o8 := by omega
        conv => whnf
        refine St.rowS ttOk hL (j + 1) rfl rfl rfl hat (by show r + 1 ≤ _; omega) hB (fun w hL hB => ?_)
        dsimp only [cellsL] at hL
        rw [splice_one (by omega), List.set_cons_succ, zip_one huj] at hL
        conv => whnf
        repeat (first | (refine RunH ?_; intro w hL hB; try clear w) | (refine Both.mk ?_ ?_ <;> conv => whnf) | fail)
        refine ⟨(r + 1, ps.set j (pj.1.set r [], pj.2.set r (.slice none 0 0)), ls.set j ((rw3 ls j).set r [])), ⟨rfl, rfl, rfl, rfl, rfl, rfl, rfl, rfl, rfl, rfl, rfl, trivial⟩, ⟨by dsimp only; omega, hx.one hpj r, hti.one hjk, hB, hL⟩, (by first | omega | (dsimp only; omega))⟩
  · obtain rfl : i = m := by omega
    have htorn := hti.torn
    have hs3 := (hx.x.mono (L' := .row 29 1 (.slice (some ⟨ub, 0, none⟩) (k + i) uc) (k + i) us :: List.zipWith xR us ps) fun R h => List.mem_cons_of_mem _ h).s3 hL (hL.row (i := 0) rfl)
    have hgood : goodP ls k i (b.length : Int) := ⟨hcok, by omega, by omega, by rw [hlk]; omega, by rw [Int.toNat_natCast, Int.toNat_natCast]; exact hti.fit⟩
    have hTw := tabAt_below hT (hbl.trans (hL.below.mono hbl.size))
    obtain ⟨hWl, hWr⟩ := cutB_rows b k i (by omega) hbp
    have htells : tells ls k (hgt b.length k) := fun r hr => htorn.sel hWl hWr hr
    have hpart : Fn Tryd.prog 9 #[.slice (some ⟨ub, 0, none⟩) (k + i) uc, .int .i64 (k : Int), .int .i64 (i : Int), .int .i64 (b.length : Int), .int .i64 (a : Int), .int .i64 (n : Int)] w fun r w' => (∃ u, r = .tuple #[u, .int .i64 0] ∧ Sl w' u (bv ((b.drop a).take n))) ∧ Below w.heap.size w w' := by
      by_cases hn0 : n = 0
      · subst hn0
        refine (part_zero _ ls k i b.length a hgood (by omega) (by omega) w hs3).mono fun r w' ⟨hr, hb⟩ => ⟨⟨_, hr, ?_⟩, hb⟩
        rw [List.take_zero]
        exact Sl.nil w'
      · refine (part_fn _ ls k i b.length a n hgood (by omega) (by omega) hab w hTw hs3).mono fun r w' ⟨hr, hb⟩ => ⟨?_, hb⟩
        rcases hr with ⟨_, hme, u, hr, hsl⟩ | ⟨hno, _⟩
        · rw [htorn.part (by omega) hbp (by omega) hab hme] at hsl
          exact ⟨u, hr, hsl⟩
        · refine absurd (fun i' hi' => ?_) hno
          intro _
          have hge := hgt_ge b.length k (by omega) hbp
          have hd4 : a / 16 ≤ (a + n - 1) / 16 := Nat.div_le_div_right (by omega)
          exact htells _ (Nat.div_lt_of_lt_mul (by rw [Nat.mul_comm]; omega))
    repeat (first | (refine RunH ?_; intro w hL hB; try clear w) | (refine Both.mk ?_ ?_ <;> conv => whnf) | fail)
    refine hpart.mono fun r w2 ⟨⟨pu, hr, hpu⟩, hb2⟩ => ?_
    subst hr
    replace hL := hL.call hB (Turns.of_below hb2)
    replace hB := Nat.le_trans hB hb2.size
    conv => whnf
    repeat (first | (refine RunH ?_; intro w hL hB; try clear w) | (refine Both.mk ?_ ?_ <;> conv => whnf) | fail)
    refine (mendA_fn _ ls k i b.length hgood (by omega) _ (tabAt_below hTw hb2) (hs3.below hb2)).mono fun r w3 ⟨hgot, hb3⟩ => ?_
    rcases hgot with ⟨_, hme, au, rfl, hss⟩ | ⟨hno, _⟩
    rotate_left
    · exact absurd htells hno
    rw [htorn.acc (D := cutD b k) (by omega) (colsB_len ..) (cutD_len b k (by omega) hbp) (cutB_blends b k i (by omega) hbp) hme] at hss
    replace hL := hL.call hB (Turns.of_below hb3)
    replace hB := Nat.le_trans hB hb3.size
    have hpu3 := hpu.below hb3
    conv => whnf
    repeat (first | (refine RunH ?_; intro w hL hB; try clear w) | (refine Both.mk ?_ ?_ <;> conv => whnf) | fail)
    refine (cut_fn _ b k i (by omega) (by omega) hbp (by omega) _ (hs1.below hL.below)).mono fun r w4 ⟨wu, hr, hws, hb4⟩ => ?_
    subst hr
    replace hL := hL.call hB (Turns.of_below hb4)
    replace hB := Nat.le_trans hB hb4.size
    have hpu4 := hpu3.below hb4
    have hss4 := hss.below hb4
    conv => whnf
    repeat (first | (refine RunH ?_; intro w hL hB; try clear w) | (refine Both.mk ?_ ?_ <;> conv => whnf) | fail)
    obtain ⟨_, hv2, hv3⟩ := hs.len
    repeat (first | (refine RunH ?_; intro w hL hB; try clear w) | (refine Both.mk ?_ ?_ <;> conv => whnf) | fail)
    intro o9 n9 c9 g1 g2 g3 g4
    have hsd := ((hs1.below hL.below).drop (k := a) (o' := o9) (n' := b.length - a) (c' := vc - a) (by rw [bv_length]; omega) (fun h => by have := g1 (by omega); omega) rfl rfl).take (k := n) (by rw [List.length_drop, bv_length]; omega) (c' := c9) (by omega) (by omega)
    rw [← bv_drop, ← bv_take] at hsd
    obtain rfl : n = n9 := by omega
    conv => whnf
    repeat (first | (refine RunH ?_; intro w hL hB; try clear w) | (refine Both.mk ?_ ?_ <;> conv => whnf) | fail)
    refine (same_fn _ _ _ _ _ hpu4 hsd).mono fun r w5 ⟨hr, hb5⟩ => ?_
    subst hr
    rw [decide_eq_true rfl]
    replace hL := hL.call hB (Turns.of_below hb5)
    replace hB := Nat.le_trans hB hb5.size
    conv => whnf
    repeat (first | (refine RunH ?_; intro w hL hB; try clear w) | (refine Both.mk ?_ ?_ <;> conv => whnf) | fail)
    refine (rows_fn _ _ _ _ _ (hss4.below hb5) (hws.below hb5)).mono fun r w6 ⟨hr, hb6⟩ => ?_
    subst hr
    rw [decide_eq_true rfl]
    replace hL := hL.call hB (Turns.of_below hb6)
    replace hB := Nat.le_trans hB hb6.size
    conv => whnf
    repeat (first | (refine RunH ?_; intro w hL hB; try clear w) | (refine Both.mk ?_ ?_ <;> conv => whnf) | fail)
    refine (known_fn _).mono fun r w7 ⟨hr, hb7⟩ => ?_
    subst hr
    replace hL := hL.call hB (Turns.of_below hb7)
    conv => whnf
    repeat (first | (refine RunH ?_; intro w hL hB; try clear w) | (refine Both.mk ?_ ?_ <;> conv => whnf) | fail)
    exact ⟨rfl, hbl.trans (hL.below.mono hbl.size)⟩
end Go.Proofs.YtlldgodjfpgbcaaDoor
