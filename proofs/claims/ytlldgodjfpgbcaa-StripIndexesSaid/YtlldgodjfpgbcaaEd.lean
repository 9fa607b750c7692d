/- garnerref14.ReadIndex: the walk. Nothing is claimed here. -/
import Derived.Test.YtlldgodjfpgbcaaEc
namespace Go.Proofs.Ytlldgodjfpgbcaa
open Go.RowKit
set_option linter.unusedVariables false
set_option linter.unusedSimpArgs false
set_option maxRecDepth 100000

def numsU : Nat → List UInt8 → List Nat → Option (List Nat × List UInt8)
  | 0, l, acc => some (acc, l)
  | c + 1, l, acc => if (rdU l).2.2 = 0 then numsU c (l.drop (rdU l).2.1) (acc ++ [(rdU l).1]) else none
theorem plc1_none {l : List UInt8} (h : numsU 3 l [] = none) : plc1 l = none := by
  simp only [numsU] at h
  unfold plc1 num1
  by_cases h1 : (rdU l).2.2 = 0
  · rw [if_pos h1] at h
    rw [if_pos ⟨h1, by have := (rdU_ok l).1; omega⟩]
    dsimp only
    generalize l.drop (rdU l).2.1 = l1 at *
    by_cases h2 : (rdU l1).2.2 = 0
    · rw [if_pos h2] at h
      split
      · rfl
      · rename_i a r2 h3
        split at h3
        · injection h3 with h3; injection h3 with e1 e2
          subst e2
          generalize l1.drop (rdU l1).2.1 = l2 at *
          by_cases h4 : (rdU l2).2.2 = 0
          · rw [if_pos h4] at h; cases h
          · rw [if_neg (fun h => h4 h.1)]
        · cases h3
    · rw [if_neg (fun h => h2 h.1)]
  · rw [if_neg (fun h => h1 h.1)]
theorem plc1_some {l r : List UInt8} {k a n : Nat} (h : numsU 3 l [] = some ([k, a, n], r)) : plc1 l = if a ≤ 4194304 ∧ n ≤ 4194304 then tail5 k a n r else none := by
  simp only [numsU] at h
  unfold plc1 num1
  by_cases h1 : (rdU l).2.2 = 0
  case neg => rw [if_neg h1] at h; cases h
  rw [if_pos h1] at h
  rw [if_pos ⟨h1, by have := (rdU_ok l).1; omega⟩]
  dsimp only
  generalize l.drop (rdU l).2.1 = l1 at *
  by_cases h2 : (rdU l1).2.2 = 0
  case neg => rw [if_neg h2] at h; cases h
  rw [if_pos h2] at h
  generalize hl2 : l1.drop (rdU l1).2.1 = l2 at *
  by_cases h3 : (rdU l2).2.2 = 0
  case neg => rw [if_neg h3] at h; cases h
  rw [if_pos h3] at h
  simp only [List.nil_append, List.cons_append, Option.some.injEq, Prod.mk.injEq, List.cons.injEq, and_true] at h
  obtain ⟨⟨e1, e2, e3⟩, e4⟩ := h
  rw [e1, e2]
  by_cases ha : a ≤ 4194304
  · rw [if_pos ⟨h2, ha⟩]
    dsimp only
    rw [e3, e4]
    by_cases hn : n ≤ 4194304
    · rw [if_pos ⟨h3, hn⟩, if_pos ⟨ha, hn⟩]
    · rw [if_neg (fun h => hn h.2), if_neg (fun h => hn h.2)]
  · rw [if_neg (fun h => ha h.2), if_neg (fun h => ha h.1)]
def arr3 : List Nat → List Value
  | [] => [.int .u64 0, .int .u64 0, .int .u64 0]
  | [a] => [.int .u64 (a : Int), .int .u64 0, .int .u64 0]
  | [a, b] => [.int .u64 (a : Int), .int .u64 (b : Int), .int .u64 0]
  | a :: b :: c :: _ => [.int .u64 (a : Int), .int .u64 (b : Int), .int .u64 (c : Int)]

set_option maxHeartbeats 8000000 in
theorem readIndexR_fn (v : Value) (b : List UInt8) (w0 : World) (hs : Sl w0 v (bv b)) (hlen : b.length ≤ 1000000000) : Fn Try.prog 23 #[v] w0 fun r w' => idxPost b r w' ∧ Below w0.heap.size w0 w' := by
  obtain ⟨a, c, rfl⟩ := hs.shape
  simp only [bv_length] at *
  have hL := Sep.start Try.prog w0
  have hB := Nat.le_refl w0.heap.size
  refine Fn.mk Try.func23 rfl (by kernel_rfl) Try.ntmps23 rfl (by rw [Try.results23]) ?_
  repeat (first | (refine RunH ?_; intro w hL hB; try clear w) | (refine Both.mk ?_ ?_ <;> conv => whnf) | fail)
  refine (decodeR_fn _ b _ hs).mono fun r w1 ⟨hr, b1⟩ => ?_
  clear hL hB
  have hL := Sep.start Try.prog w1
  have hB := Nat.le_refl w1.heap.size
  unfold decPost at hr
  by_cases he : decE b = 0
  case neg =>
    rw [if_neg he] at hr
    subst hr
    conv => whnf
    repeat (first | (refine RunH ?_; intro w hL hB; try clear w) | (refine Both.mk ?_ ?_ <;> conv => whnf) | fail)
    exact ⟨⟨_, by rw [idxS_err he], by rw [idxS_err he]; exact SlN.nil _ _⟩, b1⟩
  rw [if_pos he] at hr
  obtain ⟨hn8, hpl, pv, hr, hpo⟩ := hr
  subst hr
  have hps := Sl.of_own hpo
  obtain ⟨pa, pc, rfl⟩ := hps.shape
  rw [bv_length] at hps ⊢
  by_cases hn : 8 + decN b = b.length
  case neg =>
    conv => whnf
    repeat (first | (refine RunH ?_; intro w hL hB; try clear w) | (refine Both.mk ?_ ?_ <;> conv => whnf) | fail)
    exact ⟨⟨_, by rw [idxS_n he hn]; rfl, by rw [idxS_n he hn]; exact SlN.nil _ _⟩, b1⟩
  conv => whnf
  repeat (first | (refine RunH ?_; intro w hL hB; try clear w) | (refine Both.mk ?_ ?_ <;> conv => whnf) | fail)
  refine (readUvR_fn _ _ _ hps).mono fun r w1 ⟨hr, hw⟩ => ?_
  subst hr; subst hw
  have hnum' : num1 65536 (decP b) = if (rdU (decP b)).2.2 = 0 ∧ (rdU (decP b)).1 ≤ 65536 then some ((rdU (decP b)).1, (decP b).drop (rdU (decP b)).2.1) else none := rfl
  obtain ⟨u1, u2, u3, u4⟩ := rdU_ok (decP b)
  unfold ruV
  generalize hx : rdU (decP b) = x at *
  obtain ⟨cnt, x2, x3⟩ := x
  dsimp only at *
  by_cases h3 : x3 = 0
  case neg =>
    rw [if_neg (fun h => h3 h.1)] at hnum'
    conv => whnf
    repeat (first | (refine RunH ?_; intro w hL hB; try clear w) | (refine Both.mk ?_ ?_ <;> conv => whnf) | fail)
    exact ⟨⟨_, by rw [idxS_num he hnum']; rfl, by rw [idxS_num he hnum']; exact SlN.nil _ _⟩, b1⟩
  by_cases hcnt : cnt ≤ 65536
  case neg =>
    rw [if_neg (fun h => hcnt h.2)] at hnum'
    conv => whnf
    repeat (first | (refine RunH ?_; intro w hL hB; try clear w) | (refine Both.mk ?_ ?_ <;> conv => whnf) | fail)
    exact ⟨⟨_, by rw [idxS_num he hnum']; rfl, by rw [idxS_num he hnum']; exact SlN.nil _ _⟩, b1⟩
  rw [if_pos ⟨h3, hcnt⟩] at hnum'
  have hx2 := u4 h3
  obtain ⟨bp, op, rfl, _⟩ := hps.addr (by omega)
  obtain ⟨q1, q2, q3⟩ := hps.len
  conv => whnf
  repeat (first | (refine RunH ?_; intro w hL hB; try clear w) | (refine Both.mk ?_ ?_ <;> conv => whnf) | fail)
  intro o1 n1 c1 p1 p2 p3 p4
  conv => whnf
  have hs1 : Sl w1 (.slice (some ⟨bp, o1, none⟩) n1 c1) (bv ((decP b).drop x2)) := by
    rw [bv_drop]
    exact hps.drop (k := x2) (by rw [bv_length]; omega) (fun h => by have := p1 (by omega); omega) (by omega) (by omega)
  generalize hr1 : (decP b).drop x2 = r1 at *
  replace hL := hL.nilRow 56 5
  repeat (first | (refine RunH ?_; intro w hL hB; try clear w) | (refine Both.mk ?_ ?_ <;> conv => whnf) | fail)
  refine V.loop (α := Nat × Value × List Plc × List UInt8 × Value) (fun z => [(7, .int .u64 (cnt : Int)), (10, .int .i64 (z.1 : Int)), (9, z.2.1), (4, z.2.2.2.2)])
    (fun z w' => z.1 ≤ cnt ∧ z.2.2.1.length = z.1 ∧ plcs cnt r1 [] = plcs (cnt - z.1) z.2.2.2.1 z.2.2.1 ∧ Sl w1 z.2.2.2.2 (bv z.2.2.2.1) ∧ w1.heap.size ≤ w'.heap.size ∧ Sep Try.prog w1.heap.size w1 w' [.row 56 5 z.2.1 z.1 (z.2.2.1.flatMap plC)])
    (fun z => cnt - z.1) (0, .slice none 0 0, [], r1, _) ⟨rfl, rfl, rfl, rfl, trivial⟩ ⟨by simp, rfl, rfl, hs1, hB, hL⟩ ?_
  clear hL hB hs1
  rintro ⟨k, lv, acc, rest, rv⟩ w ⟨hk, hacc, hplcs, hs1, hB, hL⟩
  dsimp only at *
  obtain ⟨la, lc, rfl⟩ := (hL.rowN (i := 0) rfl).shape
  repeat (first | (refine RunH ?_; intro w hL hB; try clear w) | (refine Both.mk ?_ ?_ <;> conv => whnf) | fail)
  refine Br.dec (fun hlt => ?_) (fun hlt => ?_)
  · have hkc : k < cnt := by omega
    obtain ⟨d, hd⟩ : ∃ d, cnt - k = d + 1 := ⟨cnt - k - 1, by omega⟩
    rw [hd] at hplcs
    repeat (first | (refine RunH ?_; intro w hL hB; try clear w) | (refine Both.mk ?_ ?_ <;> conv => whnf) | (refine Nw.sep hL hB (fun b11 w hL hB hb11 => ?_); conv => whnf) | fail)
    refine V.loop (α := Nat × List Nat × List UInt8 × Value) (fun z => [(7, .int .u64 (cnt : Int)), (10, .int .i64 (k : Int)), (9, .slice la k lc), (4, z.2.2.2), (11, .pointer (some ⟨b11, 0, none⟩)), (12, .int .i64 (z.1 : Int))])
      (fun z w' => z.1 ≤ 3 ∧ z.2.1.length = z.1 ∧ (∀ x ∈ z.2.1, x < 18446744073709551616) ∧ numsU 3 rest [] = numsU (3 - z.1) z.2.2.1 z.2.1 ∧ Sl w1 z.2.2.2 (bv z.2.2.1) ∧ w1.heap.size ≤ w'.heap.size ∧ Sep Try.prog w1.heap.size w1 w' [.blk b11 (arr3 z.2.1) 87, .row 56 5 (.slice la k lc) k (acc.flatMap plC)])
      (fun z => 3 - z.1) (0, [], rest, rv) ⟨rfl, rfl, rfl, rfl, rfl, rfl, trivial⟩ ⟨by simp, rfl, by simp, rfl, hs1, hB, hL⟩ ?_
    clear hL hB hs1
    rintro ⟨j, vs, rs, rv⟩ w ⟨hj, hvs, hvl, hnums, hs1, hB, hL⟩
    dsimp only at *
    obtain ⟨ra, rc, rfl⟩ := hs1.shape
    rw [bv_length] at hs1 ⊢
    obtain ⟨g1, g2, g3, g4⟩ := rdU_ok rs
    have step : j < 3 → numsU (3 - j) rs vs = if (rdU rs).2.2 = 0 then numsU (3 - (j + 1)) (rs.drop (rdU rs).2.1) (vs ++ [(rdU rs).1]) else none := fun h => by
      rw [show 3 - j = (3 - (j + 1)) + 1 by omega]; rfl
    repeat (first | (refine RunH ?_; intro w hL hB; try clear w) | (refine Both.mk ?_ ?_ <;> conv => whnf) | fail)
    refine Br.dec (fun hlt => ?_) (fun hlt => ?_)
    · rw [step (by omega)] at hnums
      repeat (first | (refine RunH ?_; intro w hL hB; try clear w) | (refine Both.mk ?_ ?_ <;> conv => whnf) | fail)
      refine (readUvR_fn _ _ _ (hL.sl hs1 rfl)).mono fun r w' ⟨hr, hw⟩ => ?_
      subst hr; subst hw
      unfold ruV
      generalize rdU rs = x at *
      obtain ⟨y1, y2, y3⟩ := x
      dsimp only at *
      by_cases h3 : y3 = 0
      case neg =>
        rw [if_neg h3] at hnums
        have hpn : plcs cnt r1 [] = none := by rw [hplcs, plcs, plc1_none hnums]
        conv => whnf
        repeat (first | (refine RunH ?_; intro w hL hB; try clear w) | (refine Both.mk ?_ ?_ <;> conv => whnf) | fail)
        exact ⟨⟨_, by rw [idxS_none he hnum' hpn]; rfl, by rw [idxS_none he hnum' hpn]; exact SlN.nil _ _⟩, b1.trans (hL.below.mono b1.size)⟩
      rw [if_pos h3] at hnums
      have hy2 := g4 h3
      obtain ⟨bp, o, rfl, _⟩ := hs1.addr (by omega)
      obtain ⟨q1, q2, q3⟩ := hs1.len
      conv => whnf
      rcases (by omega : j = 0 ∨ j = 1 ∨ j = 2) with rfl | rfl | rfl
      · obtain rfl : vs = [] := List.length_eq_zero_iff.1 hvs
        dsimp only [arr3] at hL
        repeat (first | (refine RunH ?_; intro w hL hB; try clear w) | (refine Both.mk ?_ ?_ <;> conv => whnf) | fail)
        intro o1 ho1
        obtain rfl : o1 = 0 := by omega
        conv => whnf
        repeat (first | (refine RunH ?_; intro w hL hB; try clear w) | (refine Both.mk ?_ ?_ <;> conv => whnf) | fail)
        intro o2 n2 c2 p5 p6 p7 p8
        conv => whnf
        repeat (first | (refine RunH ?_; intro w hL hB; try clear w) | (refine Both.mk ?_ ?_ <;> conv => whnf) | fail)
        refine ⟨(1, [y1], rs.drop y2, _), ⟨rfl, rfl, rfl, rfl, rfl, rfl, trivial⟩, ⟨by omega, rfl, by simpa using g1, hnums, ?_, hB, hL⟩, by simp⟩
        rw [bv_drop]
        exact hs1.drop (k := y2) (by rw [bv_length]; omega) (fun h => by have := p5 (by omega); omega) (by omega) (by omega)
      · obtain ⟨e1, rfl⟩ := List.length_eq_one_iff.1 hvs
        dsimp only [arr3] at hL
        repeat (first | (refine RunH ?_; intro w hL hB; try clear w) | (refine Both.mk ?_ ?_ <;> conv => whnf) | fail)
        intro o1 ho1
        obtain rfl : o1 = 1 := by omega
        conv => whnf
        repeat (first | (refine RunH ?_; intro w hL hB; try clear w) | (refine Both.mk ?_ ?_ <;> conv => whnf) | fail)
        intro o2 n2 c2 p5 p6 p7 p8
        conv => whnf
        repeat (first | (refine RunH ?_; intro w hL hB; try clear w) | (refine Both.mk ?_ ?_ <;> conv => whnf) | fail)
        refine ⟨(2, [e1, y1], rs.drop y2, _), ⟨rfl, rfl, rfl, rfl, rfl, rfl, trivial⟩, ⟨by omega, rfl, by simp only [List.mem_cons, List.not_mem_nil, or_false, forall_eq_or_imp, forall_eq] at hvl ⊢; exact ⟨hvl, g1⟩, hnums, ?_, hB, hL⟩, by simp⟩
        rw [bv_drop]
        exact hs1.drop (k := y2) (by rw [bv_length]; omega) (fun h => by have := p5 (by omega); omega) (by omega) (by omega)
      · obtain ⟨e1, e2, rfl⟩ : ∃ a b, vs = [a, b] := by
          match vs, hvs with
          | [a, b], _ => exact ⟨a, b, rfl⟩
        dsimp only [arr3] at hL
        repeat (first | (refine RunH ?_; intro w hL hB; try clear w) | (refine Both.mk ?_ ?_ <;> conv => whnf) | fail)
        intro o1 ho1
        obtain rfl : o1 = 2 := by omega
        conv => whnf
        repeat (first | (refine RunH ?_; intro w hL hB; try clear w) | (refine Both.mk ?_ ?_ <;> conv => whnf) | fail)
        intro o2 n2 c2 p5 p6 p7 p8
        conv => whnf
        repeat (first | (refine RunH ?_; intro w hL hB; try clear w) | (refine Both.mk ?_ ?_ <;> conv => whnf) | fail)
        refine ⟨(3, [e1, e2, y1], rs.drop y2, _), ⟨rfl, rfl, rfl, rfl, rfl, rfl, trivial⟩, ⟨by omega, rfl, by simp only [List.mem_cons, List.not_mem_nil, or_false, forall_eq_or_imp, forall_eq] at hvl ⊢; exact ⟨hvl.1, hvl.2, g1⟩, hnums, ?_, hB, hL⟩, by simp⟩
        rw [bv_drop]
        exact hs1.drop (k := y2) (by rw [bv_length]; omega) (fun h => by have := p5 (by omega); omega) (by omega) (by omega)
    · obtain rfl : j = 3 := by omega
      obtain ⟨v1, v2, v3, rfl⟩ : ∃ a b c, vs = [a, b, c] := by
        match vs, hvs with
        | [a, b, c], _ => exact ⟨a, b, c, rfl⟩
      dsimp only [arr3] at hL
      have hplc := plc1_some hnums
      simp only [List.mem_cons, List.not_mem_nil, or_false, forall_eq_or_imp, forall_eq] at hvl
      obtain ⟨l1, l2, l3⟩ := hvl
      have bad : plc1 rest = none → plcs cnt r1 [] = none := fun h => by rw [hplcs, plcs, h]
      by_cases h5 : rs.length < 5
      · have hn : tail5 v1 v2 v3 rs = none := by
          match rs, h5 with
          | [], _ => rfl
          | [_], _ => rfl
          | [_, _], _ => rfl
          | [_, _, _], _ => rfl
          | [_, _, _, _], _ => rfl
        have hpn := bad (by rw [hplc, hn]; split <;> rfl)
        repeat (first | (refine RunK ?_; intro w hL hB; try clear w) | (refine V.quiet ttOk (fun x => x = World.drew _) mixed (by kernel_rfl) rfl ?_; replace hL := hL.drew; conv => whnf) | (refine V.tailA ttOk mixed (by decide +kernel) ?_; replace hL := hL.drew; conv => whnf) | (refine Both.mk ?_ ?_ <;> conv => whnf) | (intro w9 hw9; subst hw9; conv => whnf) | fail)
        exact ⟨⟨_, by rw [idxS_none he hnum' hpn]; rfl, by rw [idxS_none he hnum' hpn]; exact SlN.nil _ _⟩, b1.trans (hL.below.mono b1.size)⟩
      obtain ⟨b0, b1', b2', b3', d', r, rfl⟩ : ∃ b0 b1 b2 b3 d r, rs = b0 :: b1 :: b2 :: b3 :: d :: r := by
        match rs, h5 with
        | b0 :: b1 :: b2 :: b3 :: d :: r, _ => exact ⟨_, _, _, _, _, _, rfl⟩
        | [], h => simp at h
        | [_], h => simp at h
        | [_, _], h => simp at h
        | [_, _, _], h => simp at h
        | [_, _, _, _], h => simp at h
      obtain ⟨bp, o, rfl, _⟩ := hs1.addr (by simp)
      obtain ⟨q1, q2, q3⟩ := hs1.len
      have hrw : ∀ {w : World}, Below w1.heap.size w1 w → Row w bp o (bv (b0 :: b1' :: b2' :: b3' :: d' :: r)) := fun h => (hs1.below h).rowOf'
      have hdd : decide (d'.toNat = 1) = decide ((d'.toNat : Int) = 1) := decide_eq_decide.2 (by omega)
      by_cases hd' : 1 < d'.toNat
      · have hpn := bad (by rw [hplc, show tail5 v1 v2 v3 (b0 :: b1' :: b2' :: b3' :: d' :: r) = none from if_pos hd']; split <;> rfl)
        repeat (first | (refine RunK ?_; intro w hL hB; try clear w) | (refine V.quiet ttOk (fun x => x = World.drew _) mixed (by kernel_rfl) rfl ?_; replace hL := hL.drew; conv => whnf) | (refine V.tailA ttOk mixed (by decide +kernel) ?_; replace hL := hL.drew; conv => whnf) | (refine Both.mk ?_ ?_ <;> conv => whnf) | (intro w9 hw9; subst hw9; conv => whnf) | (intro o9 ho9; refine (fun (hq : o9 = 0) => ?_) (by omega); subst hq; conv => whnf) | (intro o9 ho9; refine (fun (hq : o9 = 1) => ?_) (by omega); subst hq; conv => whnf) | (intro o9 ho9; refine (fun (hq : o9 = 2) => ?_) (by omega); subst hq; conv => whnf) | (intro o9 ho9; conv => whnf) | (refine Lq.of_row (Ld.row1 ttOk (hrw hL.below) rfl rfl (k := 4) (v := u8 d') rfl (by omega) rfl) ?_; conv => whnf) | (refine Ld.row1 ttOk (hrw hL.below) rfl rfl (k := 4) (v := u8 d') rfl (by omega) ?_; conv => whnf) | fail)
        exact ⟨⟨_, by rw [idxS_none he hnum' hpn]; rfl, by rw [idxS_none he hnum' hpn]; exact SlN.nil _ _⟩, b1.trans (hL.below.mono b1.size)⟩
      by_cases h2m : v2 ≤ 4194304
      case neg =>
        have hpn := bad (by rw [hplc, if_neg (fun h => h2m h.1)])
        repeat (first | (refine RunK ?_; intro w hL hB; try clear w) | (refine V.quiet ttOk (fun x => x = World.drew _) mixed (by kernel_rfl) rfl ?_; replace hL := hL.drew; conv => whnf) | (refine V.tailA ttOk mixed (by decide +kernel) ?_; replace hL := hL.drew; conv => whnf) | (refine Both.mk ?_ ?_ <;> conv => whnf) | (intro w9 hw9; subst hw9; conv => whnf) | (intro o9 ho9; refine (fun (hq : o9 = 0) => ?_) (by omega); subst hq; conv => whnf) | (intro o9 ho9; refine (fun (hq : o9 = 1) => ?_) (by omega); subst hq; conv => whnf) | (intro o9 ho9; refine (fun (hq : o9 = 2) => ?_) (by omega); subst hq; conv => whnf) | (intro o9 ho9; conv => whnf) | (refine Lq.of_row (Ld.row1 ttOk (hrw hL.below) rfl rfl (k := 4) (v := u8 d') rfl (by omega) rfl) ?_; conv => whnf) | (refine Ld.row1 ttOk (hrw hL.below) rfl rfl (k := 4) (v := u8 d') rfl (by omega) ?_; conv => whnf) | fail)
        exact ⟨⟨_, by rw [idxS_none he hnum' hpn]; rfl, by rw [idxS_none he hnum' hpn]; exact SlN.nil _ _⟩, b1.trans (hL.below.mono b1.size)⟩
      by_cases h3m : v3 ≤ 4194304
      case neg =>
        have hpn := bad (by rw [hplc, if_neg (fun h => h3m h.2)])
        repeat (first | (refine RunK ?_; intro w hL hB; try clear w) | (refine V.quiet ttOk (fun x => x = World.drew _) mixed (by kernel_rfl) rfl ?_; replace hL := hL.drew; conv => whnf) | (refine V.tailA ttOk mixed (by decide +kernel) ?_; replace hL := hL.drew; conv => whnf) | (refine Both.mk ?_ ?_ <;> conv => whnf) | (intro w9 hw9; subst hw9; conv => whnf) | (intro o9 ho9; refine (fun (hq : o9 = 0) => ?_) (by omega); subst hq; conv => whnf) | (intro o9 ho9; refine (fun (hq : o9 = 1) => ?_) (by omega); subst hq; conv => whnf) | (intro o9 ho9; refine (fun (hq : o9 = 2) => ?_) (by omega); subst hq; conv => whnf) | (intro o9 ho9; conv => whnf) | (refine Lq.of_row (Ld.row1 ttOk (hrw hL.below) rfl rfl (k := 4) (v := u8 d') rfl (by omega) rfl) ?_; conv => whnf) | (refine Ld.row1 ttOk (hrw hL.below) rfl rfl (k := 4) (v := u8 d') rfl (by omega) ?_; conv => whnf) | fail)
        exact ⟨⟨_, by rw [idxS_none he hnum' hpn]; rfl, by rw [idxS_none he hnum' hpn]; exact SlN.nil _ _⟩, b1.trans (hL.below.mono b1.size)⟩
      rw [if_pos ⟨h2m, h3m⟩, show tail5 v1 v2 v3 (b0 :: b1' :: b2' :: b3' :: d' :: r) = some (⟨v1, v2, v3, ofB [b0, b1', b2', b3'], decide (d'.toNat = 1)⟩, r) from if_neg hd'] at hplc
      generalize hp : (⟨v1, v2, v3, ofB [b0, b1', b2', b3'], decide (d'.toNat = 1)⟩ : Plc) = p at *
      rw [plcs, hplc] at hplcs
      dsimp only at hplcs
      by_cases hk0 : k = 0
      · subst hk0
        obtain rfl : acc = [] := List.length_eq_zero_iff.1 hacc
        rw [if_pos (by rfl)] at hplcs
        repeat (first | (refine RunK ?_; intro w hL hB; try clear w) | (refine V.treeP ttOk hL 1 (.q 0 (.q 1 (.q 2 (.q 3 (.q 4 (.q 5 (.q 6 (.q 7 (.q 8 (.q 9 (.q 11 (.q 12 (.q 13 (.q 14 (.alt 10 (.q 15 (.alt 16 (.alt 17 (.q 18 .nil) .stop) .stop)) .stop))))))))))))))) mixed (by decide +kernel) ?_; replace hL := hL.drew; conv => whnf) | (refine V.quiet ttOk (fun x => x = World.drew _) mixed (by kernel_rfl) rfl ?_; replace hL := hL.drew; conv => whnf) | (refine V.tailA ttOk mixed (by decide +kernel) ?_; replace hL := hL.drew; conv => whnf) | (refine Both.mk ?_ ?_ <;> conv => whnf) | (intro w9 hw9; subst hw9; conv => whnf) | (intro o9 ho9; refine (fun (hq : o9 = 0) => ?_) (by omega); subst hq; conv => whnf) | (intro o9 ho9; refine (fun (hq : o9 = 1) => ?_) (by omega); subst hq; conv => whnf) | (intro o9 ho9; refine (fun (hq : o9 = 2) => ?_) (by omega); subst hq; conv => whnf) | (intro o9 ho9; conv => whnf) | (refine Lq.of_row (Ld.row1 ttOk (hrw hL.below) rfl rfl (k := 4) (v := u8 d') rfl (by omega) rfl) ?_; conv => whnf) | (refine Ld.row1 ttOk (hrw hL.below) rfl rfl (k := 4) (v := u8 d') rfl (by omega) ?_; conv => whnf) | (refine Lq.of_class (fun w' hw' => Ld.row1 ttOk (hrw hw'.below) rfl rfl (k := 4) (v := u8 d') rfl (by omega) rfl) ?_; conv => whnf) | fail)
        refine (get32R_fn _ _ (by simp) _ (hs1.below hL.below)).mono fun r' w ⟨hw, hr⟩ => ?_
        subst hr; subst hw
        replace hL := hL.drew
        conv => whnf
        repeat (first | (refine RunH ?_; intro w hL hB; try clear w) | (refine Both.mk ?_ ?_ <;> conv => whnf) | fail)
        refine Rv.buildS (len := 1) (vs := [.agg (plC p).toArray]) ttOk hL tl45 tl56 (by rw [← hp, hdd]; rfl) rfl (by intro u hu; simp only [List.mem_singleton] at hu; subst hu; rfl) (by decide) (by decide) hB fun bo w hL hB => ?_
        conv => whnf
        repeat (first | (refine RunH ?_; intro w hL hB; try clear w) | (refine Both.mk ?_ ?_ <;> conv => whnf) | (refine And.intro (hL.tl.pop 1) ?_; conv => whnf) | fail)
        refine Rv.appendS ttOk hL tl45 tl56 rfl (by decide) 2 rfl (hL.rowN (i := 0) rfl) (by intro u hu; exact plC_one [p] u (by simpa [cellsL] using hu)) (by simp only [maxLen]; omega) (by omega) hB fun vo w hL hB => ?_
        dsimp only [List.set] at hL
        conv => whnf
        repeat (first | (refine RunH ?_; intro w hL hB; try clear w) | (refine Both.mk ?_ ?_ <;> conv => whnf) | (refine And.intro (hL.tl.pop 1) ?_; conv => whnf) | fail)
        intro o10 n10 c10 p11 p12 p13 p14
        conv => whnf
        repeat (first | (refine RunH ?_; intro w hL hB; try clear w) | (refine Both.mk ?_ ?_ <;> conv => whnf) | fail)
        refine ⟨(0 + 1, vo, [] ++ [p], r, _), ⟨rfl, rfl, rfl, rfl, trivial⟩, ⟨by dsimp only; omega, rfl, ?_, ?_, hB, ?_⟩, (by first | omega | (dsimp only; omega))⟩
        · dsimp only
          rw [hplcs, show cnt - (0 + 1) = d by omega]
        · exact hs1.drop (k := 5) (by simp) (fun h => by have := p11 (by omega); omega) (by omega) (by omega)
        · have e : List.flatMap plC [] ++ List.flatMap cellsL [Value.agg (plC p).toArray] = List.flatMap plC ([] ++ [p]) := by simp [cellsL]
          rw [e] at hL
          exact hL.tl.tl
      · obtain ⟨bb, o2, rfl, _⟩ := (show SlN _ 5 (.slice la k lc) k _ from hL.rowN (i := 1) rfl).addr (by omega)
        obtain ⟨A, q, rfl⟩ : ∃ A q, acc = A ++ [q] := ⟨acc.dropLast, acc.getLast (by rintro rfl; exact hk0 hacc.symm), (List.dropLast_concat_getLast _).symm⟩
        have hAl : A.length + 1 = k := by simpa using hacc
        have hq : (A ++ [q])[A.length]? = some q := by simp
        have hri : rises (A ++ [q]) p = decide (q.key < p.key) := by simp [rises]
        rw [hri] at hplcs
        by_cases hqp : q.key < p.key
        · rw [if_pos (decide_eq_true hqp)] at hplcs
          rw [← hp] at hqp
          dsimp only at hqp
          repeat (first | (refine RunK ?_; intro w hL hB; try clear w) | (refine V.treeP ttOk hL 1 (.q 0 (.q 1 (.q 2 (.q 3 (.q 4 (.q 5 (.q 6 (.q 7 (.q 8 (.q 9 (.q 11 (.q 12 (.q 13 (.q 14 (.alt 10 (.q 15 (.alt 16 (.alt 17 (.q 18 .nil) .stop) .stop)) .stop))))))))))))))) mixed (by decide +kernel) ?_; replace hL := hL.drew; conv => whnf) | (refine V.quiet ttOk (fun x => x = World.drew _) mixed (by kernel_rfl) rfl ?_; replace hL := hL.drew; conv => whnf) | (refine V.tailA ttOk mixed (by decide +kernel) ?_; replace hL := hL.drew; conv => whnf) | (refine Both.mk ?_ ?_ <;> conv => whnf) | (intro w9 hw9; subst hw9; conv => whnf) | (intro o9 ho9; refine (fun (hq : o9 = 0) => ?_) (by omega); subst hq; conv => whnf) | (intro o9 ho9; refine (fun (hq : o9 = 1) => ?_) (by omega); subst hq; conv => whnf) | (intro o9 ho9; refine (fun (hq : o9 = 2) => ?_) (by omega); subst hq; conv => whnf) | (intro o9 ho9; conv => whnf) | (refine Lq.of_row (Ld.row1 ttOk (hrw hL.below) rfl rfl (k := 4) (v := u8 d') rfl (by omega) rfl) ?_; conv => whnf) | (refine Ld.row1 ttOk (hrw hL.below) rfl rfl (k := 4) (v := u8 d') rfl (by omega) ?_; conv => whnf) | (refine Lq.of_class (fun w' hw' => Ld.row1 ttOk (hrw hw'.below) rfl rfl (k := 4) (v := u8 d') rfl (by omega) rfl) ?_; conv => whnf) | (refine Lq.of_row (Ld.rowF ttOk plC_len (ss := A ++ [q]) (k := A.length) (s := q) 0 (show SlN w.drew 5 (.slice (some ⟨bb, o2, none⟩) k lc) k ((A ++ [q]).flatMap plC) from hL.rowN (i := 1) rfl).rowOf rfl rfl hq rfl (by omega) rfl) ?_; conv => whnf) | fail)
          refine (get32R_fn _ _ (by simp) _ (hs1.below hL.below)).mono fun r' w ⟨hw, hr⟩ => ?_
          subst hr; subst hw
          replace hL := hL.drew
          conv => whnf
          repeat (first | (refine RunH ?_; intro w hL hB; try clear w) | (refine Both.mk ?_ ?_ <;> conv => whnf) | fail)
          refine Rv.buildS (len := 1) (vs := [.agg (plC p).toArray]) ttOk hL tl45 tl56 (by rw [← hp, hdd]; rfl) rfl (by intro u hu; simp only [List.mem_singleton] at hu; subst hu; rfl) (by decide) (by decide) hB fun bo w hL hB => ?_
          conv => whnf
          repeat (first | (refine RunH ?_; intro w hL hB; try clear w) | (refine Both.mk ?_ ?_ <;> conv => whnf) | (refine And.intro (hL.tl.pop 1) ?_; conv => whnf) | fail)
          refine Rv.appendS ttOk hL tl45 tl56 rfl (by decide) 2 rfl (hL.rowN (i := 0) rfl) (by intro u hu; exact plC_one [p] u (by simpa [cellsL] using hu)) (by simp only [maxLen]; omega) (by omega) hB fun vo w hL hB => ?_
          dsimp only [List.set] at hL
          conv => whnf
          repeat (first | (refine RunH ?_; intro w hL hB; try clear w) | (refine Both.mk ?_ ?_ <;> conv => whnf) | (refine And.intro (hL.tl.pop 1) ?_; conv => whnf) | fail)
          intro o10 n10 c10 p11 p12 p13 p14
          conv => whnf
          repeat (first | (refine RunH ?_; intro w hL hB; try clear w) | (refine Both.mk ?_ ?_ <;> conv => whnf) | fail)
          refine ⟨(k + 1, vo, (A ++ [q]) ++ [p], r, _), ⟨rfl, vint (by push_cast; omega), rfl, rfl, trivial⟩, ⟨by dsimp only; omega, by simpa using hacc, ?_, ?_, hB, ?_⟩, (by first | omega | (dsimp only; omega))⟩
          · dsimp only
            rw [hplcs, show cnt - (k + 1) = d by omega]
          · exact hs1.drop (k := 5) (by simp) (fun h => by have := p11 (by omega); omega) (by omega) (by omega)
          · have e : List.flatMap plC (A ++ [q]) ++ List.flatMap cellsL [Value.agg (plC p).toArray] = List.flatMap plC ((A ++ [q]) ++ [p]) := by simp [cellsL]
            rw [e] at hL
            exact hL.tl.tl
        · have hpn : plcs cnt r1 [] = none := by rw [hplcs, if_neg (by simpa using hqp)]
          rw [← hp] at hqp
          dsimp only at hqp
          repeat (first | (refine RunK ?_; intro w hL hB; try clear w) | (refine V.treeP ttOk hL 1 (.q 0 (.q 1 (.q 2 (.q 3 (.q 4 (.q 5 (.q 6 (.q 7 (.q 8 (.q 9 (.q 11 (.q 12 (.q 13 (.q 14 (.alt 10 (.q 15 (.alt 16 (.alt 17 (.q 18 .nil) .stop) .stop)) .stop))))))))))))))) mixed (by decide +kernel) ?_; replace hL := hL.drew; conv => whnf) | (refine V.quiet ttOk (fun x => x = World.drew _) mixed (by kernel_rfl) rfl ?_; replace hL := hL.drew; conv => whnf) | (refine V.tailA ttOk mixed (by decide +kernel) ?_; replace hL := hL.drew; conv => whnf) | (refine Both.mk ?_ ?_ <;> conv => whnf) | (intro w9 hw9; subst hw9; conv => whnf) | (intro o9 ho9; refine (fun (hq : o9 = 0) => ?_) (by omega); subst hq; conv => whnf) | (intro o9 ho9; refine (fun (hq : o9 = 1) => ?_) (by omega); subst hq; conv => whnf) | (intro o9 ho9; refine (fun (hq : o9 = 2) => ?_) (by omega); subst hq; conv => whnf) | (intro o9 ho9; conv => whnf) | (refine Lq.of_row (Ld.row1 ttOk (hrw hL.below) rfl rfl (k := 4) (v := u8 d') rfl (by omega) rfl) ?_; conv => whnf) | (refine Ld.row1 ttOk (hrw hL.below) rfl rfl (k := 4) (v := u8 d') rfl (by omega) ?_; conv => whnf) | (refine Lq.of_class (fun w' hw' => Ld.row1 ttOk (hrw hw'.below) rfl rfl (k := 4) (v := u8 d') rfl (by omega) rfl) ?_; conv => whnf) | (refine Lq.of_row (Ld.rowF ttOk plC_len (ss := A ++ [q]) (k := A.length) (s := q) 0 (show SlN w.drew 5 (.slice (some ⟨bb, o2, none⟩) k lc) k ((A ++ [q]).flatMap plC) from hL.rowN (i := 1) rfl).rowOf rfl rfl hq rfl (by omega) rfl) ?_; conv => whnf) | fail)
          exact ⟨⟨_, by rw [idxS_none he hnum' hpn]; rfl, by rw [idxS_none he hnum' hpn]; exact SlN.nil _ _⟩, b1.trans (hL.below.mono b1.size)⟩
  · obtain rfl : k = cnt := by omega
    have hpn : plcs k r1 [] = some (acc, rest) := by rw [hplcs, Nat.sub_self]; rfl
    have hix := idxS_some he hnum' hpn
    have hl0 : rest = [] ↔ rest.length = 0 := List.length_eq_zero_iff.symm
    obtain ⟨sa, sc, rfl⟩ := hs1.shape
    simp only [bv_length] at *
    by_cases hr0 : rest.length = 0
    · rw [if_pos ⟨hl0.2 hr0, hn⟩] at hix
      repeat (first | (refine RunH ?_; intro w hL hB; try clear w) | (refine Both.mk ?_ ?_ <;> conv => whnf) | fail)
      exact ⟨⟨_, by rw [hix]; rfl, by rw [hix, hacc]; exact hL.rowN (i := 0) rfl⟩, b1.trans (hL.below.mono b1.size)⟩
    · rw [if_neg (fun h => hr0 (hl0.1 h.1))] at hix
      repeat (first | (refine RunH ?_; intro w hL hB; try clear w) | (refine Both.mk ?_ ?_ <;> conv => whnf) | fail)
      exact ⟨⟨_, by rw [hix]; rfl, by rw [hix]; exact SlN.nil _ _⟩, b1.trans (hL.below.mono b1.size)⟩
end Go.Proofs.Ytlldgodjfpgbcaa
