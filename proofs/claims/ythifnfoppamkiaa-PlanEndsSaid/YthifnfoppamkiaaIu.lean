/- Plan: the code's rules 'full' and 'strips'. Nothing is claimed here. -/
import Derived.Test.YthifnfoppamkiaaIt
namespace Go.Proofs.Ythifnfoppamkiaa
open Go.RowKit
set_option linter.unusedVariables false
set_option linter.unusedSimpArgs false
set_option maxRecDepth 100000

theorem own_cut {w : World} {base g n c k : Nat} {e : TypeId} {xs : List Value} (h : w.ownsRow base e 1 (.slice (some ⟨g, 0, none⟩) n c) n xs) (hk : k ≤ n) : w.ownsRow base e 1 (.slice (some ⟨g, 0, none⟩) k c) k (xs.take k) := by
  obtain ⟨h1, h2⟩ := h
  rcases h2 with ⟨e, _⟩ | ⟨g', cap, cur, e, h3, h4, h5, h6, h7, h8⟩
  · cases e
  · injection e with e1 e2 e3
    injection e1 with e1
    injection e1 with e1
    subst e1; subst e3
    rw [Nat.mul_one] at h1 h7 h8
    refine ⟨by rw [List.length_take]; omega, .inr ⟨g, c, cur, rfl, h3, h4, by omega, h6, by omega, ?_⟩⟩
    rw [← h8, List.take_take, Nat.mul_one, Nat.min_eq_left hk]
set_option maxHeartbeats 8000000 in
theorem full_fn (p : PV × Value) (i : Nat) (bw : Nat) (vs lv sv : Value) (l : List PV) (c : PC) (live : List Bool) (ss : List Int) (w0 : World) (hC : Blk w0 bw (wdC vs lv (loadS l) sv c) 55) (hl : SlE w0 lv (boolC live)) (hs : SlE w0 sv (numC ss))
    (hn : SlE w0 p.2 (numC p.1.ns)) (ht : p.1.ns.length ≤ 40) :
    Fn Try.prog 22 #[.pointer (some ⟨bw, 0, none⟩), .int .i64 i, pvV p] w0 fun r w' => ActS w0 (fullS live ss c i p.1) r w' := by
  obtain ⟨v, nv⟩ := p
  dsimp only at hn ht
  obtain ⟨na, nc, hnv⟩ := hn.shape
  rw [numC_len] at hnv
  subst hnv
  unfold pvV
  dsimp only
  have hL := Sep.start Try.prog w0
  have hB := Nat.le_refl w0.heap.size
  unfold fullS
  refine Fn.mk Try.func22 rfl (by kernel_rfl) Try.ntmps22 rfl (by rw [Try.results22]) ?_
  repeat (first | (refine RunH ?_; intro w hL hB; try clear w) | (refine Both.mk ?_ ?_ <;> conv => whnf) | fail)
  (refine Nw.sep hL hB (fun b5 w hL hB hb5 => ?_); conv => whnf)
  repeat (first | (refine RunH ?_; intro w hL hB; try clear w) | (refine Both.mk ?_ ?_ <;> conv => whnf) | fail)
  (refine Nw.sep hL hB (fun b6 w hL hB hb6 => ?_); conv => whnf)
  by_cases hs0 : v.st = 0
  case neg =>
    rw [if_pos (.inl hs0)]
    repeat (first | (refine RunK ?_; intro w hL hB; try clear w) | (refine V.treeA ttOk hL (.q 0 (.q 1 (.q 2 (.q 3 (.q 4 (.q 5 (.q 6 (.q 7 (.q 8 (.q 9 (.alt 10 (.q 11 (.q 12 (.q 13 (.q 14 (.q 15 (.q 17 (.q 18 (.q 19 (.q 20 (.q 21 (.alt 16 (.q 22 (.q 23 .nil)) .stop))))))))))) .stop))))))))))) mixed (by decide +kernel) ?_; replace hL := hL.drew; conv => whnf) | (refine V.tailA ttOk mixed (by decide +kernel) ?_; replace hL := hL.drew; conv => whnf) | (refine Both.mk ?_ ?_ <;> conv => whnf) | (intro w9 hw9; conv => whnf) | fail)
    exact ⟨rfl, hL.below⟩
  cases hz : v.fz
  case true =>
    rw [if_pos (.inr (.inl rfl))]
    repeat (first | (refine RunK ?_; intro w hL hB; try clear w) | (refine V.treeA ttOk hL (.q 0 (.q 1 (.q 2 (.q 3 (.q 4 (.q 5 (.q 6 (.q 7 (.q 8 (.q 9 (.alt 10 (.q 11 (.q 12 (.q 13 (.q 14 (.q 15 (.q 17 (.q 18 (.q 19 (.q 20 (.q 21 (.alt 16 (.q 22 (.q 23 .nil)) .stop))))))))))) .stop))))))))))) mixed (by decide +kernel) ?_; replace hL := hL.drew; conv => whnf) | (refine V.tailA ttOk mixed (by decide +kernel) ?_; replace hL := hL.drew; conv => whnf) | (refine Both.mk ?_ ?_ <;> conv => whnf) | (intro w9 hw9; conv => whnf) | fail)
    exact ⟨rfl, hL.below⟩
  by_cases hw : wholeS live v
  case neg =>
    rw [if_pos (.inr (.inr (.inl hw)))]
    repeat (first | (refine RunK ?_; intro w hL hB; try clear w) | (refine V.treeA ttOk hL (.q 0 (.q 1 (.q 2 (.q 3 (.q 4 (.q 5 (.q 6 (.q 7 (.q 8 (.q 9 (.alt 10 (.q 11 (.q 12 (.q 13 (.q 14 (.q 15 (.q 17 (.q 18 (.q 19 (.q 20 (.q 21 (.alt 16 (.q 22 (.q 23 .nil)) .stop))))))))))) .stop))))))))))) mixed (by decide +kernel) ?_; replace hL := hL.drew; conv => whnf) | (refine V.tailA ttOk mixed (by decide +kernel) ?_; replace hL := hL.drew; conv => whnf) | (refine Both.mk ?_ ?_ <;> conv => whnf) | (intro w9 hw9; conv => whnf) | (refine (whole_fn (v, .slice na v.ns.length nc) bw vs lv sv (loadS l) c live _ (hL.old rfl hC) (hl.below hL.below) (hn.below hL.below) (by dsimp only; omega)).mono fun r w hr => ?_; obtain ⟨hr, hw⟩ := hr; subst hr; replace hL := hL.call hB (Turns.of_below hw); replace hB := Nat.le_trans hB hw.size; conv => whnf) | (refine Br.dec_f hw ?_; conv => whnf) | fail)
    exact ⟨rfl, hL.below⟩
  by_cases hsz : sizeS ss i < c.lim
  · rw [if_pos (.inr (.inr (.inr hsz)))]
    repeat (first | (refine RunK ?_; intro w hL hB; try clear w) | (refine V.treeA ttOk hL (.q 0 (.q 1 (.q 2 (.q 3 (.q 4 (.q 5 (.q 6 (.q 7 (.q 8 (.q 9 (.alt 10 (.q 11 (.q 12 (.q 13 (.q 14 (.q 15 (.q 17 (.q 18 (.q 19 (.q 20 (.q 21 (.alt 16 (.q 22 (.q 23 .nil)) .stop))))))))))) .stop))))))))))) mixed (by decide +kernel) ?_; replace hL := hL.drew; conv => whnf) | (refine V.tailA ttOk mixed (by decide +kernel) ?_; replace hL := hL.drew; conv => whnf) | (refine Both.mk ?_ ?_ <;> conv => whnf) | (intro w9 hw9; conv => whnf) | (refine (whole_fn (v, .slice na v.ns.length nc) bw vs lv sv (loadS l) c live _ (hL.old rfl hC) (hl.below hL.below) (hn.below hL.below) (by dsimp only; omega)).mono fun r w hr => ?_; obtain ⟨hr, hw⟩ := hr; subst hr; replace hL := hL.call hB (Turns.of_below hw); replace hB := Nat.le_trans hB hw.size; conv => whnf) | (refine Br.dec_t hw ?_; conv => whnf) | (refine (size_fn bw vs lv sv (loadS l) c ss i _ (hL.old rfl hC) (hs.below hL.below)).mono fun r w1 hr => ?_; obtain ⟨hr, hw⟩ := hr; subst hr; subst hw; conv => whnf) | fail)
    exact ⟨rfl, hL.below⟩
  · rw [if_neg (by rintro (e | e | e | e) <;> first | exact e hs0 | exact e hw | exact hsz e | cases e)]
    repeat (first | (refine RunK ?_; intro w hL hB; try clear w) | (refine V.treeA ttOk hL (.q 0 (.q 1 (.q 2 (.q 3 (.q 4 (.q 5 (.q 6 (.q 7 (.q 8 (.q 9 (.alt 10 (.q 11 (.q 12 (.q 13 (.q 14 (.q 15 (.q 17 (.q 18 (.q 19 (.q 20 (.q 21 (.alt 16 (.q 22 (.q 23 .nil)) .stop))))))))))) .stop))))))))))) mixed (by decide +kernel) ?_; replace hL := hL.drew; conv => whnf) | (refine V.tailA ttOk mixed (by decide +kernel) ?_; replace hL := hL.drew; conv => whnf) | (refine Both.mk ?_ ?_ <;> conv => whnf) | (intro w9 hw9; conv => whnf) | (refine (whole_fn (v, .slice na v.ns.length nc) bw vs lv sv (loadS l) c live _ (hL.old rfl hC) (hl.below hL.below) (hn.below hL.below) (by dsimp only; omega)).mono fun r w hr => ?_; obtain ⟨hr, hw⟩ := hr; subst hr; replace hL := hL.call hB (Turns.of_below hw); replace hB := Nat.le_trans hB hw.size; conv => whnf) | (refine Br.dec_t hw ?_; conv => whnf) | (refine (size_fn bw vs lv sv (loadS l) c ss i _ (hL.old rfl hC) (hs.below hL.below)).mono fun r w1 hr => ?_; obtain ⟨hr, hw⟩ := hr; subst hr; subst hw; conv => whnf) | fail)
    repeat (first | (refine RunK ?_; intro w hL hB; try clear w) | (refine V.treeS ttOk hL 0 (b := b6) rfl (.q 0 (.q 1 (.q 3 (.q 4 (.alt 2 (.alt 5 (.q 6 (.alt 7 (.q 8 .nil) .stop)) .stop) .stop))))) mixed (by decide +kernel) ?_; replace hL := hL.drew; conv => whnf) | (refine V.treeS ttOk hL 1 (b := b6) rfl (.q 0 (.q 1 (.q 3 (.q 4 (.alt 2 (.alt 5 (.q 6 (.alt 7 (.q 8 .nil) .stop)) .stop) .stop))))) mixed (by decide +kernel) ?_; replace hL := hL.drew; conv => whnf) | (refine V.treeS ttOk hL 2 (b := b6) rfl (.q 0 (.q 1 (.q 3 (.q 4 (.alt 2 (.alt 5 (.q 6 (.alt 7 (.q 8 .nil) .stop)) .stop) .stop))))) mixed (by decide +kernel) ?_; replace hL := hL.drew; conv => whnf) | (refine V.treeS ttOk hL 3 (b := b6) rfl (.q 0 (.q 1 (.q 3 (.q 4 (.alt 2 (.alt 5 (.q 6 (.alt 7 (.q 8 .nil) .stop)) .stop) .stop))))) mixed (by decide +kernel) ?_; replace hL := hL.drew; conv => whnf) | (refine V.treeS ttOk hL 4 (b := b6) rfl (.q 0 (.q 1 (.q 3 (.q 4 (.alt 2 (.alt 5 (.q 6 (.alt 7 (.q 8 .nil) .stop)) .stop) .stop))))) mixed (by decide +kernel) ?_; replace hL := hL.drew; conv => whnf) | (refine V.tailA ttOk mixed (by decide +kernel) ?_; replace hL := hL.drew; conv => whnf) | (refine Both.mk ?_ ?_ <;> conv => whnf) | (intro w9 hw9; conv => whnf) | fail)
    (refine (cloneC_fn _ v.ns _ (hn.below hL.below) (by omega)).mono fun r w hr => ?_; obtain ⟨hown, hbl⟩ := hr; replace hL := hL.addRow hB hbl hown; replace hB := Nat.le_trans hB hbl.size; obtain ⟨da, dc, rfl⟩ := (hL.rowN (i := 0) rfl).shape; conv => whnf)
    repeat (first | (refine RunH ?_; intro w hL hB; try clear w) | (refine Both.mk ?_ ?_ <;> conv => whnf) | (intro w9 hw9; conv => whnf) | fail)
    (refine (cloneC_fn _ v.ns _ (hn.below hL.below) (by omega)).mono fun r w hr => ?_; obtain ⟨hown, hbl⟩ := hr; replace hL := hL.addRow hB hbl hown; replace hB := Nat.le_trans hB hbl.size; obtain ⟨ea, ec, rfl⟩ := (hL.rowN (i := 0) rfl).shape; conv => whnf)
    repeat (first | (refine RunH ?_; intro w hL hB; try clear w) | (refine Both.mk ?_ ?_ <;> conv => whnf) | (intro w9 hw9; conv => whnf) | fail)
    refine ActS.mk (kv := .slice da v.ns.length dc) (nv := .slice ea v.ns.length ec) rfl rfl ?_
    exact (hL.sub (L' := [.row 3 1 (.slice ea v.ns.length ec) v.ns.length (numC v.ns), .row 3 1 (.slice da v.ns.length dc) v.ns.length (numC v.ns)]) (.cons_cons _ (.cons_cons _ (List.nil_sublist _)))).perm (List.Perm.swap _ _ _)
set_option maxHeartbeats 8000000 in
theorem strips_fn (p : PV × Value) (i : Int) (bw : Nat) (vs lv sv : Value) (l : List PV) (c : PC) (live : List Bool) (w0 : World) (hC : Blk w0 bw (wdC vs lv (loadS l) sv c) 55) (hl : SlE w0 lv (boolC live))
    (hn : SlE w0 p.2 (numC p.1.ns)) (ht : p.1.ns.length ≤ 40) (hok : okC c) :
    Fn Try.prog 23 #[.pointer (some ⟨bw, 0, none⟩), .int .i64 i, pvV p] w0 fun r w' => ActS w0 (stripS l live c p.1) r w' := by
  obtain ⟨v, nv⟩ := p
  dsimp only at hn ht
  obtain ⟨na, nc, hnv⟩ := hn.shape
  rw [numC_len] at hnv
  subst hnv
  unfold pvV
  dsimp only
  obtain ⟨hc1, hc2, hc3, hc4, hc5, hc6⟩ := hok
  have hL := Sep.start Try.prog w0
  have hB := Nat.le_refl w0.heap.size
  have hf64 := freeS_le l live []
  unfold stripS
  refine Fn.mk Try.func23 rfl (by kernel_rfl) Try.ntmps23 rfl (by rw [Try.results23]) ?_
  repeat (first | (refine RunH ?_; intro w hL hB; try clear w) | (refine Both.mk ?_ ?_ <;> conv => whnf) | fail)
  (refine Nw.sep hL hB (fun b5 w hL hB hb5 => ?_); conv => whnf)
  repeat (first | (refine RunH ?_; intro w hL hB; try clear w) | (refine Both.mk ?_ ?_ <;> conv => whnf) | fail)
  (refine Nw.sep hL hB (fun b6 w hL hB hb6 => ?_); conv => whnf)
  repeat (first | (refine RunH ?_; intro w hL hB; try clear w) | (refine Both.mk ?_ ?_ <;> conv => whnf) | fail)
  (refine (free_fn bw vs lv sv (.slice none 0 0) l c live [] _ (hL.old rfl hC) (hl.below hL.below) (SlE.nil _)).mono fun r w hr => ?_; obtain ⟨hown, hbl⟩ := hr; replace hL := hL.addRow hB hbl hown; replace hB := Nat.le_trans hB hbl.size; obtain ⟨fa, fc, rfl⟩ := (hL.rowN (i := 0) rfl).shape; conv => whnf)
  generalize freeS l live [] = fr at *
  by_cases hs0 : v.st = 1
  case neg =>
    rw [if_pos (.inl hs0)]
    repeat (first | (refine RunK ?_; intro w hL hB; try clear w) | (refine V.treeA ttOk hL (.q 0 (.q 1 (.q 2 (.q 3 (.q 4 (.q 5 (.q 6 (.q 7 (.q 8 (.q 9 (.alt 10 (.q 11 (.q 12 (.q 13 (.q 14 (.q 15 (.q 16 (.q 17 (.q 18 (.q 19 (.q 20 (.q 21 (.q 22 (.q 23 (.q 24 (.q 25 (.q 26 (.q 27 (.q 28 .nil)))))))))))))))))) .stop))))))))))) mixed (by decide +kernel) ?_; replace hL := hL.drew; conv => whnf) | (refine V.tailA ttOk mixed (by decide +kernel) ?_; replace hL := hL.drew; conv => whnf) | (refine Both.mk ?_ ?_ <;> conv => whnf) | (intro w9 hw9; conv => whnf) | fail)
    exact ⟨rfl, hL.below⟩
  cases hz : v.fz
  case true =>
    rw [if_pos (.inr (.inl rfl))]
    repeat (first | (refine RunK ?_; intro w hL hB; try clear w) | (refine V.treeA ttOk hL (.q 0 (.q 1 (.q 2 (.q 3 (.q 4 (.q 5 (.q 6 (.q 7 (.q 8 (.q 9 (.alt 10 (.q 11 (.q 12 (.q 13 (.q 14 (.q 15 (.q 16 (.q 17 (.q 18 (.q 19 (.q 20 (.q 21 (.q 22 (.q 23 (.q 24 (.q 25 (.q 26 (.q 27 (.q 28 .nil)))))))))))))))))) .stop))))))))))) mixed (by decide +kernel) ?_; replace hL := hL.drew; conv => whnf) | (refine V.tailA ttOk mixed (by decide +kernel) ?_; replace hL := hL.drew; conv => whnf) | (refine Both.mk ?_ ?_ <;> conv => whnf) | (intro w9 hw9; conv => whnf) | fail)
    exact ⟨rfl, hL.below⟩
  by_cases hw : wholeS live v
  case neg =>
    rw [if_pos (.inr (.inr (.inl hw)))]
    repeat (first | (refine RunK ?_; intro w hL hB; try clear w) | (refine V.treeA ttOk hL (.q 0 (.q 1 (.q 2 (.q 3 (.q 4 (.q 5 (.q 6 (.q 7 (.q 8 (.q 9 (.alt 10 (.q 11 (.q 12 (.q 13 (.q 14 (.q 15 (.q 16 (.q 17 (.q 18 (.q 19 (.q 20 (.q 21 (.q 22 (.q 23 (.q 24 (.q 25 (.q 26 (.q 27 (.q 28 .nil)))))))))))))))))) .stop))))))))))) mixed (by decide +kernel) ?_; replace hL := hL.drew; conv => whnf) | (refine V.tailA ttOk mixed (by decide +kernel) ?_; replace hL := hL.drew; conv => whnf) | (refine Both.mk ?_ ?_ <;> conv => whnf) | (intro w9 hw9; conv => whnf) | (refine (whole_fn (v, .slice na v.ns.length nc) bw vs lv sv (loadS l) c live _ (hL.old rfl hC) (hl.below hL.below) (hn.below hL.below) (by dsimp only; omega)).mono fun r w hr => ?_; obtain ⟨hr, hw⟩ := hr; subst hr; replace hL := hL.call hB (Turns.of_below hw); replace hB := Nat.le_trans hB hw.size; conv => whnf) | (refine Br.dec_f hw ?_; conv => whnf) | fail)
    exact ⟨rfl, hL.below⟩
  by_cases hsz : (fr.length : Int) < c.k + c.m
  · rw [if_pos (.inr (.inr (.inr hsz)))]
    repeat (first | (refine RunK ?_; intro w hL hB; try clear w) | (refine V.treeA ttOk hL (.q 0 (.q 1 (.q 2 (.q 3 (.q 4 (.q 5 (.q 6 (.q 7 (.q 8 (.q 9 (.alt 10 (.q 11 (.q 12 (.q 13 (.q 14 (.q 15 (.q 16 (.q 17 (.q 18 (.q 19 (.q 20 (.q 21 (.q 22 (.q 23 (.q 24 (.q 25 (.q 26 (.q 27 (.q 28 .nil)))))))))))))))))) .stop))))))))))) mixed (by decide +kernel) ?_; replace hL := hL.drew; conv => whnf) | (refine V.tailA ttOk mixed (by decide +kernel) ?_; replace hL := hL.drew; conv => whnf) | (refine Both.mk ?_ ?_ <;> conv => whnf) | (intro w9 hw9; conv => whnf) | (refine (whole_fn (v, .slice na v.ns.length nc) bw vs lv sv (loadS l) c live _ (hL.old rfl hC) (hl.below hL.below) (hn.below hL.below) (by dsimp only; omega)).mono fun r w hr => ?_; obtain ⟨hr, hw⟩ := hr; subst hr; replace hL := hL.call hB (Turns.of_below hw); replace hB := Nat.le_trans hB hw.size; conv => whnf) | (refine Br.dec_t hw ?_; conv => whnf) | fail)
    exact ⟨rfl, hL.below⟩
  · rw [if_neg (by rintro (e | e | e | e) <;> first | exact e hs0 | exact e hw | exact hsz e | cases e)]
    obtain ⟨⟨fb, rfl⟩, hfc⟩ := own_addr (hL.at (i := 0) rfl) (by omega)
    obtain ⟨q, hq⟩ := Int.eq_ofNat_of_zero_le (show 0 ≤ c.k + c.m by omega)
    have htl : (fr.take q).length = q := by rw [List.length_take]; omega
    have hfm : fc ≤ maxLen := by
      rcases own_shape (hL.at (i := 0) rfl) with ⟨e, h0⟩ | ⟨g, c9, e, h1, h2⟩
      · omega
      · injection e with e1 e2 e3; omega
    rw [hq, Int.toNat_natCast]
    repeat (first | (refine RunK ?_; intro w hL hB; try clear w) | (refine V.treeA ttOk hL (.q 0 (.q 1 (.q 2 (.q 3 (.q 4 (.q 5 (.q 6 (.q 7 (.q 8 (.q 9 (.alt 10 (.q 11 (.q 12 (.q 13 (.q 14 (.q 15 (.q 16 (.q 17 (.q 18 (.q 19 (.q 20 (.q 21 (.q 22 (.q 23 (.q 24 (.q 25 (.q 26 (.q 27 (.q 28 .nil)))))))))))))))))) .stop))))))))))) mixed (by decide +kernel) ?_; replace hL := hL.drew; conv => whnf) | (refine V.tailA ttOk mixed (by decide +kernel) ?_; replace hL := hL.drew; conv => whnf) | (refine Both.mk ?_ ?_ <;> conv => whnf) | (intro w9 hw9; conv => whnf) | (refine (whole_fn (v, .slice na v.ns.length nc) bw vs lv sv (loadS l) c live _ (hL.old rfl hC) (hl.below hL.below) (hn.below hL.below) (by dsimp only; omega)).mono fun r w hr => ?_; obtain ⟨hr, hw⟩ := hr; subst hr; replace hL := hL.call hB (Turns.of_below hw); replace hB := Nat.le_trans hB hw.size; conv => whnf) | (refine Br.dec_t hw ?_; conv => whnf) | fail)
    repeat (first | (refine RunK ?_; intro w hL hB; try clear w) | (refine V.treeS ttOk hL 0 (b := b6) rfl (.q 0 (.q 1 (.q 3 (.q 4 (.q 5 (.q 6 (.q 7 (.q 8 (.q 9 (.q 10 (.q 11 (.q 12 (.q 13 (.q 14 (.q 15 (.alt 2 (.q 16 (.alt 17 (.q 18 .nil) .stop)) .stop)))))))))))))))) mixed (by decide +kernel) ?_; replace hL := hL.drew; conv => whnf) | (refine V.treeS ttOk hL 1 (b := b6) rfl (.q 0 (.q 1 (.q 3 (.q 4 (.q 5 (.q 6 (.q 7 (.q 8 (.q 9 (.q 10 (.q 11 (.q 12 (.q 13 (.q 14 (.q 15 (.alt 2 (.q 16 (.alt 17 (.q 18 .nil) .stop)) .stop)))))))))))))))) mixed (by decide +kernel) ?_; replace hL := hL.drew; conv => whnf) | (refine V.treeS ttOk hL 2 (b := b6) rfl (.q 0 (.q 1 (.q 3 (.q 4 (.q 5 (.q 6 (.q 7 (.q 8 (.q 9 (.q 10 (.q 11 (.q 12 (.q 13 (.q 14 (.q 15 (.alt 2 (.q 16 (.alt 17 (.q 18 .nil) .stop)) .stop)))))))))))))))) mixed (by decide +kernel) ?_; replace hL := hL.drew; conv => whnf) | (refine V.treeS ttOk hL 3 (b := b6) rfl (.q 0 (.q 1 (.q 3 (.q 4 (.q 5 (.q 6 (.q 7 (.q 8 (.q 9 (.q 10 (.q 11 (.q 12 (.q 13 (.q 14 (.q 15 (.alt 2 (.q 16 (.alt 17 (.q 18 .nil) .stop)) .stop)))))))))))))))) mixed (by decide +kernel) ?_; replace hL := hL.drew; conv => whnf) | (refine V.treeS ttOk hL 4 (b := b6) rfl (.q 0 (.q 1 (.q 3 (.q 4 (.q 5 (.q 6 (.q 7 (.q 8 (.q 9 (.q 10 (.q 11 (.q 12 (.q 13 (.q 14 (.q 15 (.alt 2 (.q 16 (.alt 17 (.q 18 .nil) .stop)) .stop)))))))))))))))) mixed (by decide +kernel) ?_; replace hL := hL.drew; conv => whnf) | (refine V.tailA ttOk mixed (by decide +kernel) ?_; replace hL := hL.drew; conv => whnf) | (refine Both.mk ?_ ?_ <;> conv => whnf) | fail)
    intro n' c' q1 q2
    obtain rfl : q = n' := by omega
    obtain rfl : c' = fc := by omega
    conv => whnf
    repeat (first | (refine RunH ?_; intro w hL hB; try clear w) | (refine Both.mk ?_ ?_ <;> conv => whnf) | (intro w9 hw9; conv => whnf) | fail)
    (refine (cloneC_fn _ v.ns _ (hn.below hL.below) (by omega)).mono fun r w hr => ?_; obtain ⟨hown, hbl⟩ := hr; replace hL := hL.addRow hB hbl hown; replace hB := Nat.le_trans hB hbl.size; obtain ⟨da, dc, rfl⟩ := (hL.rowN (i := 0) rfl).shape; conv => whnf)
    repeat (first | (refine RunH ?_; intro w hL hB; try clear w) | (refine Both.mk ?_ ?_ <;> conv => whnf) | (intro w9 hw9; conv => whnf) | fail)
    refine ActS.mk (kv := .slice da v.ns.length dc) (nv := .slice (some ⟨fb, 0, none⟩) q c') rfl rfl ?_
    have h8 := own_cut (hL.at (i := 1) rfl) (k := q) (by omega)
    rw [take_numC] at h8
    have h9 := hL.saidN 1 rfl (R' := .row 3 1 (.slice (some ⟨fb, 0, none⟩) q c') q (numC (fr.take q))) h8 rfl
    dsimp only
    rw [htl]
    exact h9.sub (.cons_cons _ (.cons_cons _ (List.nil_sublist _)))
end Go.Proofs.Ythifnfoppamkiaa
