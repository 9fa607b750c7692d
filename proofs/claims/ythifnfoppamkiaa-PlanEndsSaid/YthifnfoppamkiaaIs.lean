/- Plan: the code's rule 'lacking'. Nothing is claimed here. -/
import Derived.Test.YthifnfoppamkiaaIr
namespace Go.Proofs.Ythifnfoppamkiaa
open Go.RowKit
set_option linter.unusedVariables false
set_option linter.unusedSimpArgs false
set_option maxRecDepth 100000

theorem take_min {α : Type} (l : List α) (q n : Nat) (h : n = min q l.length) : l.take n = l.take q := by
  subst h
  rcases Nat.le_total q l.length with e | e
  · rw [Nat.min_eq_left e]
  · rw [Nat.min_eq_right e, List.take_length, List.take_of_length_le e]
set_option maxHeartbeats 8000000 in
theorem lacking_fn (p : PV × Value) (i : Int) (bw : Nat) (vs lv sv : Value) (l : List PV) (c : PC) (live : List Bool) (w0 : World) (hC : Blk w0 bw (wdC vs lv (loadS l) sv c) 55) (hl : SlE w0 lv (boolC live))
    (hn : SlE w0 p.2 (numC p.1.ns)) (ht : p.1.ns.length ≤ 40) (hok : okC c) (hcm : c.cp ≤ 9223372036854775807) :
    Fn Try.prog 20 #[.pointer (some ⟨bw, 0, none⟩), .int .i64 i, pvV p] w0 fun r w' => ActS w0 (lackS l live c p.1) r w' := by
  obtain ⟨v, nv⟩ := p
  dsimp only at hn ht
  obtain ⟨na, nc, hnv⟩ := hn.shape
  rw [numC_len] at hnv
  subst hnv
  unfold pvV
  dsimp only
  obtain ⟨hc1, hc2, hc3, hc4, hc5, hc6⟩ := hok
  have hL := Sep.start Try.prog w0
  have hB := Nat.le_refl w0.heap.size
  refine Fn.mk Try.func20 rfl (by kernel_rfl) Try.ntmps20 rfl (by rw [Try.results20]) ?_
  repeat (first | (refine RunH ?_; intro w hL hB; try clear w) | (refine Both.mk ?_ ?_ <;> conv => whnf) | fail)
  (refine Nw.sep hL hB (fun b5 w hL hB hb5 => ?_); conv => whnf)
  repeat (first | (refine RunH ?_; intro w hL hB; try clear w) | (refine Both.mk ?_ ?_ <;> conv => whnf) | fail)
  (refine Nw.sep hL hB (fun b6 w hL hB hb6 => ?_); conv => whnf)
  have hkl : (livingS live v.ns).length ≤ v.ns.length := List.length_filter_le _ _
  have hf64 := freeS_le l live v.ns
  have hlk : ∀ a, lackS l live c v = a → lackS l live c v = a := fun a e => e
  conv at hlk => enter [a]; lhs; unfold lackS
  repeat' (first | (refine RunK ?_; intro w hL hB; try clear w) | (refine V.treeA ttOk hL (.q 0 (.q 1 (.q 2 (.q 4 (.q 5 (.q 6 (.alt 3 (.alt 7 (.q 8 (.q 9 .nil)) .stop) .stop))))))) mixed (by decide +kernel) ?_; replace hL := hL.drew; conv => whnf) | (refine V.tailA ttOk mixed (by decide +kernel) ?_; replace hL := hL.drew; conv => whnf) | (refine Br.dec (fun hbr => ?_) (fun hbr => ?_) <;> conv => whnf) | (refine Br.mk (fun hbr => ?_) (fun hbr => ?_) <;> conv => whnf) | (refine Both.mk ?_ ?_ <;> conv => whnf) | (intro w9 hw9; conv => whnf) | fail)
  (refine (living_fn bw vs lv sv _ (loadS l) c live v.ns _ (hL.old rfl hC) (hl.below hL.below) (hn.below hL.below) (by omega)).mono fun r w hr => ?_; obtain ⟨hown, hbl⟩ := hr; replace hL := hL.addRow hB hbl hown; replace hB := Nat.le_trans hB hbl.size; obtain ⟨ka, kc, rfl⟩ := (hL.rowN (i := 0) rfl).shape; conv => whnf)
  repeat' (first | (refine RunH ?_; intro w hL hB; try clear w) | (refine Br.dec (fun hbr => ?_) (fun hbr => ?_) <;> conv => whnf) | (refine Br.mk (fun hbr => ?_) (fun hbr => ?_) <;> conv => whnf) | (refine Both.mk ?_ ?_ <;> conv => whnf) | fail)
  (refine (free_fn bw vs lv sv _ l c live v.ns _ (hL.old rfl hC) (hl.below hL.below) (hn.below hL.below)).mono fun r w hr => ?_; obtain ⟨hown, hbl⟩ := hr; replace hL := hL.addRow hB hbl hown; replace hB := Nat.le_trans hB hbl.size; obtain ⟨fa, fc, rfl⟩ := (hL.rowN (i := 0) rfl).shape; conv => whnf)
  generalize freeS l live v.ns = fr at *
  generalize livingS live v.ns = kp at *
  dsimp only [overL, cellsL, splice] at hL
  by_cases hc : (v.st ≠ 0 ∧ v.st ≠ 1) ∨ kp = [] ∨ (v.fz = false ∧ (c.cp ≤ kp.length ∨ fr = []))
  · have hnone := hlk none (if_pos hc)
    rw [hnone]
    have hc' : (v.st ≠ 0 ∧ v.st ≠ 1) ∨ kp.length = 0 ∨ (v.fz = false ∧ (c.cp ≤ kp.length ∨ fr.length = 0)) := by
      rw [List.length_eq_zero_iff, List.length_eq_zero_iff]; exact hc
    repeat' (first | (refine RunH ?_; intro w hL hB; try clear w) | (refine Br.dec (fun hbr => ?_) (fun hbr => ?_) <;> conv => whnf) | (refine Br.mk (fun hbr => ?_) (fun hbr => ?_) <;> conv => whnf) | (refine Both.mk ?_ ?_ <;> conv => whnf) | (refine Br.dec (fun hbr => ?_) (fun hbr => ?_); conv => whnf) | fail)
    all_goals first
      | (exact ⟨rfl, hL.below⟩)
      | (exfalso; clear hL hlk hnone; rcases hc' with ⟨_, _⟩ | hq | ⟨hq, hq' | hq'⟩ <;> first | omega | (simp_all; done) | (simp_all; omega))
  · have hs1 : v.st = 0 ∨ v.st = 1 := Decidable.byContradiction fun e => hc (.inl (by omega))
    have hk1 : 0 < kp.length := List.length_pos_iff.2 fun e => hc (.inr (.inl e))
    have hf1 : v.fz = true ∨ (v.fz = false ∧ (kp.length : Int) < c.cp ∧ 0 < fr.length) := by
      cases hz : v.fz
      · exact .inr ⟨rfl, by have : ¬ c.cp ≤ kp.length := fun e => hc (.inr (.inr ⟨hz, .inl e⟩)); omega, List.length_pos_iff.2 fun e => hc (.inr (.inr ⟨hz, .inr e⟩))⟩
      · exact .inl rfl
    rw [hlk _ (if_neg hc)]
    generalize hlq : (c.cp - (kp.length : Int)).toNat = lq
    clear hlk hc
    rcases own_shape (hL.at (i := 0) rfl) with ⟨e, h0⟩ | ⟨fb, c9, e, hfc, hfm⟩
    · injection e with e1 e2 e3
      subst e1; subst e3
      obtain rfl : fr = [] := List.length_eq_zero_iff.1 h0
      have hz : v.fz = true := by
        rcases hf1 with hz | ⟨_, _, h⟩
        · exact hz
        · simp at h
      rcases hs1 with hs1 | hs1
      all_goals
        repeat (first | (refine RunK ?_; intro w hL hB; try clear w) | (refine V.treeA ttOk hL (.q 0 (.q 2 (.q 3 (.q 4 (.q 5 (.q 6 (.q 7 (.alt 1 (.alt 8 (.q 9 .nil) .stop) .stop)))))))) mixed (by decide +kernel) ?_; replace hL := hL.drew; conv => whnf) | (refine V.tailA ttOk mixed (by decide +kernel) ?_; replace hL := hL.drew; conv => whnf) | (refine Both.mk ?_ ?_ <;> conv => whnf) | fail)
        intro n' c' q1 q2
        obtain rfl : n' = 0 := by simp only [List.length_nil] at q1; omega
        obtain rfl : c' = 0 := by omega
        conv => whnf
        repeat (first | (refine RunH ?_; intro w hL hB; try clear w) | (refine Both.mk ?_ ?_ <;> conv => whnf) | (intro w9 hw9; conv => whnf) | fail)
        (refine (cloneC_fn _ kp _ (hL.rowN (i := 1) rfl).to1.e (by omega)).mono fun r w hr => ?_; obtain ⟨hown, hbl⟩ := hr; replace hL := hL.addRow hB hbl hown; replace hB := Nat.le_trans hB hbl.size; obtain ⟨ca, cc, rfl⟩ := (hL.rowN (i := 0) rfl).shape; conv => whnf)
        repeat (first | (refine RunH ?_; intro w hL hB; try clear w) | (refine Both.mk ?_ ?_ <;> conv => whnf) | (intro w9 hw9; conv => whnf) | fail)
        refine Rv.appendS ttOk hL tl24 tl3 rfl (by decide) 0 rfl (SlN.nil w 1) (by simp) (by simp only [maxLen]; omega) (by omega) hB fun vo w hL hB => ?_
        dsimp only [List.set] at hL
        conv => whnf
        obtain ⟨da, dc, rfl⟩ := (hL.rowN (i := 0) rfl).shape
        repeat (first | (refine RunH ?_; intro w hL hB; try clear w) | (refine Both.mk ?_ ?_ <;> conv => whnf) | (intro w9 hw9; conv => whnf) | fail)
        refine ActS.mk (kv := .slice ka kp.length kc) (nv := .slice da (kp.length + 0) dc) rfl (by first | rfl | (unfold actV; rw [hs1]; rfl)) ?_
        have h9 := (hL.sub (L' := [.row 3 1 (.slice da (kp.length + 0) dc) (kp.length + 0) (numC kp ++ []), .row 3 1 (.slice ka kp.length kc) kp.length (numC kp)]) (.cons_cons _ (.cons _ (.cons_cons _ (List.nil_sublist _))))).perm (List.Perm.swap _ _ _)
        dsimp only
        rw [List.take_nil, List.append_nil]
        rw [List.append_nil] at h9
        exact h9
    · injection e with e1 e2 e3
      subst e1; subst e3
      rcases hs1 with hs1 | hs1 <;> rcases hf1 with hz | ⟨hz, hq1, hq2⟩
      all_goals
        repeat (first | (refine RunK ?_; intro w hL hB; try clear w) | (refine V.treeA ttOk hL (.q 0 (.q 2 (.q 3 (.q 4 (.q 5 (.q 6 (.q 7 (.alt 1 (.alt 8 (.q 9 .nil) .stop) .stop)))))))) mixed (by decide +kernel) ?_; replace hL := hL.drew; conv => whnf) | (refine V.tailA ttOk mixed (by decide +kernel) ?_; replace hL := hL.drew; conv => whnf) | (refine Both.mk ?_ ?_ <;> conv => whnf) | fail)
        intro n' c' q1 q2
        conv => whnf
        repeat (first | (refine RunH ?_; intro w hL hB; try clear w) | (refine Both.mk ?_ ?_ <;> conv => whnf) | (intro w9 hw9; conv => whnf) | fail)
        (refine (cloneC_fn _ kp _ (hL.rowN (i := 1) rfl).to1.e (by omega)).mono fun r w hr => ?_; obtain ⟨hown, hbl⟩ := hr; replace hL := hL.addRow hB hbl hown; replace hB := Nat.le_trans hB hbl.size; obtain ⟨ca, cc, rfl⟩ := (hL.rowN (i := 0) rfl).shape; conv => whnf)
        repeat (first | (refine RunH ?_; intro w hL hB; try clear w) | (refine Both.mk ?_ ?_ <;> conv => whnf) | (intro w9 hw9; conv => whnf) | fail)
        refine Rv.appendS ttOk hL tl24 tl3 rfl (by decide) 0 rfl ((hL.rowN (i := 1) rfl).preN (k := n') (c' := c') (by omega) (by omega) (by omega)) (numC_one _) (by simp only [maxLen]; omega) (by omega) hB fun vo w hL hB => ?_
        dsimp only [List.set] at hL
        conv => whnf
        obtain ⟨da, dc, rfl⟩ := (hL.rowN (i := 0) rfl).shape
        repeat (first | (refine RunH ?_; intro w hL hB; try clear w) | (refine Both.mk ?_ ?_ <;> conv => whnf) | (intro w9 hw9; conv => whnf) | fail)
        refine ActS.mk (kv := .slice ka kp.length kc) (nv := .slice da (kp.length + n') dc) rfl (by first | rfl | (unfold actV; rw [hs1]; rfl)) ?_
        have h9 := (hL.sub (L' := [.row 3 1 (.slice da (kp.length + n') dc) (kp.length + n') (numC kp ++ numC (fr.take n')), .row 3 1 (.slice ka kp.length kc) kp.length (numC kp)]) (.cons_cons _ (.cons _ (.cons_cons _ (List.nil_sublist _))))).perm (List.Perm.swap _ _ _)
        have e9 : kp.length + n' = (kp ++ fr.take lq).length := by rw [← take_min fr lq n' (by omega), List.length_append, List.length_take]; omega
        rw [take_min fr lq n' (by omega), ← numC_app] at h9
        dsimp only
        rw [← e9]
        exact h9
end Go.Proofs.Ythifnfoppamkiaa
