/- client: an answer of one that does not lead. Nothing is claimed here. -/
import Derived.Test.YtcjnaljdbbjojaaGreatDoorClt
namespace Go.Proofs.YtcjnaljdbbjojaaGreatDoor
open Go.RowKit
open Go.Maps (Keyed)
set_option linter.unusedVariables false
set_option linter.unusedSimpArgs false
set_option maxRecDepth 100000

section
variable {B : Nat} {w0 w : World}
set_option maxHeartbeats 16000000 in
theorem hear_lead (cb cm qb sm : Nat) (g bg tk : Int) (q : QS) (fr to0 n0 : Int) (nv dv : Value) (hint : Int) (R : List Res) (hq : q.sent = .map (some sm)) (hf : -1000000 ≤ fr ∧ fr ≤ 1000000) (hfr : fr = to0) (htk0 : q.tk = n0) (hstep : q.step = 0) (hh : -1 ≤ hint ∧ hint ≤ 2) (ht : 0 ≤ q.tried ∧ q.tried < 19) (hg0 : g = 0) (hds : ∃ a n c, dv = .slice a n c)
    (hL : Sep Tryz.prog B w0 w (cR cb g bg tk cm (.slice none 0 0) (.slice none 0 0) :: qR qb q :: .mp 3 cm [(.int .i64 q.num, ptrN qb)] :: .mp 3 sm [(.int .i64 to0, .bool true)] :: R)) (hB : B ≤ w.heap.size) (hns : nR nv [n0, 13, hint] ∈ R) :
    Fn Tryz.prog 11 #[ptrN cb, msV fr 7 51 nv dv] w fun r w' => r = .tuple #[.slice none 0 0, .slice none 0 0] ∧ B ≤ w'.heap.size ∧ Sep Tryz.prog B w0 w' (cR cb (if 0 ≤ hint then hint else 1) bg tk cm (.slice none 0 0) (.slice none 0 0) :: qR qb { q with tried := q.tried + 1, step := 6, waited := 0, pause := 2, sent := .map none } :: .mp 3 cm [(.int .i64 q.num, ptrN qb)] :: R) := by
  obtain ⟨da, dn, dc, rfl⟩ := hds
  obtain ⟨na, nc, rfl⟩ := (nR_sl (hL.hold (nR nv [n0, 13, hint]) (mm4 hns))).shape
  obtain ⟨nb, no, rfl, _⟩ := (nR_sl (hL.hold (nR _ [n0, 13, hint]) (mm4 hns))).addr (by simp [numC])
  rw [numC_len] at hns ⊢
  have hnr : ∀ {x : World} {L' : List Res}, Sep Tryz.prog B w0 x L' → nR (.slice (some ⟨nb, no, none⟩) [n0, 13, hint].length nc) [n0, 13, hint] ∈ L' → Sl x (.slice (some ⟨nb, no, none⟩) [n0, 13, hint].length nc) (numC [n0, 13, hint]) := fun h hm => nR_sl (h.hold _ hm)
  have hlen : 3 = [n0, 13, hint].length := rfl
  
  generalize hln : [n0, 13, hint].length = ln at *
  subst hg0
  unfold cR cC at hL
  unfold msV
  refine Fn.mk Tryz.func11 rfl (by kernel_rfl) Tryz.ntmps11 rfl (by rw [Tryz.results11]) ?_
  repeat (first | (refine RunH ?_; intro w hL hB; try clear w) | (refine Both.mk ?_ ?_ <;> conv => whnf) | fail)
  (refine Nw.sep hL hB (fun xb w hL hB hxb => ?_); conv => whnf)
  repeat (first | (refine RunK ?_; intro w hL hB; try clear w) | (refine V.treeA ttOk hL (.q 0 (.q 1 (.q 2 (.q 3 (.q 4 (.q 5 (.q 6 (.q 7 (.q 8 (.q 9 (.q 10 .nil))))))))))) mixed (by decide +kernel) ?_; replace hL := hL.drew; conv => whnf) | (refine V.tailA ttOk mixed (by decide +kernel) ?_; replace hL := hL.drew; conv => whnf) | (refine Both.mk ?_ ?_ <;> conv => whnf) | fail)
  refine (of_fn cb qb cm sm 0 bg tk (.slice none 0 0) (.slice none 0 0) q fr 7 51 to0 n0 13 (.slice (some ⟨nb, no, none⟩) ln nc) (.slice da dn dc) [hint] _ hq (by omega) hf ⟨_, _, _, rfl⟩ (hL.perm ((List.perm_append_comm (l₁ := [_]) (l₂ := [_, _, _, _])).append_right R)) hB (by rw [← hln] at hns ⊢; exact mm1 hns)).mono fun r w hr => ?_
  obtain ⟨hr, hB, hL⟩ := hr
  rw [if_pos ⟨htk0, hfr⟩] at hr
  subst hr
  replace hL := hL.perm ((List.perm_append_comm (l₁ := [_, _, _, _]) (l₂ := [_])).append_right R)
  unfold cR cC qR qC at hL
  conv => whnf
  repeat (first | (refine RunH ?_; intro w hL hB; try clear w) | (refine Both.mk ?_ ?_ <;> conv => whnf) | (intro o9 ho9; conv => whnf) | (refine Ld.row1 ttOk (hnr hL (by repeat (first | exact hns | exact .head _ | apply List.Mem.tail))).toN.rowOf rfl rfl (k := 1) (v := .int .i64 13) rfl (by omega) ?_; conv => whnf) | (refine Qv.arr (cells := #[.int .i64 51, .int .i64 51, .int .i64 30, .int .i64 31, .int .i64 32, .int .i64 51, .int .i64 0]) ttOk tl73 tl3 rfl ?_; conv => whnf) | (rw [hstep]; conv => whnf) | fail)
  refine (good_lead cb qb cm 0 bg tk (.slice none 0 0) (.slice none 0 0) q fr 7 51 n0 hint (.slice (some ⟨nb, no, none⟩) ln nc) (.slice da dn dc) _ hh ⟨_, _, _, rfl⟩ (hL.perm ((List.perm_append_comm (l₁ := [_]) (l₂ := [_, _])).append_right _)) hB (by repeat (first | exact hns | exact .head _ | apply List.Mem.tail))).mono fun r w hr => ?_
  obtain ⟨hr, hB, hL⟩ := hr
  subst hr
  replace hL := hL.perm ((List.perm_append_comm (l₁ := [_, _]) (l₂ := [_])).append_right _)
  unfold cR cC qR qC at hL
  conv => whnf
  repeat (first | (refine RunH ?_; intro w hL hB; try clear w) | (refine Both.mk ?_ ?_ <;> conv => whnf) | fail)
  rw [hq]
  refine Rv.goneS ttOk hL intK 4 tl64 rfl (goodS hf) hB fun w l' hg9 hL hB => ?_
  rw [gone_fr hfr hg9] at hL
  try dsimp only [List.set] at hL
  conv => whnf
  repeat (first | (refine RunH ?_; intro w hL hB; try clear w) | (refine Both.mk ?_ ?_ <;> conv => whnf) | fail)
  repeat (first | (refine RunK ?_; intro w hL hB; try clear w) | (refine V.treeP ttOk hL 1 (.q 0 (.q 1 (.q 2 (.q 3 (.q 6 (.q 7 (.q 8 (.q 9 (.alt 4 (.q 5 (.alt 10 (.q 11 (.q 12 (.q 13 (.alt 14 .nil .stop)))) .stop)) (.alt 10 (.alt 4 (.q 5 (.q 11 (.q 12 (.q 13 (.alt 14 .nil .stop))))) .stop) .stop)))))))))) mixed (by decide +kernel) ?_; replace hL := hL.drew; conv => whnf) | (refine V.tailA ttOk mixed (by decide +kernel) ?_; replace hL := hL.drew; conv => whnf) | (refine Both.mk ?_ ?_ <;> conv => whnf) | fail)
  refine Rem.mk (by omega) ?_
  conv => whnf
  repeat (first | (refine RunH ?_; intro w hL hB; try clear w) | (refine Both.mk ?_ ?_ <;> conv => whnf) | (intro o9 ho9; conv => whnf) | (refine Ld.row1 ttOk (hnr hL (by repeat (first | exact hns | exact .head _ | apply List.Mem.tail))).toN.rowOf rfl rfl (k := 2) (v := .int .i64 hint) rfl (by omega) ?_; conv => whnf) | fail)
  refine (within_fn _ _ _ _).mono fun r w9 ⟨hr, hw9⟩ => ?_
  subst hr
  replace hw9 := hw9.symm
  subst hw9
  by_cases h0 : 0 ≤ hint
  · rw [if_pos h0]
    rw [decide_eq_true (show 0 ≤ hint ∧ hint ≤ 3 - 1 by omega)]
    conv => whnf
    repeat (first | (refine RunH ?_; intro w hL hB; try clear w) | (refine Both.mk ?_ ?_ <;> conv => whnf) | fail)
    refine (round_fn cb qb cm (hint) bg tk (.slice none 0 0) (.slice none 0 0) q 2 _ ht (hL.sub (L' := _ :: _ :: _ :: R) (.cons _ (((sub1 _ R).cons_cons _).cons_cons _ |>.cons_cons _))) hB).mono fun r w hr => ?_
    obtain ⟨hr, hB, hL⟩ := hr
    subst hr
    conv => whnf
    repeat (first | (refine RunH ?_; intro w hL hB; try clear w) | (refine Both.mk ?_ ?_ <;> conv => whnf) | fail)
    refine (went_fn cb cm _ bg tk (.slice none 0 0) (.slice none 0 0) _ ⟨_, _, _, rfl⟩ ⟨_, _, _, rfl⟩ hL hB).mono fun r w hr => ?_
    obtain ⟨hr, hB, hL⟩ := hr
    subst hr
    conv => whnf
    repeat (first | (refine RunH ?_; intro w hL hB; try clear w) | (refine Both.mk ?_ ?_ <;> conv => whnf) | fail)
    exact ⟨rfl, hB, hL⟩
  · rw [if_neg h0]
    rw [decide_eq_false (show ¬ (0 ≤ hint ∧ hint ≤ 3 - 1) by omega)]
    conv => whnf
    repeat (first | (refine RunH ?_; intro w hL hB; try clear w) | (refine Both.mk ?_ ?_ <;> conv => whnf) | fail)
    refine (round_fn cb qb cm (1) bg tk (.slice none 0 0) (.slice none 0 0) q 2 _ ht (hL.sub (L' := _ :: _ :: _ :: R) (.cons _ (((sub1 _ R).cons_cons _).cons_cons _ |>.cons_cons _))) hB).mono fun r w hr => ?_
    obtain ⟨hr, hB, hL⟩ := hr
    subst hr
    conv => whnf
    repeat (first | (refine RunH ?_; intro w hL hB; try clear w) | (refine Both.mk ?_ ?_ <;> conv => whnf) | fail)
    refine (went_fn cb cm _ bg tk (.slice none 0 0) (.slice none 0 0) _ ⟨_, _, _, rfl⟩ ⟨_, _, _, rfl⟩ hL hB).mono fun r w hr => ?_
    obtain ⟨hr, hB, hL⟩ := hr
    subst hr
    conv => whnf
    repeat (first | (refine RunH ?_; intro w hL hB; try clear w) | (refine Both.mk ?_ ?_ <;> conv => whnf) | fail)
    exact ⟨rfl, hB, hL⟩
end
end Go.Proofs.YtcjnaljdbbjojaaGreatDoor
