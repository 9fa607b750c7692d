/- client: Hear. Nothing is claimed here. -/
import Derived.Test.YtcjnaljdbbjojaaGreatDoorClg
namespace Go.Proofs.YtcjnaljdbbjojaaGreatDoor
open Go.RowKit
open Go.Maps (Keyed)
set_option linter.unusedVariables false
set_option linter.unusedSimpArgs false
set_option maxRecDepth 100000

theorem pH1 {α : Type} (a b o s n d m : α) (R : List α) : (a :: b :: o :: s :: n :: d :: m :: R).Perm (a :: b :: m :: s :: o :: n :: d :: R) :=
  (((List.perm_middle (l₁ := [o, s, n, d])).trans ((List.Perm.swap s o _).cons m)).cons b).cons a
theorem pH2 {α : Type} (a b o s n d x m : α) (R : List α) : (a :: b :: o :: s :: n :: d :: x :: m :: R).Perm (a :: b :: m :: s :: o :: n :: d :: x :: R) :=
  (((List.perm_middle (l₁ := [o, s, n, d, x])).trans ((List.Perm.swap s o _).cons m)).cons b).cons a
/-- what Hear leaves, when it sent something -/
def Heard (B : Nat) (w0 : World) (cb cm qb : Nat) (g bg tk : Int) (q : QS) (to kind : Int) (nums : List Int) (d : List UInt8) (R : List Res) (r : Value) (w' : World) : Prop :=
  ∃ sm ov nv dv, r = .tuple #[.slice none 0 0, ov] ∧ B ≤ w'.heap.size ∧ Sep Tryz.prog B w0 w' (cR cb g bg (tk + 1) cm (.slice none 0 0) (.slice none 0 0) :: qR qb { q with waited := 0, tk := tk + 1, sent := .map (some sm) } :: .mp 3 cm [(.int .i64 q.num, ptrN qb)] :: .mp 3 sm [(.int .i64 to, .bool true)] :: .row 42 5 ov 1 (mC to kind nv dv) :: nR nv ((tk + 1) :: nums) :: bR dv d :: R)
theorem gone_fr {a b : Int} {v : Value} {l : List (Value × Value)} (e : a = b) (h : Gone [(.int .i64 b, v)] (.int .i64 a) l) : l = [] := by subst e; exact gone_one h
section
variable {B : Nat} {w0 w : World}
theorem Sep.toS {cb cm qb sm : Nat} {g bg tk : Int} {q : QS} {x : Res} {l : List (Value × Value)} {R : List Res} (hL : Sep Tryz.prog B w0 w (x :: cR cb g bg tk cm (.slice none 0 0) (.slice none 0 0) :: qR qb q :: .mp 3 cm [(.int .i64 q.num, ptrN qb)] :: .mp 3 sm l :: R)) :
    Sep Tryz.prog B w0 w (cR cb g bg tk cm (.slice none 0 0) (.slice none 0 0) :: qR qb q :: .row 42 5 (.slice none 0 0) 0 [] :: .mp 3 cm [(.int .i64 q.num, ptrN qb)] :: R) :=
  ((hL.sub (.cons _ ((((sub1 _ R).cons_cons _).cons_cons _).cons_cons _))).nilRow 42 5).perm ((List.perm_append_comm (l₁ := [_]) (l₂ := [_, _])).append_right _)
theorem Sep.toE {cb cm qb sm : Nat} {g bg tk : Int} {q : QS} {x : Res} {l : List (Value × Value)} {R : List Res} (hL : Sep Tryz.prog B w0 w (x :: cR cb g bg tk cm (.slice none 0 0) (.slice none 0 0) :: qR qb q :: .mp 3 cm [(.int .i64 q.num, ptrN qb)] :: .mp 3 sm l :: R)) :
    Sep Tryz.prog B w0 w (cR cb g bg tk cm (.slice none 0 0) (.slice none 0 0) :: qR qb q :: .mp 3 cm [(.int .i64 q.num, ptrN qb)] :: .row 51 6 (.slice none 0 0) 0 [] :: R) :=
  ((hL.sub (.cons _ ((((sub1 _ R).cons_cons _).cons_cons _).cons_cons _))).nilRow 51 6).perm ((List.perm_append_comm (l₁ := [_]) (l₂ := [_, _, _])).append_right _)
set_option maxHeartbeats 16000000 in
/-- an answer that nobody waits for -/
theorem hear_none (cb cm qb sm : Nat) (g bg tk : Int) (q : QS) (fr to0 n0 : Int) (nv dv : Value) (kind n1 : Int) (ns : List Int) (R : List Res) (hq : q.sent = .map (some sm)) (hf : -1000000 ≤ fr ∧ fr ≤ 1000000) (hn1 : 0 ≤ n1 ∧ n1 ≤ 63) (hno : ¬ (q.tk = n0 ∧ fr = to0)) (hds : ∃ a n c, dv = .slice a n c)
    (hL : Sep Tryz.prog B w0 w (cR cb g bg tk cm (.slice none 0 0) (.slice none 0 0) :: qR qb q :: .mp 3 cm [(.int .i64 q.num, ptrN qb)] :: .mp 3 sm [(.int .i64 to0, .bool true)] :: R)) (hB : B ≤ w.heap.size) (hns : nR nv (n0 :: n1 :: ns) ∈ R) :
    Fn Tryz.prog 11 #[ptrN cb, msV fr 7 kind nv dv] w fun r w' => r = .tuple #[.slice none 0 0, .slice none 0 0] ∧ B ≤ w'.heap.size ∧ Sep Tryz.prog B w0 w' (cR cb g bg tk cm (.slice none 0 0) (.slice none 0 0) :: qR qb q :: .mp 3 cm [(.int .i64 q.num, ptrN qb)] :: .mp 3 sm [(.int .i64 to0, .bool true)] :: R) := by
  obtain ⟨da, dn, dc, rfl⟩ := hds
  obtain ⟨na, nc, rfl⟩ := (nR_sl (hL.hold (nR nv (n0 :: n1 :: ns)) (mm4 hns))).shape
  unfold cR cC at hL
  unfold msV
  refine Fn.mk Tryz.func11 rfl (by kernel_rfl) Tryz.ntmps11 rfl (by rw [Tryz.results11]) ?_
  repeat (first | (refine RunH ?_; intro w hL hB; try clear w) | (refine Both.mk ?_ ?_ <;> conv => whnf) | fail)
  (refine Nw.sep hL hB (fun xb w hL hB hxb => ?_); conv => whnf)
  repeat (first | (refine RunK ?_; intro w hL hB; try clear w) | (refine V.treeA ttOk hL (.q 0 (.q 1 (.q 2 (.q 3 (.q 4 (.q 5 (.q 6 (.q 7 (.q 8 (.q 9 (.q 10 .nil))))))))))) mixed (by decide +kernel) ?_; replace hL := hL.drew; conv => whnf) | (refine V.tailA ttOk mixed (by decide +kernel) ?_; replace hL := hL.drew; conv => whnf) | (refine Both.mk ?_ ?_ <;> conv => whnf) | fail)
  refine (of_fn cb qb cm sm g bg tk (.slice none 0 0) (.slice none 0 0) q fr 7 kind to0 n0 n1 (.slice na (numC (n0 :: n1 :: ns)).length nc) (.slice da dn dc) ns _ hq hn1 hf ⟨_, _, _, rfl⟩ (hL.perm ((List.perm_append_comm (l₁ := [_]) (l₂ := [_, _, _, _])).append_right R)) hB (mm1 hns)).mono fun r w hr => ?_
  obtain ⟨hr, hB, hL⟩ := hr
  rw [if_neg hno] at hr
  subst hr
  conv => whnf
  repeat (first | (refine RunH ?_; intro w hL hB; try clear w) | (refine Both.mk ?_ ?_ <;> conv => whnf) | fail)
  exact ⟨rfl, hB, hL.sub ((((sub1 _ _).cons_cons _).cons_cons _ |>.cons_cons _).cons_cons _)⟩
set_option maxHeartbeats 16000000 in
theorem hear_put (cb cm qb sm : Nat) (g bg tk : Int) (q : QS) (fr to0 n0 : Int) (nv dv : Value) (ep n1 : Int) (ns : List Int) (d : List UInt8) (R : List Res) (hq : q.sent = .map (some sm)) (hf : -1000000 ≤ fr ∧ fr ≤ 1000000) (hfr : fr = to0) (htk0 : q.tk = n0) (hstep : q.step = 1) (hk : q.kind = 2) (hep : 1 ≤ ep ∧ ep ≤ 2147483647) (hns1 : ∀ n ∈ n1 :: ns, 0 ≤ n ∧ n ≤ 63) (hnl : ns.length ≤ 1000) (hw : 0 ≤ q.writes ∧ q.writes ≤ 1000) (hkey : 0 ≤ q.key ∧ q.key < 9223372036854775808) (hck : 0 ≤ q.ck ∧ q.ck < 4294967296) (hxd : bR q.xd d ∈ R) (hdl : d.length ≤ 2147483648) (htk : 0 ≤ tk ∧ tk < 1000000) (hds : ∃ a n c, dv = .slice a n c)
    (hL : Sep Tryz.prog B w0 w (cR cb g bg tk cm (.slice none 0 0) (.slice none 0 0) :: qR qb q :: .mp 3 cm [(.int .i64 q.num, ptrN qb)] :: .mp 3 sm [(.int .i64 to0, .bool true)] :: R)) (hB : B ≤ w.heap.size) (hns : nR nv (n0 :: 0 :: q.vol :: 0 :: ep :: 0 :: n1 :: ns) ∈ R) :
    Fn Tryz.prog 11 #[ptrN cb, msV fr 7 51 nv dv] w fun r w' => ∃ nv', Heard B w0 cb cm qb g bg tk { q with ep := ep, nodes := nv', writes := q.writes + 1, step := 2 } (3 + n1) 20 [q.vol, ep, q.key, q.ck, 0] d (nR nv' (n1 :: ns) :: R) r w' := by
  obtain ⟨da, dn, dc, rfl⟩ := hds
  obtain ⟨na, nc, rfl⟩ := (nR_sl (hL.hold (nR nv (n0 :: 0 :: q.vol :: 0 :: ep :: 0 :: n1 :: ns)) (mm4 hns))).shape
  obtain ⟨nb, no, rfl, _⟩ := (nR_sl (hL.hold (nR _ (n0 :: 0 :: q.vol :: 0 :: ep :: 0 :: n1 :: ns)) (mm4 hns))).addr (by simp [numC])
  rw [numC_len] at hns ⊢
  have hnr : ∀ {x : World} {L' : List Res}, Sep Tryz.prog B w0 x L' → nR (.slice (some ⟨nb, no, none⟩) (n0 :: 0 :: q.vol :: 0 :: ep :: 0 :: n1 :: ns).length nc) (n0 :: 0 :: q.vol :: 0 :: ep :: 0 :: n1 :: ns) ∈ L' → Sl x (.slice (some ⟨nb, no, none⟩) (n0 :: 0 :: q.vol :: 0 :: ep :: 0 :: n1 :: ns).length nc) (numC (n0 :: 0 :: q.vol :: 0 :: ep :: 0 :: n1 :: ns)) := fun h hm => nR_sl (h.hold _ hm)
  have hlen : 7 ≤ (n0 :: 0 :: q.vol :: 0 :: ep :: 0 :: n1 :: ns).length := by simp
  
  generalize hln : (n0 :: 0 :: q.vol :: 0 :: ep :: 0 :: n1 :: ns).length = ln at *
  unfold cR cC at hL
  unfold msV
  refine Fn.mk Tryz.func11 rfl (by kernel_rfl) Tryz.ntmps11 rfl (by rw [Tryz.results11]) ?_
  repeat (first | (refine RunH ?_; intro w hL hB; try clear w) | (refine Both.mk ?_ ?_ <;> conv => whnf) | fail)
  (refine Nw.sep hL hB (fun xb w hL hB hxb => ?_); conv => whnf)
  repeat (first | (refine RunK ?_; intro w hL hB; try clear w) | (refine V.treeA ttOk hL (.q 0 (.q 1 (.q 2 (.q 3 (.q 4 (.q 5 (.q 6 (.q 7 (.q 8 (.q 9 (.q 10 .nil))))))))))) mixed (by decide +kernel) ?_; replace hL := hL.drew; conv => whnf) | (refine V.tailA ttOk mixed (by decide +kernel) ?_; replace hL := hL.drew; conv => whnf) | (refine Both.mk ?_ ?_ <;> conv => whnf) | fail)
  refine (of_fn cb qb cm sm g bg tk (.slice none 0 0) (.slice none 0 0) q fr 7 51 to0 n0 0 (.slice (some ⟨nb, no, none⟩) ln nc) (.slice da dn dc) (q.vol :: 0 :: ep :: 0 :: n1 :: ns) _ hq (by omega) hf ⟨_, _, _, rfl⟩ (hL.perm ((List.perm_append_comm (l₁ := [_]) (l₂ := [_, _, _, _])).append_right R)) hB (by rw [← hln] at hns ⊢; exact mm1 hns)).mono fun r w hr => ?_
  obtain ⟨hr, hB, hL⟩ := hr
  rw [if_pos ⟨htk0, hfr⟩] at hr
  subst hr
  replace hL := hL.perm ((List.perm_append_comm (l₁ := [_, _, _, _]) (l₂ := [_])).append_right R)
  unfold cR cC qR qC at hL
  conv => whnf
  repeat (first | (refine RunH ?_; intro w hL hB; try clear w) | (refine Both.mk ?_ ?_ <;> conv => whnf) | (intro o9 ho9; conv => whnf) | (refine Ld.row1 ttOk (hnr hL (by repeat (first | exact hns | exact .head _ | apply List.Mem.tail))).toN.rowOf rfl rfl (k := 1) (v := .int .i64 0) rfl (by omega) ?_; conv => whnf) | (refine Qv.arr (cells := #[.int .i64 51, .int .i64 51, .int .i64 30, .int .i64 31, .int .i64 32, .int .i64 51, .int .i64 0]) ttOk tl73 tl3 rfl ?_; conv => whnf) | (rw [hstep]; conv => whnf) | fail)
  refine (good_look cb qb cm g bg tk (.slice none 0 0) (.slice none 0 0) q fr 7 51 n0 0 ep 0 n1 (.slice (some ⟨nb, no, none⟩) ln nc) (.slice da dn dc) ns _ (by decide) hep (by decide) hns1 (by omega) ⟨_, _, _, rfl⟩ (hL.perm ((List.perm_append_comm (l₁ := [_]) (l₂ := [_, _])).append_right _)) hB (by repeat (first | exact hns | exact .head _ | apply List.Mem.tail))).mono fun r w hr => ?_
  obtain ⟨hr, hB, hL⟩ := hr
  subst hr
  replace hL := hL.perm ((List.perm_append_comm (l₁ := [_, _]) (l₂ := [_])).append_right _)
  unfold cR cC qR qC at hL
  conv => whnf
  repeat (first | (refine RunH ?_; intro w hL hB; try clear w) | (refine Both.mk ?_ ?_ <;> conv => whnf) | fail)
  rw [hq]
  refine Rv.goneS ttOk hL intK 4 tl64 rfl (goodS hf) hB fun w l' hg9 hL hB => ?_
  rw [gone_fr hfr hg9] at hL
  try dsimp only [List.set] at hL
  conv => whnf
  repeat (first | (refine RunH ?_; intro w hL hB; try clear w) | (refine Both.mk ?_ ?_ <;> conv => whnf) | fail)
  refine (looked_put cb qb cm g bg tk (.slice none 0 0) (.slice none 0 0) q fr 7 51 n0 0 ep 0 n1 (.slice (some ⟨nb, no, none⟩) ln nc) (.slice da dn dc) ns d 0 [] _ rfl rfl hep (hns1 n1 (by simp)) hnl ⟨_, _, _, rfl⟩ hk hw hkey hck (mm1 hxd) hdl htk (by omega) hL.toS hB (mm1 hns)).mono fun r w hr => ?_
  obtain ⟨hr, nv', hS⟩ := hr
  subst hr
  obtain ⟨ov', nv9, dv9, sm9, hB, hL⟩ := hS
  obtain ⟨oa, oc, rfl⟩ := (show SlN w 5 ov' 1 _ from hL.rowN (i := 2) rfl).shape
  conv => whnf
  repeat (first | (refine RunH ?_; intro w hL hB; try clear w) | (refine Both.mk ?_ ?_ <;> conv => whnf) | fail)
  refine (went_fn cb cm _ bg (tk + 1) (.slice none 0 0) (.slice oa 1 oc) _ ⟨_, _, _, rfl⟩ ⟨_, _, _, rfl⟩ hL hB).mono fun r w hr => ?_
  obtain ⟨hr, hB, hL⟩ := hr
  subst hr
  conv => whnf
  repeat (first | (refine RunH ?_; intro w hL hB; try clear w) | (refine Both.mk ?_ ?_ <;> conv => whnf) | fail)
  exact ⟨nv', sm9, _, nv9, dv9, rfl, hB, hL.perm (pH2 _ _ _ _ _ _ _ _ _)⟩
set_option maxHeartbeats 16000000 in
theorem hear_get (cb cm qb sm : Nat) (g bg tk : Int) (q : QS) (fr to0 n0 : Int) (nv dv : Value) (ep n1 : Int) (ns : List Int) (R : List Res) (hq : q.sent = .map (some sm)) (hf : -1000000 ≤ fr ∧ fr ≤ 1000000) (hfr : fr = to0) (htk0 : q.tk = n0) (hstep : q.step = 1) (hns1 : ∀ n ∈ n1 :: ns, 0 ≤ n ∧ n ≤ 63) (hnl : ns.length ≤ 1000) (hep : 1 ≤ ep ∧ ep ≤ 2147483647) (hk : q.kind = 3) (hkey : 0 ≤ q.key ∧ q.key < 9223372036854775808) (hck : 0 ≤ q.ck ∧ q.ck < 4294967296) (htk : 0 ≤ tk ∧ tk < 1000000) (hds : ∃ a n c, dv = .slice a n c)
    (hL : Sep Tryz.prog B w0 w (cR cb g bg tk cm (.slice none 0 0) (.slice none 0 0) :: qR qb q :: .mp 3 cm [(.int .i64 q.num, ptrN qb)] :: .mp 3 sm [(.int .i64 to0, .bool true)] :: R)) (hB : B ≤ w.heap.size) (hns : nR nv (n0 :: 0 :: q.vol :: 0 :: ep :: 0 :: n1 :: ns) ∈ R) :
    Fn Tryz.prog 11 #[ptrN cb, msV fr 7 51 nv dv] w fun r w' => ∃ nv', Heard B w0 cb cm qb g bg tk { q with ep := ep, nodes := nv', place := 0, step := 3 } (3 + n1) 21 [q.vol, ep, q.key, q.ck, 0] [] (nR nv' (n1 :: ns) :: R) r w' := by
  obtain ⟨da, dn, dc, rfl⟩ := hds
  obtain ⟨na, nc, rfl⟩ := (nR_sl (hL.hold (nR nv (n0 :: 0 :: q.vol :: 0 :: ep :: 0 :: n1 :: ns)) (mm4 hns))).shape
  obtain ⟨nb, no, rfl, _⟩ := (nR_sl (hL.hold (nR _ (n0 :: 0 :: q.vol :: 0 :: ep :: 0 :: n1 :: ns)) (mm4 hns))).addr (by simp [numC])
  rw [numC_len] at hns ⊢
  have hnr : ∀ {x : World} {L' : List Res}, Sep Tryz.prog B w0 x L' → nR (.slice (some ⟨nb, no, none⟩) (n0 :: 0 :: q.vol :: 0 :: ep :: 0 :: n1 :: ns).length nc) (n0 :: 0 :: q.vol :: 0 :: ep :: 0 :: n1 :: ns) ∈ L' → Sl x (.slice (some ⟨nb, no, none⟩) (n0 :: 0 :: q.vol :: 0 :: ep :: 0 :: n1 :: ns).length nc) (numC (n0 :: 0 :: q.vol :: 0 :: ep :: 0 :: n1 :: ns)) := fun h hm => nR_sl (h.hold _ hm)
  have hlen : 7 ≤ (n0 :: 0 :: q.vol :: 0 :: ep :: 0 :: n1 :: ns).length := by simp
  
  generalize hln : (n0 :: 0 :: q.vol :: 0 :: ep :: 0 :: n1 :: ns).length = ln at *
  unfold cR cC at hL
  unfold msV
  refine Fn.mk Tryz.func11 rfl (by kernel_rfl) Tryz.ntmps11 rfl (by rw [Tryz.results11]) ?_
  repeat (first | (refine RunH ?_; intro w hL hB; try clear w) | (refine Both.mk ?_ ?_ <;> conv => whnf) | fail)
  (refine Nw.sep hL hB (fun xb w hL hB hxb => ?_); conv => whnf)
  repeat (first | (refine RunK ?_; intro w hL hB; try clear w) | (refine V.treeA ttOk hL (.q 0 (.q 1 (.q 2 (.q 3 (.q 4 (.q 5 (.q 6 (.q 7 (.q 8 (.q 9 (.q 10 .nil))))))))))) mixed (by decide +kernel) ?_; replace hL := hL.drew; conv => whnf) | (refine V.tailA ttOk mixed (by decide +kernel) ?_; replace hL := hL.drew; conv => whnf) | (refine Both.mk ?_ ?_ <;> conv => whnf) | fail)
  refine (of_fn cb qb cm sm g bg tk (.slice none 0 0) (.slice none 0 0) q fr 7 51 to0 n0 0 (.slice (some ⟨nb, no, none⟩) ln nc) (.slice da dn dc) (q.vol :: 0 :: ep :: 0 :: n1 :: ns) _ hq (by omega) hf ⟨_, _, _, rfl⟩ (hL.perm ((List.perm_append_comm (l₁ := [_]) (l₂ := [_, _, _, _])).append_right R)) hB (by rw [← hln] at hns ⊢; exact mm1 hns)).mono fun r w hr => ?_
  obtain ⟨hr, hB, hL⟩ := hr
  rw [if_pos ⟨htk0, hfr⟩] at hr
  subst hr
  replace hL := hL.perm ((List.perm_append_comm (l₁ := [_, _, _, _]) (l₂ := [_])).append_right R)
  unfold cR cC qR qC at hL
  conv => whnf
  repeat (first | (refine RunH ?_; intro w hL hB; try clear w) | (refine Both.mk ?_ ?_ <;> conv => whnf) | (intro o9 ho9; conv => whnf) | (refine Ld.row1 ttOk (hnr hL (by repeat (first | exact hns | exact .head _ | apply List.Mem.tail))).toN.rowOf rfl rfl (k := 1) (v := .int .i64 0) rfl (by omega) ?_; conv => whnf) | (refine Qv.arr (cells := #[.int .i64 51, .int .i64 51, .int .i64 30, .int .i64 31, .int .i64 32, .int .i64 51, .int .i64 0]) ttOk tl73 tl3 rfl ?_; conv => whnf) | (rw [hstep]; conv => whnf) | fail)
  refine (good_look cb qb cm g bg tk (.slice none 0 0) (.slice none 0 0) q fr 7 51 n0 0 ep 0 n1 (.slice (some ⟨nb, no, none⟩) ln nc) (.slice da dn dc) ns _ (by decide) hep (by decide) hns1 (by omega) ⟨_, _, _, rfl⟩ (hL.perm ((List.perm_append_comm (l₁ := [_]) (l₂ := [_, _])).append_right _)) hB (by repeat (first | exact hns | exact .head _ | apply List.Mem.tail))).mono fun r w hr => ?_
  obtain ⟨hr, hB, hL⟩ := hr
  subst hr
  replace hL := hL.perm ((List.perm_append_comm (l₁ := [_, _]) (l₂ := [_])).append_right _)
  unfold cR cC qR qC at hL
  conv => whnf
  repeat (first | (refine RunH ?_; intro w hL hB; try clear w) | (refine Both.mk ?_ ?_ <;> conv => whnf) | fail)
  rw [hq]
  refine Rv.goneS ttOk hL intK 4 tl64 rfl (goodS hf) hB fun w l' hg9 hL hB => ?_
  rw [gone_fr hfr hg9] at hL
  try dsimp only [List.set] at hL
  conv => whnf
  repeat (first | (refine RunH ?_; intro w hL hB; try clear w) | (refine Both.mk ?_ ?_ <;> conv => whnf) | fail)
  refine (looked_get cb qb cm g bg tk (.slice none 0 0) (.slice none 0 0) q fr 7 51 n0 0 ep 0 n1 (.slice (some ⟨nb, no, none⟩) ln nc) (.slice da dn dc) ns 0 [] _ rfl rfl hep (hns1 n1 (by simp)) hnl ⟨_, _, _, rfl⟩ hk hkey hck htk (by omega) hL.toS hB (mm1 hns)).mono fun r w hr => ?_
  obtain ⟨hr, nv', hS⟩ := hr
  subst hr
  obtain ⟨ov', nv9, dv9, sm9, hB, hL⟩ := hS
  obtain ⟨oa, oc, rfl⟩ := (show SlN w 5 ov' 1 _ from hL.rowN (i := 2) rfl).shape
  conv => whnf
  repeat (first | (refine RunH ?_; intro w hL hB; try clear w) | (refine Both.mk ?_ ?_ <;> conv => whnf) | fail)
  refine (went_fn cb cm _ bg (tk + 1) (.slice none 0 0) (.slice oa 1 oc) _ ⟨_, _, _, rfl⟩ ⟨_, _, _, rfl⟩ hL hB).mono fun r w hr => ?_
  obtain ⟨hr, hB, hL⟩ := hr
  subst hr
  conv => whnf
  repeat (first | (refine RunH ?_; intro w hL hB; try clear w) | (refine Both.mk ?_ ?_ <;> conv => whnf) | fail)
  exact ⟨nv', sm9, _, nv9, dv9, rfl, hB, hL.perm (pH2 _ _ _ _ _ _ _ _ _)⟩
set_option maxHeartbeats 16000000 in
theorem hear_shut (cb cm qb sm : Nat) (g bg tk : Int) (q : QS) (fr to0 n0 : Int) (nv dv : Value) (ep n1 : Int) (ns : List Int) (R : List Res) (hq : q.sent = .map (some sm)) (hf : -1000000 ≤ fr ∧ fr ≤ 1000000) (hfr : fr = to0) (htk0 : q.tk = n0) (hstep : q.step = 1) (hns1 : ∀ n ∈ n1 :: ns, 0 ≤ n ∧ n ≤ 63) (hnl : ns.length ≤ 1000) (hep : 1 ≤ ep ∧ ep ≤ 2147483647) (hk : q.kind = 2) (hw : 0 ≤ q.writes ∧ q.writes ≤ 1000) (hnum : 0 ≤ q.num ∧ q.num ≤ 1000000) (hds : ∃ a n c, dv = .slice a n c)
    (hL : Sep Tryz.prog B w0 w (cR cb g bg tk cm (.slice none 0 0) (.slice none 0 0) :: qR qb q :: .mp 3 cm [(.int .i64 q.num, ptrN qb)] :: .mp 3 sm [(.int .i64 to0, .bool true)] :: R)) (hB : B ≤ w.heap.size) (hns : nR nv (n0 :: 0 :: q.vol :: 1 :: ep :: 0 :: n1 :: ns) ∈ R) :
    Fn Tryz.prog 11 #[ptrN cb, msV fr 7 51 nv dv] w fun r w' => ∃ rv', r = .tuple #[rv', .slice none 0 0] ∧ B ≤ w'.heap.size ∧ Sep Tryz.prog B w0 w' (cR cb g bg tk cm (.slice none 0 0) (.slice none 0 0) :: .mp 3 cm [] :: .row 51 6 rv' 1 (rC q.num (if 0 < q.writes then 16 else 11) 0 0 0 (.slice none 0 0)) :: R) := by
  obtain ⟨da, dn, dc, rfl⟩ := hds
  obtain ⟨na, nc, rfl⟩ := (nR_sl (hL.hold (nR nv (n0 :: 0 :: q.vol :: 1 :: ep :: 0 :: n1 :: ns)) (mm4 hns))).shape
  obtain ⟨nb, no, rfl, _⟩ := (nR_sl (hL.hold (nR _ (n0 :: 0 :: q.vol :: 1 :: ep :: 0 :: n1 :: ns)) (mm4 hns))).addr (by simp [numC])
  rw [numC_len] at hns ⊢
  have hnr : ∀ {x : World} {L' : List Res}, Sep Tryz.prog B w0 x L' → nR (.slice (some ⟨nb, no, none⟩) (n0 :: 0 :: q.vol :: 1 :: ep :: 0 :: n1 :: ns).length nc) (n0 :: 0 :: q.vol :: 1 :: ep :: 0 :: n1 :: ns) ∈ L' → Sl x (.slice (some ⟨nb, no, none⟩) (n0 :: 0 :: q.vol :: 1 :: ep :: 0 :: n1 :: ns).length nc) (numC (n0 :: 0 :: q.vol :: 1 :: ep :: 0 :: n1 :: ns)) := fun h hm => nR_sl (h.hold _ hm)
  have hlen : 7 ≤ (n0 :: 0 :: q.vol :: 1 :: ep :: 0 :: n1 :: ns).length := by simp
  
  generalize hln : (n0 :: 0 :: q.vol :: 1 :: ep :: 0 :: n1 :: ns).length = ln at *
  unfold cR cC at hL
  unfold msV
  refine Fn.mk Tryz.func11 rfl (by kernel_rfl) Tryz.ntmps11 rfl (by rw [Tryz.results11]) ?_
  repeat (first | (refine RunH ?_; intro w hL hB; try clear w) | (refine Both.mk ?_ ?_ <;> conv => whnf) | fail)
  (refine Nw.sep hL hB (fun xb w hL hB hxb => ?_); conv => whnf)
  repeat (first | (refine RunK ?_; intro w hL hB; try clear w) | (refine V.treeA ttOk hL (.q 0 (.q 1 (.q 2 (.q 3 (.q 4 (.q 5 (.q 6 (.q 7 (.q 8 (.q 9 (.q 10 .nil))))))))))) mixed (by decide +kernel) ?_; replace hL := hL.drew; conv => whnf) | (refine V.tailA ttOk mixed (by decide +kernel) ?_; replace hL := hL.drew; conv => whnf) | (refine Both.mk ?_ ?_ <;> conv => whnf) | fail)
  refine (of_fn cb qb cm sm g bg tk (.slice none 0 0) (.slice none 0 0) q fr 7 51 to0 n0 0 (.slice (some ⟨nb, no, none⟩) ln nc) (.slice da dn dc) (q.vol :: 1 :: ep :: 0 :: n1 :: ns) _ hq (by omega) hf ⟨_, _, _, rfl⟩ (hL.perm ((List.perm_append_comm (l₁ := [_]) (l₂ := [_, _, _, _])).append_right R)) hB (by rw [← hln] at hns ⊢; exact mm1 hns)).mono fun r w hr => ?_
  obtain ⟨hr, hB, hL⟩ := hr
  rw [if_pos ⟨htk0, hfr⟩] at hr
  subst hr
  replace hL := hL.perm ((List.perm_append_comm (l₁ := [_, _, _, _]) (l₂ := [_])).append_right R)
  unfold cR cC qR qC at hL
  conv => whnf
  repeat (first | (refine RunH ?_; intro w hL hB; try clear w) | (refine Both.mk ?_ ?_ <;> conv => whnf) | (intro o9 ho9; conv => whnf) | (refine Ld.row1 ttOk (hnr hL (by repeat (first | exact hns | exact .head _ | apply List.Mem.tail))).toN.rowOf rfl rfl (k := 1) (v := .int .i64 0) rfl (by omega) ?_; conv => whnf) | (refine Qv.arr (cells := #[.int .i64 51, .int .i64 51, .int .i64 30, .int .i64 31, .int .i64 32, .int .i64 51, .int .i64 0]) ttOk tl73 tl3 rfl ?_; conv => whnf) | (rw [hstep]; conv => whnf) | fail)
  refine (good_look cb qb cm g bg tk (.slice none 0 0) (.slice none 0 0) q fr 7 51 n0 1 ep 0 n1 (.slice (some ⟨nb, no, none⟩) ln nc) (.slice da dn dc) ns _ (by decide) hep (by decide) hns1 (by omega) ⟨_, _, _, rfl⟩ (hL.perm ((List.perm_append_comm (l₁ := [_]) (l₂ := [_, _])).append_right _)) hB (by repeat (first | exact hns | exact .head _ | apply List.Mem.tail))).mono fun r w hr => ?_
  obtain ⟨hr, hB, hL⟩ := hr
  subst hr
  replace hL := hL.perm ((List.perm_append_comm (l₁ := [_, _]) (l₂ := [_])).append_right _)
  unfold cR cC qR qC at hL
  conv => whnf
  repeat (first | (refine RunH ?_; intro w hL hB; try clear w) | (refine Both.mk ?_ ?_ <;> conv => whnf) | fail)
  rw [hq]
  refine Rv.goneS ttOk hL intK 4 tl64 rfl (goodS hf) hB fun w l' hg9 hL hB => ?_
  rw [gone_fr hfr hg9] at hL
  try dsimp only [List.set] at hL
  conv => whnf
  repeat (first | (refine RunH ?_; intro w hL hB; try clear w) | (refine Both.mk ?_ ?_ <;> conv => whnf) | fail)
  refine (looked_shut cb qb cm g bg tk (.slice none 0 0) (.slice none 0 0) q fr 7 51 n0 1 ep 0 n1 (.slice (some ⟨nb, no, none⟩) ln nc) (.slice da dn dc) ns 0 [] _ rfl rfl hep hnl ⟨_, _, _, rfl⟩ hk hw hnum (by omega) hL.toE hB hns).mono fun r w hr => ?_
  obtain ⟨hr, rv', nv', hB, hL⟩ := hr
  subst hr
  obtain ⟨ra, rc, rfl⟩ := (show SlN w 6 rv' 1 _ from hL.rowN (i := 3) rfl).shape
  conv => whnf
  repeat (first | (refine RunH ?_; intro w hL hB; try clear w) | (refine Both.mk ?_ ?_ <;> conv => whnf) | fail)
  refine (went_fn cb cm _ bg tk (.slice ra 1 rc) (.slice none 0 0) _ ⟨_, _, _, rfl⟩ ⟨_, _, _, rfl⟩ hL hB).mono fun r w hr => ?_
  obtain ⟨hr, hB, hL⟩ := hr
  subst hr
  conv => whnf
  repeat (first | (refine RunH ?_; intro w hL hB; try clear w) | (refine Both.mk ?_ ?_ <;> conv => whnf) | fail)
  exact ⟨_, rfl, hB, hL.sub ((sub1 _ _).cons_cons _)⟩
set_option maxHeartbeats 16000000 in
theorem hear_wrote (cb cm qb sm : Nat) (g bg tk : Int) (q : QS) (fr to0 n0 : Int) (nv dv : Value)  (R : List Res) (hq : q.sent = .map (some sm)) (hf : -1000000 ≤ fr ∧ fr ≤ 1000000) (hfr : fr = to0) (htk0 : q.tk = n0) (hstep : q.step = 2) (hk : q.kind ≠ 3) (htk : 0 ≤ tk ∧ tk < 1000000) (hg : 0 ≤ g ∧ g ≤ 2) (hds : ∃ a n c, dv = .slice a n c)
    (hL : Sep Tryz.prog B w0 w (cR cb g bg tk cm (.slice none 0 0) (.slice none 0 0) :: qR qb q :: .mp 3 cm [(.int .i64 q.num, ptrN qb)] :: .mp 3 sm [(.int .i64 to0, .bool true)] :: R)) (hB : B ≤ w.heap.size) (hns : nR nv ([n0, 0]) ∈ R) :
    Fn Tryz.prog 11 #[ptrN cb, msV fr 7 30 nv dv] w fun r w' => Heard B w0 cb cm qb g bg tk { q with outc := 0, data := .slice none 0 0, step := 5, master := g } g 50 [4, q.vol] [] R r w' := by
  obtain ⟨da, dn, dc, rfl⟩ := hds
  obtain ⟨na, nc, rfl⟩ := (nR_sl (hL.hold (nR nv ([n0, 0])) (mm4 hns))).shape
  obtain ⟨nb, no, rfl, _⟩ := (nR_sl (hL.hold (nR _ ([n0, 0])) (mm4 hns))).addr (by simp [numC])
  rw [numC_len] at hns ⊢
  have hnr : ∀ {x : World} {L' : List Res}, Sep Tryz.prog B w0 x L' → nR (.slice (some ⟨nb, no, none⟩) ([n0, 0]).length nc) ([n0, 0]) ∈ L' → Sl x (.slice (some ⟨nb, no, none⟩) ([n0, 0]).length nc) (numC ([n0, 0])) := fun h hm => nR_sl (h.hold _ hm)
  have hlen : 2 = ([n0, 0]).length := rfl
  
  generalize hln : ([n0, 0]).length = ln at *
  unfold cR cC at hL
  unfold msV
  refine Fn.mk Tryz.func11 rfl (by kernel_rfl) Tryz.ntmps11 rfl (by rw [Tryz.results11]) ?_
  repeat (first | (refine RunH ?_; intro w hL hB; try clear w) | (refine Both.mk ?_ ?_ <;> conv => whnf) | fail)
  (refine Nw.sep hL hB (fun xb w hL hB hxb => ?_); conv => whnf)
  repeat (first | (refine RunK ?_; intro w hL hB; try clear w) | (refine V.treeA ttOk hL (.q 0 (.q 1 (.q 2 (.q 3 (.q 4 (.q 5 (.q 6 (.q 7 (.q 8 (.q 9 (.q 10 .nil))))))))))) mixed (by decide +kernel) ?_; replace hL := hL.drew; conv => whnf) | (refine V.tailA ttOk mixed (by decide +kernel) ?_; replace hL := hL.drew; conv => whnf) | (refine Both.mk ?_ ?_ <;> conv => whnf) | fail)
  refine (of_fn cb qb cm sm g bg tk (.slice none 0 0) (.slice none 0 0) q fr 7 30 to0 n0 0 (.slice (some ⟨nb, no, none⟩) ln nc) (.slice da dn dc) [] _ hq (by omega) hf ⟨_, _, _, rfl⟩ (hL.perm ((List.perm_append_comm (l₁ := [_]) (l₂ := [_, _, _, _])).append_right R)) hB (by rw [← hln] at hns ⊢; exact mm1 hns)).mono fun r w hr => ?_
  obtain ⟨hr, hB, hL⟩ := hr
  rw [if_pos ⟨htk0, hfr⟩] at hr
  subst hr
  replace hL := hL.perm ((List.perm_append_comm (l₁ := [_, _, _, _]) (l₂ := [_])).append_right R)
  unfold cR cC qR qC at hL
  conv => whnf
  repeat (first | (refine RunH ?_; intro w hL hB; try clear w) | (refine Both.mk ?_ ?_ <;> conv => whnf) | (intro o9 ho9; conv => whnf) | (refine Ld.row1 ttOk (hnr hL (by repeat (first | exact hns | exact .head _ | apply List.Mem.tail))).toN.rowOf rfl rfl (k := 1) (v := .int .i64 0) rfl (by omega) ?_; conv => whnf) | (refine Qv.arr (cells := #[.int .i64 51, .int .i64 51, .int .i64 30, .int .i64 31, .int .i64 32, .int .i64 51, .int .i64 0]) ttOk tl73 tl3 rfl ?_; conv => whnf) | (rw [hstep]; conv => whnf) | fail)
  rw [hq]
  refine Rv.goneS ttOk hL intK 4 tl64 rfl (goodS hf) hB fun w l' hg9 hL hB => ?_
  rw [gone_fr hfr hg9] at hL
  try dsimp only [List.set] at hL
  conv => whnf
  repeat (first | (refine RunH ?_; intro w hL hB; try clear w) | (refine Both.mk ?_ ?_ <;> conv => whnf) | fail)
  refine (wrote_ok cb qb cm g bg tk (.slice none 0 0) (.slice none 0 0) q 0 [] _ hk htk hg (by omega) hL.toS hB).mono fun r w hr => ?_
  obtain ⟨hr, hS⟩ := hr
  subst hr
  obtain ⟨ov', nv9, dv9, sm9, hB, hL⟩ := hS
  obtain ⟨oa, oc, rfl⟩ := (show SlN w 5 ov' 1 _ from hL.rowN (i := 2) rfl).shape
  conv => whnf
  repeat (first | (refine RunH ?_; intro w hL hB; try clear w) | (refine Both.mk ?_ ?_ <;> conv => whnf) | fail)
  refine (went_fn cb cm _ bg (tk + 1) (.slice none 0 0) (.slice oa 1 oc) _ ⟨_, _, _, rfl⟩ ⟨_, _, _, rfl⟩ hL hB).mono fun r w hr => ?_
  obtain ⟨hr, hB, hL⟩ := hr
  subst hr
  conv => whnf
  repeat (first | (refine RunH ?_; intro w hL hB; try clear w) | (refine Both.mk ?_ ?_ <;> conv => whnf) | fail)
  exact ⟨sm9, _, nv9, dv9, rfl, hB, hL.perm (pH1 _ _ _ _ _ _ _ _)⟩
set_option maxHeartbeats 16000000 in
theorem hear_wait (cb cm qb sm : Nat) (g bg tk : Int) (q : QS) (fr to0 n0 : Int) (nv dv : Value)  (R : List Res) (hq : q.sent = .map (some sm)) (hf : -1000000 ≤ fr ∧ fr ≤ 1000000) (hfr : fr = to0) (htk0 : q.tk = n0) (hstep : q.step = 2) (ht : 0 ≤ q.tried ∧ q.tried < 19) (hds : ∃ a n c, dv = .slice a n c)
    (hL : Sep Tryz.prog B w0 w (cR cb g bg tk cm (.slice none 0 0) (.slice none 0 0) :: qR qb q :: .mp 3 cm [(.int .i64 q.num, ptrN qb)] :: .mp 3 sm [(.int .i64 to0, .bool true)] :: R)) (hB : B ≤ w.heap.size) (hns : nR nv ([n0, 14]) ∈ R) :
    Fn Tryz.prog 11 #[ptrN cb, msV fr 7 30 nv dv] w fun r w' => r = .tuple #[.slice none 0 0, .slice none 0 0] ∧ B ≤ w'.heap.size ∧ Sep Tryz.prog B w0 w' (cR cb g bg tk cm (.slice none 0 0) (.slice none 0 0) :: qR qb { q with tried := q.tried + 1, step := 6, waited := 0, pause := 5, sent := .map none } :: .mp 3 cm [(.int .i64 q.num, ptrN qb)] :: R) := by
  obtain ⟨da, dn, dc, rfl⟩ := hds
  obtain ⟨na, nc, rfl⟩ := (nR_sl (hL.hold (nR nv ([n0, 14])) (mm4 hns))).shape
  obtain ⟨nb, no, rfl, _⟩ := (nR_sl (hL.hold (nR _ ([n0, 14])) (mm4 hns))).addr (by simp [numC])
  rw [numC_len] at hns ⊢
  have hnr : ∀ {x : World} {L' : List Res}, Sep Tryz.prog B w0 x L' → nR (.slice (some ⟨nb, no, none⟩) ([n0, 14]).length nc) ([n0, 14]) ∈ L' → Sl x (.slice (some ⟨nb, no, none⟩) ([n0, 14]).length nc) (numC ([n0, 14])) := fun h hm => nR_sl (h.hold _ hm)
  have hlen : 2 = ([n0, 14]).length := rfl
  
  generalize hln : ([n0, 14]).length = ln at *
  unfold cR cC at hL
  unfold msV
  refine Fn.mk Tryz.func11 rfl (by kernel_rfl) Tryz.ntmps11 rfl (by rw [Tryz.results11]) ?_
  repeat (first | (refine RunH ?_; intro w hL hB; try clear w) | (refine Both.mk ?_ ?_ <;> conv => whnf) | fail)
  (refine Nw.sep hL hB (fun xb w hL hB hxb => ?_); conv => whnf)
  repeat (first | (refine RunK ?_; intro w hL hB; try clear w) | (refine V.treeA ttOk hL (.q 0 (.q 1 (.q 2 (.q 3 (.q 4 (.q 5 (.q 6 (.q 7 (.q 8 (.q 9 (.q 10 .nil))))))))))) mixed (by decide +kernel) ?_; replace hL := hL.drew; conv => whnf) | (refine V.tailA ttOk mixed (by decide +kernel) ?_; replace hL := hL.drew; conv => whnf) | (refine Both.mk ?_ ?_ <;> conv => whnf) | fail)
  refine (of_fn cb qb cm sm g bg tk (.slice none 0 0) (.slice none 0 0) q fr 7 30 to0 n0 14 (.slice (some ⟨nb, no, none⟩) ln nc) (.slice da dn dc) [] _ hq (by omega) hf ⟨_, _, _, rfl⟩ (hL.perm ((List.perm_append_comm (l₁ := [_]) (l₂ := [_, _, _, _])).append_right R)) hB (by rw [← hln] at hns ⊢; exact mm1 hns)).mono fun r w hr => ?_
  obtain ⟨hr, hB, hL⟩ := hr
  rw [if_pos ⟨htk0, hfr⟩] at hr
  subst hr
  replace hL := hL.perm ((List.perm_append_comm (l₁ := [_, _, _, _]) (l₂ := [_])).append_right R)
  unfold cR cC qR qC at hL
  conv => whnf
  repeat (first | (refine RunH ?_; intro w hL hB; try clear w) | (refine Both.mk ?_ ?_ <;> conv => whnf) | (intro o9 ho9; conv => whnf) | (refine Ld.row1 ttOk (hnr hL (by repeat (first | exact hns | exact .head _ | apply List.Mem.tail))).toN.rowOf rfl rfl (k := 1) (v := .int .i64 14) rfl (by omega) ?_; conv => whnf) | (refine Qv.arr (cells := #[.int .i64 51, .int .i64 51, .int .i64 30, .int .i64 31, .int .i64 32, .int .i64 51, .int .i64 0]) ttOk tl73 tl3 rfl ?_; conv => whnf) | (rw [hstep]; conv => whnf) | fail)
  rw [hq]
  refine Rv.goneS ttOk hL intK 4 tl64 rfl (goodS hf) hB fun w l' hg9 hL hB => ?_
  rw [gone_fr hfr hg9] at hL
  try dsimp only [List.set] at hL
  conv => whnf
  repeat (first | (refine RunH ?_; intro w hL hB; try clear w) | (refine Both.mk ?_ ?_ <;> conv => whnf) | fail)
  refine (wrote_wait cb qb cm g bg tk (.slice none 0 0) (.slice none 0 0) q _ ht (hL.sub (L' := _ :: _ :: _ :: R) (.cons _ (((sub1 _ R).cons_cons _).cons_cons _ |>.cons_cons _))) hB).mono fun r w hr => ?_
  obtain ⟨hr, hB, hL⟩ := hr
  subst hr
  conv => whnf
  repeat (first | (refine RunH ?_; intro w hL hB; try clear w) | (refine Both.mk ?_ ?_ <;> conv => whnf) | fail)
  refine (went_fn cb cm _ bg tk (.slice none 0 0) (.slice none 0 0) _ ⟨_, _, _, rfl⟩ ⟨_, _, _, rfl⟩ hL hB).mono fun r w hr => ?_
  obtain ⟨hr, hB, hL⟩ := hr
  subst hr
  conv => whnf
  repeat (first | (refine RunH ?_; intro w hL hB; try clear w) | (refine Both.mk ?_ ?_ <;> conv => whnf) | fail)
  exact ⟨rfl, hB, hL⟩

set_option maxHeartbeats 16000000 in
theorem hear_read (cb cm qb sm : Nat) (g bg tk : Int) (q : QS) (fr to0 n0 : Int) (nv dv : Value) (d : List UInt8) (R : List Res) (hq : q.sent = .map (some sm)) (hf : -1000000 ≤ fr ∧ fr ≤ 1000000) (hfr : fr = to0) (htk0 : q.tk = n0) (hstep : q.step = 3) (hk : q.kind = 3) (hpl : q.place = 0) (X : Res) (hdd : X ∈ R) (hX : ∀ x, X.holds Tryz.prog x → Sl x dv (bv d)) (hdl : d.length ≤ 2147483648) (htk : 0 ≤ tk ∧ tk < 1000000) (hg : 0 ≤ g ∧ g ≤ 2) (hds : ∃ a n c, dv = .slice a n c)
    (hL : Sep Tryz.prog B w0 w (cR cb g bg tk cm (.slice none 0 0) (.slice none 0 0) :: qR qb q :: .mp 3 cm [(.int .i64 q.num, ptrN qb)] :: .mp 3 sm [(.int .i64 to0, .bool true)] :: R)) (hB : B ≤ w.heap.size) (hns : nR nv ([n0, 0]) ∈ R) :
    Fn Tryz.prog 11 #[ptrN cb, msV fr 7 31 nv dv] w fun r w' => ∃ dv', Heard B w0 cb cm qb g bg tk { q with outc := 0, data := dv', step := 5, master := g } g 50 [4, q.vol] [] (bR dv' d :: R) r w' := by
  obtain ⟨da, dn, dc, rfl⟩ := hds
  obtain ⟨na, nc, rfl⟩ := (nR_sl (hL.hold (nR nv ([n0, 0])) (mm4 hns))).shape
  obtain ⟨nb, no, rfl, _⟩ := (nR_sl (hL.hold (nR _ ([n0, 0])) (mm4 hns))).addr (by simp [numC])
  rw [numC_len] at hns ⊢
  have hnr : ∀ {x : World} {L' : List Res}, Sep Tryz.prog B w0 x L' → nR (.slice (some ⟨nb, no, none⟩) ([n0, 0]).length nc) ([n0, 0]) ∈ L' → Sl x (.slice (some ⟨nb, no, none⟩) ([n0, 0]).length nc) (numC ([n0, 0])) := fun h hm => nR_sl (h.hold _ hm)
  have hlen : 2 = ([n0, 0]).length := rfl
  
  generalize hln : ([n0, 0]).length = ln at *
  unfold cR cC at hL
  unfold msV
  refine Fn.mk Tryz.func11 rfl (by kernel_rfl) Tryz.ntmps11 rfl (by rw [Tryz.results11]) ?_
  repeat (first | (refine RunH ?_; intro w hL hB; try clear w) | (refine Both.mk ?_ ?_ <;> conv => whnf) | fail)
  (refine Nw.sep hL hB (fun xb w hL hB hxb => ?_); conv => whnf)
  repeat (first | (refine RunK ?_; intro w hL hB; try clear w) | (refine V.treeA ttOk hL (.q 0 (.q 1 (.q 2 (.q 3 (.q 4 (.q 5 (.q 6 (.q 7 (.q 8 (.q 9 (.q 10 .nil))))))))))) mixed (by decide +kernel) ?_; replace hL := hL.drew; conv => whnf) | (refine V.tailA ttOk mixed (by decide +kernel) ?_; replace hL := hL.drew; conv => whnf) | (refine Both.mk ?_ ?_ <;> conv => whnf) | fail)
  refine (of_fn cb qb cm sm g bg tk (.slice none 0 0) (.slice none 0 0) q fr 7 31 to0 n0 0 (.slice (some ⟨nb, no, none⟩) ln nc) (.slice da dn dc) [] _ hq (by omega) hf ⟨_, _, _, rfl⟩ (hL.perm ((List.perm_append_comm (l₁ := [_]) (l₂ := [_, _, _, _])).append_right R)) hB (by rw [← hln] at hns ⊢; exact mm1 hns)).mono fun r w hr => ?_
  obtain ⟨hr, hB, hL⟩ := hr
  rw [if_pos ⟨htk0, hfr⟩] at hr
  subst hr
  replace hL := hL.perm ((List.perm_append_comm (l₁ := [_, _, _, _]) (l₂ := [_])).append_right R)
  unfold cR cC qR qC at hL
  conv => whnf
  repeat (first | (refine RunH ?_; intro w hL hB; try clear w) | (refine Both.mk ?_ ?_ <;> conv => whnf) | (intro o9 ho9; conv => whnf) | (refine Ld.row1 ttOk (hnr hL (by repeat (first | exact hns | exact .head _ | apply List.Mem.tail))).toN.rowOf rfl rfl (k := 1) (v := .int .i64 0) rfl (by omega) ?_; conv => whnf) | (refine Qv.arr (cells := #[.int .i64 51, .int .i64 51, .int .i64 30, .int .i64 31, .int .i64 32, .int .i64 51, .int .i64 0]) ttOk tl73 tl3 rfl ?_; conv => whnf) | (rw [hstep]; conv => whnf) | fail)
  rw [hq]
  refine Rv.goneS ttOk hL intK 4 tl64 rfl (goodS hf) hB fun w l' hg9 hL hB => ?_
  rw [gone_fr hfr hg9] at hL
  try dsimp only [List.set] at hL
  conv => whnf
  repeat (first | (refine RunH ?_; intro w hL hB; try clear w) | (refine Both.mk ?_ ?_ <;> conv => whnf) | fail)
  refine (read_ok cb qb cm g bg tk (.slice none 0 0) (.slice none 0 0) q fr 7 31 (.slice (some ⟨nb, no, none⟩) ln nc) (.slice da dn dc) d 0 [] _ hk hpl X (mm1 hdd) hX hdl ⟨_, _, _, rfl⟩ htk hg (by omega) hL.toS hB).mono fun r w hr => ?_
  obtain ⟨hr, dv', hS⟩ := hr
  subst hr
  obtain ⟨ov', nv9, dv9, sm9, hB, hL⟩ := hS
  obtain ⟨oa, oc, rfl⟩ := (show SlN w 5 ov' 1 _ from hL.rowN (i := 2) rfl).shape
  conv => whnf
  repeat (first | (refine RunH ?_; intro w hL hB; try clear w) | (refine Both.mk ?_ ?_ <;> conv => whnf) | fail)
  refine (went_fn cb cm _ bg (tk + 1) (.slice none 0 0) (.slice oa 1 oc) _ ⟨_, _, _, rfl⟩ ⟨_, _, _, rfl⟩ hL hB).mono fun r w hr => ?_
  obtain ⟨hr, hB, hL⟩ := hr
  subst hr
  conv => whnf
  repeat (first | (refine RunH ?_; intro w hL hB; try clear w) | (refine Both.mk ?_ ?_ <;> conv => whnf) | fail)
  exact ⟨dv', sm9, _, nv9, dv9, rfl, hB, hL.perm (pH2 _ _ _ _ _ _ _ _ _)⟩
set_option maxHeartbeats 16000000 in
theorem hear_ok (cb cm qb sm : Nat) (g bg tk : Int) (q : QS) (fr to0 n0 : Int) (nv dv : Value) (st ep fz n1 : Int) (ns : List Int) (qa : Option Addr) (qn qc : Nat) (R : List Res) (hq : q.sent = .map (some sm)) (hf : -1000000 ≤ fr ∧ fr ≤ 1000000) (hfr : fr = to0) (htk0 : q.tk = n0) (hstep : q.step = 5) (hns1 : ∀ n ∈ n1 :: ns, 0 ≤ n ∧ n ≤ 63) (hnl : ns.length ≤ 1000) (hep : 1 ≤ ep ∧ ep ≤ 2147483647) (hst : 0 ≤ st ∧ st < 2) (hfz : 0 ≤ fz ∧ fz ≤ 1) (hsame : ep = q.ep ∧ fz = 0) (hnum : 0 ≤ q.num ∧ q.num ≤ 1000000) (hqd : q.data = .slice qa qn qc) (hds : ∃ a n c, dv = .slice a n c)
    (hL : Sep Tryz.prog B w0 w (cR cb g bg tk cm (.slice none 0 0) (.slice none 0 0) :: qR qb q :: .mp 3 cm [(.int .i64 q.num, ptrN qb)] :: .mp 3 sm [(.int .i64 to0, .bool true)] :: R)) (hB : B ≤ w.heap.size) (hns : nR nv (n0 :: 0 :: q.vol :: st :: ep :: fz :: n1 :: ns) ∈ R) :
    Fn Tryz.prog 11 #[ptrN cb, msV fr 7 51 nv dv] w fun r w' => ∃ rv', r = .tuple #[rv', .slice none 0 0] ∧ B ≤ w'.heap.size ∧ Sep Tryz.prog B w0 w' (cR cb g bg tk cm (.slice none 0 0) (.slice none 0 0) :: .mp 3 cm [] :: .row 51 6 rv' 1 (rC q.num q.outc 0 0 0 (.slice qa qn qc)) :: R) := by
  obtain ⟨da, dn, dc, rfl⟩ := hds
  obtain ⟨na, nc, rfl⟩ := (nR_sl (hL.hold (nR nv (n0 :: 0 :: q.vol :: st :: ep :: fz :: n1 :: ns)) (mm4 hns))).shape
  obtain ⟨nb, no, rfl, _⟩ := (nR_sl (hL.hold (nR _ (n0 :: 0 :: q.vol :: st :: ep :: fz :: n1 :: ns)) (mm4 hns))).addr (by simp [numC])
  rw [numC_len] at hns ⊢
  have hnr : ∀ {x : World} {L' : List Res}, Sep Tryz.prog B w0 x L' → nR (.slice (some ⟨nb, no, none⟩) (n0 :: 0 :: q.vol :: st :: ep :: fz :: n1 :: ns).length nc) (n0 :: 0 :: q.vol :: st :: ep :: fz :: n1 :: ns) ∈ L' → Sl x (.slice (some ⟨nb, no, none⟩) (n0 :: 0 :: q.vol :: st :: ep :: fz :: n1 :: ns).length nc) (numC (n0 :: 0 :: q.vol :: st :: ep :: fz :: n1 :: ns)) := fun h hm => nR_sl (h.hold _ hm)
  have hlen : 7 ≤ (n0 :: 0 :: q.vol :: st :: ep :: fz :: n1 :: ns).length := by simp
  
  generalize hln : (n0 :: 0 :: q.vol :: st :: ep :: fz :: n1 :: ns).length = ln at *
  unfold cR cC at hL
  unfold msV
  refine Fn.mk Tryz.func11 rfl (by kernel_rfl) Tryz.ntmps11 rfl (by rw [Tryz.results11]) ?_
  repeat (first | (refine RunH ?_; intro w hL hB; try clear w) | (refine Both.mk ?_ ?_ <;> conv => whnf) | fail)
  (refine Nw.sep hL hB (fun xb w hL hB hxb => ?_); conv => whnf)
  repeat (first | (refine RunK ?_; intro w hL hB; try clear w) | (refine V.treeA ttOk hL (.q 0 (.q 1 (.q 2 (.q 3 (.q 4 (.q 5 (.q 6 (.q 7 (.q 8 (.q 9 (.q 10 .nil))))))))))) mixed (by decide +kernel) ?_; replace hL := hL.drew; conv => whnf) | (refine V.tailA ttOk mixed (by decide +kernel) ?_; replace hL := hL.drew; conv => whnf) | (refine Both.mk ?_ ?_ <;> conv => whnf) | fail)
  refine (of_fn cb qb cm sm g bg tk (.slice none 0 0) (.slice none 0 0) q fr 7 51 to0 n0 0 (.slice (some ⟨nb, no, none⟩) ln nc) (.slice da dn dc) (q.vol :: st :: ep :: fz :: n1 :: ns) _ hq (by omega) hf ⟨_, _, _, rfl⟩ (hL.perm ((List.perm_append_comm (l₁ := [_]) (l₂ := [_, _, _, _])).append_right R)) hB (by rw [← hln] at hns ⊢; exact mm1 hns)).mono fun r w hr => ?_
  obtain ⟨hr, hB, hL⟩ := hr
  rw [if_pos ⟨htk0, hfr⟩] at hr
  subst hr
  replace hL := hL.perm ((List.perm_append_comm (l₁ := [_, _, _, _]) (l₂ := [_])).append_right R)
  unfold cR cC qR qC at hL
  conv => whnf
  repeat (first | (refine RunH ?_; intro w hL hB; try clear w) | (refine Both.mk ?_ ?_ <;> conv => whnf) | (intro o9 ho9; conv => whnf) | (refine Ld.row1 ttOk (hnr hL (by repeat (first | exact hns | exact .head _ | apply List.Mem.tail))).toN.rowOf rfl rfl (k := 1) (v := .int .i64 0) rfl (by omega) ?_; conv => whnf) | (refine Qv.arr (cells := #[.int .i64 51, .int .i64 51, .int .i64 30, .int .i64 31, .int .i64 32, .int .i64 51, .int .i64 0]) ttOk tl73 tl3 rfl ?_; conv => whnf) | (rw [hstep]; conv => whnf) | fail)
  refine (good_look cb qb cm g bg tk (.slice none 0 0) (.slice none 0 0) q fr 7 51 n0 st ep fz n1 (.slice (some ⟨nb, no, none⟩) ln nc) (.slice da dn dc) ns _ hst hep hfz hns1 (by omega) ⟨_, _, _, rfl⟩ (hL.perm ((List.perm_append_comm (l₁ := [_]) (l₂ := [_, _])).append_right _)) hB (by repeat (first | exact hns | exact .head _ | apply List.Mem.tail))).mono fun r w hr => ?_
  obtain ⟨hr, hB, hL⟩ := hr
  subst hr
  replace hL := hL.perm ((List.perm_append_comm (l₁ := [_, _]) (l₂ := [_])).append_right _)
  unfold cR cC qR qC at hL
  conv => whnf
  repeat (first | (refine RunH ?_; intro w hL hB; try clear w) | (refine Both.mk ?_ ?_ <;> conv => whnf) | fail)
  rw [hq]
  refine Rv.goneS ttOk hL intK 4 tl64 rfl (goodS hf) hB fun w l' hg9 hL hB => ?_
  rw [gone_fr hfr hg9] at hL
  try dsimp only [List.set] at hL
  conv => whnf
  repeat (first | (refine RunH ?_; intro w hL hB; try clear w) | (refine Both.mk ?_ ?_ <;> conv => whnf) | fail)
  repeat (first | (refine RunK ?_; intro w hL hB; try clear w) | (refine V.treeA ttOk hL (.q 0 (.q 1 (.q 2 (.q 3 (.q 4 (.q 5 (.q 6 (.q 7 (.q 8 (.q 9 (.q 10 (.q 11 (.q 12 (.q 13 (.q 14 (.q 15 (.q 16 (.q 17 (.q 18 (.q 19 (.q 20 .nil))))))))))))))))))))) mixed (by decide +kernel) ?_; replace hL := hL.drew; conv => whnf) | (refine V.tailA ttOk mixed (by decide +kernel) ?_; replace hL := hL.drew; conv => whnf) | (refine Both.mk ?_ ?_ <;> conv => whnf) | (intro o9 ho9; conv => whnf) | (refine Lq.of_class (fun x hx => Ld.row1 ttOk (hnr hx (by repeat (first | exact hns | exact .head _ | apply List.Mem.tail))).toN.rowOf rfl rfl (k := 4) (v := .int .i64 ep) rfl (by omega) rfl) ?_; conv => whnf) | (refine Lq.of_class (fun x hx => Ld.row1 ttOk (hnr hx (by repeat (first | exact hns | exact .head _ | apply List.Mem.tail))).toN.rowOf rfl rfl (k := 5) (v := .int .i64 fz) rfl (by omega) rfl) ?_; conv => whnf) | fail)
  rw [hqd]
  repeat (first | (refine RunH ?_; intro w hL hB; try clear w) | (refine Both.mk ?_ ?_ <;> conv => whnf) | fail)
  refine (ends_fn cb qb cm g bg tk (.slice none 0 0) (.slice none 0 0) q q.outc 0 0 0 0 qa qn qc 0 [] _ (by omega) hnum hL.toE hB).mono fun r w hr => ?_
  obtain ⟨hr, rv', hB, hL⟩ := hr
  subst hr
  obtain ⟨ra, rc, rfl⟩ := (show SlN w 6 rv' 1 _ from hL.rowN (i := 3) rfl).shape
  conv => whnf
  repeat (first | (refine RunH ?_; intro w hL hB; try clear w) | (refine Both.mk ?_ ?_ <;> conv => whnf) | fail)
  refine (went_fn cb cm _ bg tk (.slice ra 1 rc) (.slice none 0 0) _ ⟨_, _, _, rfl⟩ ⟨_, _, _, rfl⟩ hL hB).mono fun r w hr => ?_
  obtain ⟨hr, hB, hL⟩ := hr
  subst hr
  conv => whnf
  repeat (first | (refine RunH ?_; intro w hL hB; try clear w) | (refine Both.mk ?_ ?_ <;> conv => whnf) | fail)
  exact ⟨_, rfl, hB, hL.sub ((sub1 _ _).cons_cons _)⟩
set_option maxHeartbeats 16000000 in
theorem hear_no (cb cm qb sm : Nat) (g bg tk : Int) (q : QS) (fr to0 n0 : Int) (nv dv : Value) (st ep fz n1 : Int) (ns : List Int) (R : List Res) (hq : q.sent = .map (some sm)) (hf : -1000000 ≤ fr ∧ fr ≤ 1000000) (hfr : fr = to0) (htk0 : q.tk = n0) (hstep : q.step = 5) (hns1 : ∀ n ∈ n1 :: ns, 0 ≤ n ∧ n ≤ 63) (hnl : ns.length ≤ 1000) (hep : 1 ≤ ep ∧ ep ≤ 2147483647) (hst : 0 ≤ st ∧ st < 2) (hfz : 0 ≤ fz ∧ fz ≤ 1) (hsame : ¬ (ep = q.ep ∧ fz = 0)) (ht : 0 ≤ q.tried ∧ q.tried < 19) (hds : ∃ a n c, dv = .slice a n c)
    (hL : Sep Tryz.prog B w0 w (cR cb g bg tk cm (.slice none 0 0) (.slice none 0 0) :: qR qb q :: .mp 3 cm [(.int .i64 q.num, ptrN qb)] :: .mp 3 sm [(.int .i64 to0, .bool true)] :: R)) (hB : B ≤ w.heap.size) (hns : nR nv (n0 :: 0 :: q.vol :: st :: ep :: fz :: n1 :: ns) ∈ R) :
    Fn Tryz.prog 11 #[ptrN cb, msV fr 7 51 nv dv] w fun r w' => r = .tuple #[.slice none 0 0, .slice none 0 0] ∧ B ≤ w'.heap.size ∧ Sep Tryz.prog B w0 w' (cR cb g bg tk cm (.slice none 0 0) (.slice none 0 0) :: qR qb { q with tried := q.tried + 1, step := 6, waited := 0, pause := 2, sent := .map none } :: .mp 3 cm [(.int .i64 q.num, ptrN qb)] :: R) := by
  obtain ⟨da, dn, dc, rfl⟩ := hds
  obtain ⟨na, nc, rfl⟩ := (nR_sl (hL.hold (nR nv (n0 :: 0 :: q.vol :: st :: ep :: fz :: n1 :: ns)) (mm4 hns))).shape
  obtain ⟨nb, no, rfl, _⟩ := (nR_sl (hL.hold (nR _ (n0 :: 0 :: q.vol :: st :: ep :: fz :: n1 :: ns)) (mm4 hns))).addr (by simp [numC])
  rw [numC_len] at hns ⊢
  have hnr : ∀ {x : World} {L' : List Res}, Sep Tryz.prog B w0 x L' → nR (.slice (some ⟨nb, no, none⟩) (n0 :: 0 :: q.vol :: st :: ep :: fz :: n1 :: ns).length nc) (n0 :: 0 :: q.vol :: st :: ep :: fz :: n1 :: ns) ∈ L' → Sl x (.slice (some ⟨nb, no, none⟩) (n0 :: 0 :: q.vol :: st :: ep :: fz :: n1 :: ns).length nc) (numC (n0 :: 0 :: q.vol :: st :: ep :: fz :: n1 :: ns)) := fun h hm => nR_sl (h.hold _ hm)
  have hlen : 7 ≤ (n0 :: 0 :: q.vol :: st :: ep :: fz :: n1 :: ns).length := by simp
  
  generalize hln : (n0 :: 0 :: q.vol :: st :: ep :: fz :: n1 :: ns).length = ln at *
  unfold cR cC at hL
  unfold msV
  refine Fn.mk Tryz.func11 rfl (by kernel_rfl) Tryz.ntmps11 rfl (by rw [Tryz.results11]) ?_
  repeat (first | (refine RunH ?_; intro w hL hB; try clear w) | (refine Both.mk ?_ ?_ <;> conv => whnf) | fail)
  (refine Nw.sep hL hB (fun xb w hL hB hxb => ?_); conv => whnf)
  repeat (first | (refine RunK ?_; intro w hL hB; try clear w) | (refine V.treeA ttOk hL (.q 0 (.q 1 (.q 2 (.q 3 (.q 4 (.q 5 (.q 6 (.q 7 (.q 8 (.q 9 (.q 10 .nil))))))))))) mixed (by decide +kernel) ?_; replace hL := hL.drew; conv => whnf) | (refine V.tailA ttOk mixed (by decide +kernel) ?_; replace hL := hL.drew; conv => whnf) | (refine Both.mk ?_ ?_ <;> conv => whnf) | fail)
  refine (of_fn cb qb cm sm g bg tk (.slice none 0 0) (.slice none 0 0) q fr 7 51 to0 n0 0 (.slice (some ⟨nb, no, none⟩) ln nc) (.slice da dn dc) (q.vol :: st :: ep :: fz :: n1 :: ns) _ hq (by omega) hf ⟨_, _, _, rfl⟩ (hL.perm ((List.perm_append_comm (l₁ := [_]) (l₂ := [_, _, _, _])).append_right R)) hB (by rw [← hln] at hns ⊢; exact mm1 hns)).mono fun r w hr => ?_
  obtain ⟨hr, hB, hL⟩ := hr
  rw [if_pos ⟨htk0, hfr⟩] at hr
  subst hr
  replace hL := hL.perm ((List.perm_append_comm (l₁ := [_, _, _, _]) (l₂ := [_])).append_right R)
  unfold cR cC qR qC at hL
  conv => whnf
  repeat (first | (refine RunH ?_; intro w hL hB; try clear w) | (refine Both.mk ?_ ?_ <;> conv => whnf) | (intro o9 ho9; conv => whnf) | (refine Ld.row1 ttOk (hnr hL (by repeat (first | exact hns | exact .head _ | apply List.Mem.tail))).toN.rowOf rfl rfl (k := 1) (v := .int .i64 0) rfl (by omega) ?_; conv => whnf) | (refine Qv.arr (cells := #[.int .i64 51, .int .i64 51, .int .i64 30, .int .i64 31, .int .i64 32, .int .i64 51, .int .i64 0]) ttOk tl73 tl3 rfl ?_; conv => whnf) | (rw [hstep]; conv => whnf) | fail)
  refine (good_look cb qb cm g bg tk (.slice none 0 0) (.slice none 0 0) q fr 7 51 n0 st ep fz n1 (.slice (some ⟨nb, no, none⟩) ln nc) (.slice da dn dc) ns _ hst hep hfz hns1 (by omega) ⟨_, _, _, rfl⟩ (hL.perm ((List.perm_append_comm (l₁ := [_]) (l₂ := [_, _])).append_right _)) hB (by repeat (first | exact hns | exact .head _ | apply List.Mem.tail))).mono fun r w hr => ?_
  obtain ⟨hr, hB, hL⟩ := hr
  subst hr
  replace hL := hL.perm ((List.perm_append_comm (l₁ := [_, _]) (l₂ := [_])).append_right _)
  unfold cR cC qR qC at hL
  conv => whnf
  repeat (first | (refine RunH ?_; intro w hL hB; try clear w) | (refine Both.mk ?_ ?_ <;> conv => whnf) | fail)
  rw [hq]
  refine Rv.goneS ttOk hL intK 4 tl64 rfl (goodS hf) hB fun w l' hg9 hL hB => ?_
  rw [gone_fr hfr hg9] at hL
  try dsimp only [List.set] at hL
  conv => whnf
  repeat (first | (refine RunH ?_; intro w hL hB; try clear w) | (refine Both.mk ?_ ?_ <;> conv => whnf) | fail)
  rcases (show ep ≠ q.ep ∨ (ep = q.ep ∧ fz ≠ 0) by omega) with h9 | ⟨h9, h8⟩
  · repeat (first | (refine RunK ?_; intro w hL hB; try clear w) | (refine V.treeA ttOk hL (.q 0 (.q 1 (.q 2 (.q 3 (.q 4 (.q 5 (.q 6 (.q 7 (.q 8 (.q 9 (.q 10 (.q 11 (.q 12 (.q 13 (.q 14 (.q 15 (.q 16 (.q 17 (.q 18 (.q 19 (.q 20 .nil))))))))))))))))))))) mixed (by decide +kernel) ?_; replace hL := hL.drew; conv => whnf) | (refine V.tailA ttOk mixed (by decide +kernel) ?_; replace hL := hL.drew; conv => whnf) | (refine Both.mk ?_ ?_ <;> conv => whnf) | (intro o9 ho9; conv => whnf) | (refine Lq.of_class (fun x hx => Ld.row1 ttOk (hnr hx (by repeat (first | exact hns | exact .head _ | apply List.Mem.tail))).toN.rowOf rfl rfl (k := 4) (v := .int .i64 ep) rfl (by omega) rfl) ?_; conv => whnf) | (refine Lq.of_class (fun x hx => Ld.row1 ttOk (hnr hx (by repeat (first | exact hns | exact .head _ | apply List.Mem.tail))).toN.rowOf rfl rfl (k := 5) (v := .int .i64 fz) rfl (by omega) rfl) ?_; conv => whnf) | fail)
    refine (round_fn cb qb cm g bg tk (.slice none 0 0) (.slice none 0 0) q 2 _ ht (hL.sub (L' := _ :: _ :: _ :: R) (.cons _ (((sub1 _ R).cons_cons _).cons_cons _ |>.cons_cons _))) hB).mono fun r w hr => ?_
    obtain ⟨hr, hB, hL⟩ := hr
    subst hr
    conv => whnf
    repeat (first | (refine RunH ?_; intro w hL hB; try clear w) | (refine Both.mk ?_ ?_ <;> conv => whnf) | fail)
    refine (went_fn cb cm _ bg tk (.slice none 0 0) (.slice none 0 0) _ ⟨_, _, _, rfl⟩ ⟨_, _, _, rfl⟩ hL hB).mono fun r w hr => ?_
    obtain ⟨hr, hB, hL⟩ := hr
    subst hr
    conv => whnf
    repeat (first | (refine RunH ?_; intro w hL hB; try clear w) | (refine Both.mk ?_ ?_ <;> conv => whnf) | fail)
    exact ⟨rfl, hB, hL⟩
  · repeat (first | (refine RunK ?_; intro w hL hB; try clear w) | (refine V.treeA ttOk hL (.q 0 (.q 1 (.q 2 (.q 3 (.q 4 (.q 5 (.q 6 (.q 7 (.q 8 (.q 9 (.q 10 (.q 11 (.q 12 (.q 13 (.q 14 (.q 15 (.q 16 (.q 17 (.q 18 (.q 19 (.q 20 .nil))))))))))))))))))))) mixed (by decide +kernel) ?_; replace hL := hL.drew; conv => whnf) | (refine V.tailA ttOk mixed (by decide +kernel) ?_; replace hL := hL.drew; conv => whnf) | (refine Both.mk ?_ ?_ <;> conv => whnf) | (intro o9 ho9; conv => whnf) | (refine Lq.of_class (fun x hx => Ld.row1 ttOk (hnr hx (by repeat (first | exact hns | exact .head _ | apply List.Mem.tail))).toN.rowOf rfl rfl (k := 4) (v := .int .i64 ep) rfl (by omega) rfl) ?_; conv => whnf) | (refine Lq.of_class (fun x hx => Ld.row1 ttOk (hnr hx (by repeat (first | exact hns | exact .head _ | apply List.Mem.tail))).toN.rowOf rfl rfl (k := 5) (v := .int .i64 fz) rfl (by omega) rfl) ?_; conv => whnf) | fail)
    refine (round_fn cb qb cm g bg tk (.slice none 0 0) (.slice none 0 0) q 2 _ ht (hL.sub (L' := _ :: _ :: _ :: R) (.cons _ (((sub1 _ R).cons_cons _).cons_cons _ |>.cons_cons _))) hB).mono fun r w hr => ?_
    obtain ⟨hr, hB, hL⟩ := hr
    subst hr
    conv => whnf
    repeat (first | (refine RunH ?_; intro w hL hB; try clear w) | (refine Both.mk ?_ ?_ <;> conv => whnf) | fail)
    refine (went_fn cb cm _ bg tk (.slice none 0 0) (.slice none 0 0) _ ⟨_, _, _, rfl⟩ ⟨_, _, _, rfl⟩ hL hB).mono fun r w hr => ?_
    obtain ⟨hr, hB, hL⟩ := hr
    subst hr
    conv => whnf
    repeat (first | (refine RunH ?_; intro w hL hB; try clear w) | (refine Both.mk ?_ ?_ <;> conv => whnf) | fail)
    exact ⟨rfl, hB, hL⟩

set_option maxHeartbeats 16000000 in
theorem hear_assign (cb cm qb sm : Nat) (g bg tk : Int) (q : QS) (fr to0 n0 : Int) (nv dv : Value) (vo ke co ep n1 : Int) (ns : List Int) (R : List Res) (hq : q.sent = .map (some sm)) (hf : -1000000 ≤ fr ∧ fr ≤ 1000000) (hfr : fr = to0) (htk0 : q.tk = n0) (hstep : q.step = 0) (hns1 : ∀ n ∈ n1 :: ns, 0 ≤ n ∧ n ≤ 63) (hnl : ns.length ≤ 1000) (hep : 1 ≤ ep ∧ ep ≤ 2147483647) (hvo : 1 ≤ vo ∧ vo ≤ 99999999) (hke : 1 ≤ ke ∧ ke ≤ 1099511627776) (hco : 0 ≤ co ∧ co ≤ 4294967295) (hnum : 0 ≤ q.num ∧ q.num ≤ 1000000) (hds : ∃ a n c, dv = .slice a n c)
    (hL : Sep Tryz.prog B w0 w (cR cb g bg tk cm (.slice none 0 0) (.slice none 0 0) :: qR qb q :: .mp 3 cm [(.int .i64 q.num, ptrN qb)] :: .mp 3 sm [(.int .i64 to0, .bool true)] :: R)) (hB : B ≤ w.heap.size) (hns : nR nv (n0 :: 0 :: vo :: ke :: co :: ep :: n1 :: ns) ∈ R) :
    Fn Tryz.prog 11 #[ptrN cb, msV fr 7 51 nv dv] w fun r w' => ∃ rv', r = .tuple #[rv', .slice none 0 0] ∧ B ≤ w'.heap.size ∧ Sep Tryz.prog B w0 w' (cR cb g bg tk cm (.slice none 0 0) (.slice none 0 0) :: .mp 3 cm [] :: .row 51 6 rv' 1 (rC q.num 0 vo ke co (.slice none 0 0)) :: R) := by
  obtain ⟨da, dn, dc, rfl⟩ := hds
  obtain ⟨na, nc, rfl⟩ := (nR_sl (hL.hold (nR nv (n0 :: 0 :: vo :: ke :: co :: ep :: n1 :: ns)) (mm4 hns))).shape
  obtain ⟨nb, no, rfl, _⟩ := (nR_sl (hL.hold (nR _ (n0 :: 0 :: vo :: ke :: co :: ep :: n1 :: ns)) (mm4 hns))).addr (by simp [numC])
  rw [numC_len] at hns ⊢
  have hnr : ∀ {x : World} {L' : List Res}, Sep Tryz.prog B w0 x L' → nR (.slice (some ⟨nb, no, none⟩) (n0 :: 0 :: vo :: ke :: co :: ep :: n1 :: ns).length nc) (n0 :: 0 :: vo :: ke :: co :: ep :: n1 :: ns) ∈ L' → Sl x (.slice (some ⟨nb, no, none⟩) (n0 :: 0 :: vo :: ke :: co :: ep :: n1 :: ns).length nc) (numC (n0 :: 0 :: vo :: ke :: co :: ep :: n1 :: ns)) := fun h hm => nR_sl (h.hold _ hm)
  have hlen : 7 ≤ (n0 :: 0 :: vo :: ke :: co :: ep :: n1 :: ns).length := by simp
  
  generalize hln : (n0 :: 0 :: vo :: ke :: co :: ep :: n1 :: ns).length = ln at *
  unfold cR cC at hL
  unfold msV
  refine Fn.mk Tryz.func11 rfl (by kernel_rfl) Tryz.ntmps11 rfl (by rw [Tryz.results11]) ?_
  repeat (first | (refine RunH ?_; intro w hL hB; try clear w) | (refine Both.mk ?_ ?_ <;> conv => whnf) | fail)
  (refine Nw.sep hL hB (fun xb w hL hB hxb => ?_); conv => whnf)
  repeat (first | (refine RunK ?_; intro w hL hB; try clear w) | (refine V.treeA ttOk hL (.q 0 (.q 1 (.q 2 (.q 3 (.q 4 (.q 5 (.q 6 (.q 7 (.q 8 (.q 9 (.q 10 .nil))))))))))) mixed (by decide +kernel) ?_; replace hL := hL.drew; conv => whnf) | (refine V.tailA ttOk mixed (by decide +kernel) ?_; replace hL := hL.drew; conv => whnf) | (refine Both.mk ?_ ?_ <;> conv => whnf) | fail)
  refine (of_fn cb qb cm sm g bg tk (.slice none 0 0) (.slice none 0 0) q fr 7 51 to0 n0 0 (.slice (some ⟨nb, no, none⟩) ln nc) (.slice da dn dc) (vo :: ke :: co :: ep :: n1 :: ns) _ hq (by omega) hf ⟨_, _, _, rfl⟩ (hL.perm ((List.perm_append_comm (l₁ := [_]) (l₂ := [_, _, _, _])).append_right R)) hB (by rw [← hln] at hns ⊢; exact mm1 hns)).mono fun r w hr => ?_
  obtain ⟨hr, hB, hL⟩ := hr
  rw [if_pos ⟨htk0, hfr⟩] at hr
  subst hr
  replace hL := hL.perm ((List.perm_append_comm (l₁ := [_, _, _, _]) (l₂ := [_])).append_right R)
  unfold cR cC qR qC at hL
  conv => whnf
  repeat (first | (refine RunH ?_; intro w hL hB; try clear w) | (refine Both.mk ?_ ?_ <;> conv => whnf) | (intro o9 ho9; conv => whnf) | (refine Ld.row1 ttOk (hnr hL (by repeat (first | exact hns | exact .head _ | apply List.Mem.tail))).toN.rowOf rfl rfl (k := 1) (v := .int .i64 0) rfl (by omega) ?_; conv => whnf) | (refine Qv.arr (cells := #[.int .i64 51, .int .i64 51, .int .i64 30, .int .i64 31, .int .i64 32, .int .i64 51, .int .i64 0]) ttOk tl73 tl3 rfl ?_; conv => whnf) | (rw [hstep]; conv => whnf) | fail)
  refine (good_assign cb qb cm g bg tk (.slice none 0 0) (.slice none 0 0) q fr 7 51 n0 vo ke co ep n1 (.slice (some ⟨nb, no, none⟩) ln nc) (.slice da dn dc) ns _ hvo hke hco hep hns1 hstep ⟨_, _, _, rfl⟩ (hL.perm ((List.perm_append_comm (l₁ := [_]) (l₂ := [_, _])).append_right _)) hB (by repeat (first | exact hns | exact .head _ | apply List.Mem.tail))).mono fun r w hr => ?_
  obtain ⟨hr, hB, hL⟩ := hr
  subst hr
  replace hL := hL.perm ((List.perm_append_comm (l₁ := [_, _]) (l₂ := [_])).append_right _)
  unfold cR cC qR qC at hL
  conv => whnf
  repeat (first | (refine RunH ?_; intro w hL hB; try clear w) | (refine Both.mk ?_ ?_ <;> conv => whnf) | fail)
  rw [hq]
  refine Rv.goneS ttOk hL intK 4 tl64 rfl (goodS hf) hB fun w l' hg9 hL hB => ?_
  rw [gone_fr hfr hg9] at hL
  try dsimp only [List.set] at hL
  conv => whnf
  repeat (first | (refine RunH ?_; intro w hL hB; try clear w) | (refine Both.mk ?_ ?_ <;> conv => whnf) | fail)
  have hcl6 : ∀ {x : World} {L' : List Res}, Sep Tryz.prog B w0 x L' → .blk xb [.int .i64 fr, .int .i64 7, .int .i64 51, .slice (some ⟨nb, no, none⟩) ln nc, .slice da dn dc] 42 ∈ L' → nR (.slice (some ⟨nb, no, none⟩) ln nc) (n0 :: 0 :: vo :: ke :: co :: ep :: n1 :: ns) ∈ L' → Blk x xb [.int .i64 fr, .int .i64 7, .int .i64 51, .slice (some ⟨nb, no, none⟩) ln nc, .slice da dn dc] 42 ∧ Sl x (.slice (some ⟨nb, no, none⟩) ln nc) (numC (n0 :: 0 :: vo :: ke :: co :: ep :: n1 :: ns)) := fun h a b => ⟨h.hold _ a, hnr h b⟩
  repeat (first | (refine RunH ?_; intro w hL hB; try clear w) | (refine Both.mk ?_ ?_ <;> conv => whnf) | (intro o9 ho9; conv => whnf) | (refine Lq.of_class (fun x hx => by subst hx; exact Ld.row1 ttOk (hnr hL (by repeat (first | exact hns | exact .head _ | apply List.Mem.tail))).toN.rowOf rfl rfl (k := 2) (v := .int .i64 vo) rfl (by omega) rfl) ?_; conv => whnf) | (refine Lq.of_class (fun x hx => by subst hx; exact Ld.row1 ttOk (hnr hL (by repeat (first | exact hns | exact .head _ | apply List.Mem.tail))).toN.rowOf rfl rfl (k := 3) (v := .int .i64 ke) rfl (by omega) rfl) ?_; conv => whnf) | (refine Lq.of_class (fun x hx => by subst hx; exact Ld.row1 ttOk (hnr hL (by repeat (first | exact hns | exact .head _ | apply List.Mem.tail))).toN.rowOf rfl rfl (k := 4) (v := .int .i64 co) rfl (by omega) rfl) ?_; conv => whnf) | fail)
  refine (ends_fn cb qb cm g bg tk (.slice none 0 0) (.slice none 0 0) q 0 vo ke co 0 none 0 0 0 [] _ (by omega) hnum hL.toE hB).mono fun r w hr => ?_
  obtain ⟨hr, rv', hB, hL⟩ := hr
  subst hr
  obtain ⟨ra, rc, rfl⟩ := (show SlN w 6 rv' 1 _ from hL.rowN (i := 3) rfl).shape
  conv => whnf
  repeat (first | (refine RunH ?_; intro w hL hB; try clear w) | (refine Both.mk ?_ ?_ <;> conv => whnf) | fail)
  refine (went_fn cb cm _ bg tk (.slice ra 1 rc) (.slice none 0 0) _ ⟨_, _, _, rfl⟩ ⟨_, _, _, rfl⟩ hL hB).mono fun r w hr => ?_
  obtain ⟨hr, hB, hL⟩ := hr
  subst hr
  conv => whnf
  repeat (first | (refine RunH ?_; intro w hL hB; try clear w) | (refine Both.mk ?_ ?_ <;> conv => whnf) | fail)
  exact ⟨_, rfl, hB, hL.sub ((sub1 _ _).cons_cons _)⟩
end
end Go.Proofs.YtcjnaljdbbjojaaGreatDoor
