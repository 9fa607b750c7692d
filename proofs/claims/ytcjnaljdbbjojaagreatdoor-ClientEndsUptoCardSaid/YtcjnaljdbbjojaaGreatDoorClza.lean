/- client: Tick when nobody answered for the last time. Nothing is claimed here. -/
import Derived.Test.YtcjnaljdbbjojaaGreatDoorClz
namespace Go.Proofs.YtcjnaljdbbjojaaGreatDoor
open Go.RowKit
open Go.Maps (Keyed)
set_option linter.unusedVariables false
set_option linter.unusedSimpArgs false
set_option maxRecDepth 100000

theorem pT5 {α : Type} (c r k m x : α) (C R : List α) : (c :: r :: k :: m :: (x :: C ++ R)).Perm (c :: x :: m :: r :: k :: (C ++ R)) :=
  perm_cnt fun a => by simp only [List.count_append, List.count_cons, List.count_nil]; omega
theorem pT6 {α : Type} (c m r k : α) (R : List α) : (c :: m :: r :: k :: R).Perm (c :: r :: k :: m :: R) :=
  perm_cnt fun a => by simp only [List.count_append, List.count_cons, List.count_nil]; omega
/-- a call that waited too long, for the last time -/
def Last (g : Int) (q : QS) : Prop := 14 ≤ q.waited ∧ q.waited ≤ 1000 ∧ (q.step = 0 ∨ q.step = 1) ∧ q.master = g ∧ q.tried = 19 ∧ q.writes = 0
def retC (qs : List QB) : List Value := qs.flatMap fun p => rC p.2.num (endE p.2) 0 0 0 (.slice none 0 0)
theorem retC_app (l : List QB) (x : QB) : retC (l ++ [x]) = retC l ++ rC x.2.num (endE x.2) 0 0 0 (.slice none 0 0) := by simp [retC]
section
variable {B : Nat} {w0 w : World}
set_option maxHeartbeats 16000000 in
theorem tick_end (cb cm : Nat) (g bg tk : Int) (qs : List QB) (R : List Res) (hnd : (nums qs).Pairwise (· < ·)) (hnum : ∀ p ∈ qs, 0 ≤ p.2.num ∧ p.2.num ≤ 1000000) (hlen : qs.length ≤ 256) (hg : 0 ≤ g ∧ g ≤ 2) (hI : ∀ p ∈ qs, Last g p.2)
    (hL : Sep Tryz.prog B w0 w (cR cb g bg tk cm (.slice none 0 0) (.slice none 0 0) :: .mp 3 cm ((kbs qs).map pE) :: (qRs qs ++ R))) (hB : B ≤ w.heap.size) :
    Fn Tryz.prog 12 #[ptrN cb] w fun r w' => ∃ rv, r = .tuple #[rv, .slice none 0 0] ∧ B ≤ w'.heap.size ∧
      Sep Tryz.prog B w0 w' (cR cb (gOf g qs) bg tk cm (.slice none 0 0) (.slice none 0 0) :: .row 51 6 rv qs.length (retC qs) :: .mp 3 cm [] :: R) := by
  have hndI := nums_nd hnd
  unfold cR cC at hL
  refine Fn.mk Tryz.func12 rfl (by kernel_rfl) Tryz.ntmps12 rfl (by rw [Tryz.results12]) ?_
  repeat (first | (refine RunH ?_; intro w hL hB; try clear w) | (refine Both.mk ?_ ?_ <;> conv => whnf) | fail)
  refine (keysFnI 1 rfl hL hB).mono fun r w ⟨c, hr, hL, hB⟩ => ?_
  subst hr
  conv => whnf
  repeat (first | (refine RunH ?_; intro w hL hB; try clear w) | (refine Both.mk ?_ ?_ <;> conv => whnf) | fail)
  refine (sortedFnI c 1 rfl hndI (by rw [kbs_len]; omega) hL hB).mono fun r w ⟨hL, hB⟩ => ?_
  rw [nums_sorted hnd, kbs_len] at hL
  obtain ⟨ka, kc, rfl⟩ := (hL.rowN (i := 0) rfl).shape
  replace hL := (hL.nilRow 51 6).perm (List.perm_middle (l₁ := [_, _]))
  conv => whnf
  repeat (first | (refine RunH ?_; intro w hL hB; try clear w) | (refine Both.mk ?_ ?_ <;> conv => whnf) | fail)
  refine V.loop (α := List QB) (fun dn => [(0, ptrN cb), (14, .slice ka qs.length kc), (15, .int .i64 (qs.length : Int)), (16, .int .i64 (dn.length : Int))])
    (fun dn w' => ∃ td rv, dn ++ td = qs ∧ B ≤ w'.heap.size ∧ Sep Tryz.prog B w0 w' (cR cb (gOf g dn) bg tk cm rv (.slice none 0 0) :: .row 51 6 rv dn.length (retC dn) :: .row 3 1 (.slice ka qs.length kc) qs.length ((nums qs).map iV) :: .mp 3 cm ((kbs td).map pE) :: (qRs td ++ R))) (fun dn => qs.length - dn.length) [] ⟨rfl, rfl, rfl, rfl, trivial⟩ ⟨qs, .slice none 0 0, rfl, hB, hL⟩ ?_
  repeat clear hL
  repeat clear hB
  rintro dn w ⟨td, rv, hqs, hB, hL⟩
  obtain ⟨oa, oc, rfl⟩ := (show SlN w 6 rv dn.length _ from hL.rowN (i := 1) rfl).shape
  have hlq : dn.length + td.length = qs.length := by rw [← hqs, List.length_append]
  cases td with
  | nil =>
    have hn : dn = qs := by simpa using hqs
    have hl2 : dn.length = qs.length := by rw [hn]
    repeat (first | (refine RunH ?_; intro w hL hB; try clear w) | (refine Both.mk ?_ ?_ <;> conv => whnf) | fail)
    refine (went_fn cb cm (gOf g dn) bg tk _ _ _ ⟨_, _, _, rfl⟩ ⟨_, _, _, rfl⟩ hL hB).mono fun r w hr => ?_
    obtain ⟨hr, hB, hL⟩ := hr
    subst hr
    unfold cR cC at hL
    conv => whnf
    repeat (first | (refine RunH ?_; intro w hL hB; try clear w) | (refine Both.mk ?_ ?_ <;> conv => whnf) | fail)
    subst hn
    exact ⟨_, rfl, hB, hL.sub (.cons_cons _ (.cons_cons _ (.cons _ (.cons_cons _ (.refl _)))))⟩
  | cons p td =>
    rw [List.length_cons] at hlq
    have hpm : p ∈ qs := by rw [← hqs]; simp
    obtain ⟨qb, q⟩ := p
    have hid := hI _ hpm
    have hq0 := hnum _ hpm
    dsimp only at hid hq0
    have hndT : NdI (kbs ((qb, q) :: td)) := nums_nd (by
      rw [← hqs] at hnd
      simp only [nums, List.map_append] at hnd ⊢
      exact (List.pairwise_append.1 hnd).2.1)
    replace hL := hL.perm (pT5 _ _ _ _ (qR qb q) (qRs td) R)
    obtain ⟨⟨kb, rfl⟩, _⟩ := own_addr (show w.ownsRow 0 3 1 _ _ _ from hL.at (i := 4) rfl) (by omega)
    have hkey : ((nums qs).map iV)[dn.length]? = some (.int .i64 q.num) := by rw [← hqs]; simp [nums]
    unfold cR cC qR qC at hL
    repeat (first | (refine RunH ?_; intro w hL hB; try clear w) | (refine Both.mk ?_ ?_ <;> conv => whnf) | (intro o9 ho9; conv => whnf) | (refine Ld.row1 ttOk (hL.rowN (i := 4) rfl).rowOf rfl rfl (k := dn.length) (v := .int .i64 q.num) hkey (by omega) ?_; conv => whnf) | fail)
    refine Rv.seekS ttOk hL intK 2 tl58 tl63 rfl (goodS (by omega)) fun u ok hgot => ?_
    rw [got_kbs hndT (List.mem_cons_self ..) hgot]
    clear hgot
    obtain ⟨i1, i2, i3, i4, i5, i6⟩ := hid
    rcases (show dn = [] ∨ dn ≠ [] from by by_cases h : dn = [] <;> simp [h]) with hdn | hdn
    · subst hdn
      rw [show gOf g [] = g from rfl] at hL
      rcases i3 with i3 | i3
      · conv => whnf
        repeat' (first | (refine RunK ?_; intro w hL hB; try clear w) | (refine V.treeA ttOk hL (.q 0 (.q 1 (.q 2 (.q 3 (.q 4 (.q 5 (.q 6 (.q 7 (.q 8 (.q 9 (.q 10 (.q 11 (.q 12 (.q 13 (.q 14 (.q 15 (.q 16 .nil))))))))))))))))) mixed (by decide +kernel) ?_; replace hL := hL.drew; conv => whnf) | (refine V.treeA ttOk hL (.q 0 (.q 1 (.q 2 (.q 3 (.q 4 (.q 5 (.q 6 (.q 7 (.q 8 (.q 9 (.q 10 (.q 11 (.q 12 (.q 13 (.q 14 (.q 15 (.q 16 (.q 17 (.q 18 (.q 19 (.q 20 (.q 21 (.q 22 (.q 23 (.q 24 (.q 25 (.q 26 (.q 27 (.q 28 (.q 29 .nil)))))))))))))))))))))))))))))) mixed (by decide +kernel) ?_; replace hL := hL.drew; conv => whnf) | (refine V.treeP ttOk hL 0 (.q 0 (.q 1 (.q 2 (.q 3 (.q 6 (.q 7 (.q 8 (.q 9 (.alt 4 (.q 5 (.alt 10 (.q 11 (.q 12 (.q 13 (.alt 14 .nil .stop)))) .stop)) (.alt 10 (.alt 4 (.q 5 (.q 11 (.q 12 (.q 13 (.alt 14 .nil .stop))))) .stop) .stop)))))))))) mixed (by decide +kernel) ?_; replace hL := hL.drew; conv => whnf) | (refine V.tailA ttOk mixed (by decide +kernel) ?_; replace hL := hL.drew; conv => whnf) | (refine Br.dec (fun hbr => ?_) (fun hbr => ?_) <;> conv => whnf) | (refine Br.mk (fun hbr => ?_) (fun hbr => ?_) <;> conv => whnf) | (refine Both.mk ?_ ?_ <;> conv => whnf) | (refine Rem.mk (by omega) ?_; rw [tmod_nxt hg]; conv => whnf) | fail)
        all_goals
          refine (round_end cb qb cm (nxt g) bg tk (.slice oa ([] : List QB).length oc) (.slice none 0 0) { q with waited := q.waited + 1 } 1 td hndT ([] : List QB).length (retC ([] : List QB)) _ (by first | omega | (simp only [List.length_nil] at *; omega)) hq0 i5 i6 hL hB).mono fun r w hr => ?_
          obtain ⟨hr, rv', hB, hL⟩ := hr
          subst hr
          conv => whnf
          repeat (first | (refine RunH ?_; intro w hL hB; try clear w) | (refine Both.mk ?_ ?_ <;> conv => whnf) | fail)
          refine ⟨([] : List QB) ++ [(qb, q)], ⟨rfl, rfl, rfl, vint (by simp), trivial⟩, ⟨td, rv', by rw [← hqs, List.append_assoc]; rfl, hB, ?_⟩, by dsimp only; rw [List.length_append, List.length_singleton]; omega⟩
          rw [gOf_app, retC_app, List.length_append, List.length_singleton]
          exact (hL.sub (L' := cR cb (nxt g) bg tk cm rv' (.slice none 0 0) :: .mp 3 cm ((kbs td).map pE) :: .row 51 6 rv' (([] : List QB).length + 1) (retC ([] : List QB) ++ rC q.num (endE q) 0 0 0 (.slice none 0 0)) :: _ :: (qRs td ++ R)) (.cons_cons _ (.cons _ (.refl _)))).perm (pT6 _ _ _ _ _)
      · conv => whnf
        repeat' (first | (refine RunK ?_; intro w hL hB; try clear w) | (refine V.treeA ttOk hL (.q 0 (.q 1 (.q 2 (.q 3 (.q 4 (.q 5 (.q 6 (.q 7 (.q 8 (.q 9 (.q 10 (.q 11 (.q 12 (.q 13 (.q 14 (.q 15 (.q 16 .nil))))))))))))))))) mixed (by decide +kernel) ?_; replace hL := hL.drew; conv => whnf) | (refine V.treeA ttOk hL (.q 0 (.q 1 (.q 2 (.q 3 (.q 4 (.q 5 (.q 6 (.q 7 (.q 8 (.q 9 (.q 10 (.q 11 (.q 12 (.q 13 (.q 14 (.q 15 (.q 16 (.q 17 (.q 18 (.q 19 (.q 20 (.q 21 (.q 22 (.q 23 (.q 24 (.q 25 (.q 26 (.q 27 (.q 28 (.q 29 .nil)))))))))))))))))))))))))))))) mixed (by decide +kernel) ?_; replace hL := hL.drew; conv => whnf) | (refine V.treeP ttOk hL 0 (.q 0 (.q 1 (.q 2 (.q 3 (.q 6 (.q 7 (.q 8 (.q 9 (.alt 4 (.q 5 (.alt 10 (.q 11 (.q 12 (.q 13 (.alt 14 .nil .stop)))) .stop)) (.alt 10 (.alt 4 (.q 5 (.q 11 (.q 12 (.q 13 (.alt 14 .nil .stop))))) .stop) .stop)))))))))) mixed (by decide +kernel) ?_; replace hL := hL.drew; conv => whnf) | (refine V.tailA ttOk mixed (by decide +kernel) ?_; replace hL := hL.drew; conv => whnf) | (refine Br.dec (fun hbr => ?_) (fun hbr => ?_) <;> conv => whnf) | (refine Br.mk (fun hbr => ?_) (fun hbr => ?_) <;> conv => whnf) | (refine Both.mk ?_ ?_ <;> conv => whnf) | (refine Rem.mk (by omega) ?_; rw [tmod_nxt hg]; conv => whnf) | fail)
        all_goals
          refine (round_end cb qb cm (nxt g) bg tk (.slice oa ([] : List QB).length oc) (.slice none 0 0) { q with waited := q.waited + 1 } 1 td hndT ([] : List QB).length (retC ([] : List QB)) _ (by first | omega | (simp only [List.length_nil] at *; omega)) hq0 i5 i6 hL hB).mono fun r w hr => ?_
          obtain ⟨hr, rv', hB, hL⟩ := hr
          subst hr
          conv => whnf
          repeat (first | (refine RunH ?_; intro w hL hB; try clear w) | (refine Both.mk ?_ ?_ <;> conv => whnf) | fail)
          refine ⟨([] : List QB) ++ [(qb, q)], ⟨rfl, rfl, rfl, vint (by simp), trivial⟩, ⟨td, rv', by rw [← hqs, List.append_assoc]; rfl, hB, ?_⟩, by dsimp only; rw [List.length_append, List.length_singleton]; omega⟩
          rw [gOf_app, retC_app, List.length_append, List.length_singleton]
          exact (hL.sub (L' := cR cb (nxt g) bg tk cm rv' (.slice none 0 0) :: .mp 3 cm ((kbs td).map pE) :: .row 51 6 rv' (([] : List QB).length + 1) (retC ([] : List QB) ++ rC q.num (endE q) 0 0 0 (.slice none 0 0)) :: _ :: (qRs td ++ R)) (.cons_cons _ (.cons _ (.refl _)))).perm (pT6 _ _ _ _ _)
    · have hgo : gOf g dn = nxt g := gOf_ne hdn
      rw [hgo] at hL
      have hne := nxt_ne hg
      rcases i3 with i3 | i3
      · conv => whnf
        repeat (first | (refine RunK ?_; intro w hL hB; try clear w) | (refine V.treeA ttOk hL (.q 0 (.q 1 (.q 2 (.q 3 (.q 4 (.q 5 (.q 6 (.q 7 (.q 8 (.q 9 (.q 10 (.q 11 (.q 12 (.q 13 (.q 14 (.q 15 (.q 16 .nil))))))))))))))))) mixed (by decide +kernel) ?_; replace hL := hL.drew; conv => whnf) | (refine V.treeA ttOk hL (.q 0 (.q 1 (.q 2 (.q 3 (.q 4 (.q 5 (.q 6 (.q 7 (.q 8 (.q 9 (.q 10 (.q 11 (.q 12 (.q 13 (.q 14 (.q 15 (.q 16 (.q 17 (.q 18 (.q 19 (.q 20 (.q 21 (.q 22 (.q 23 (.q 24 (.q 25 (.q 26 (.q 27 (.q 28 (.q 29 .nil)))))))))))))))))))))))))))))) mixed (by decide +kernel) ?_; replace hL := hL.drew; conv => whnf) | (refine V.tailA ttOk mixed (by decide +kernel) ?_; replace hL := hL.drew; conv => whnf) | (refine Both.mk ?_ ?_ <;> conv => whnf) | fail)
        refine (round_end cb qb cm (nxt g) bg tk (.slice oa dn.length oc) (.slice none 0 0) { q with waited := q.waited + 1 } 1 td hndT dn.length (retC dn) _ (by first | omega | (simp only [List.length_nil] at *; omega)) hq0 i5 i6 hL hB).mono fun r w hr => ?_
        obtain ⟨hr, rv', hB, hL⟩ := hr
        subst hr
        conv => whnf
        repeat (first | (refine RunH ?_; intro w hL hB; try clear w) | (refine Both.mk ?_ ?_ <;> conv => whnf) | fail)
        refine ⟨dn ++ [(qb, q)], ⟨rfl, rfl, rfl, vint (by simp), trivial⟩, ⟨td, rv', by rw [← hqs, List.append_assoc]; rfl, hB, ?_⟩, by dsimp only; rw [List.length_append, List.length_singleton]; omega⟩
        rw [gOf_app, retC_app, List.length_append, List.length_singleton]
        exact (hL.sub (L' := cR cb (nxt g) bg tk cm rv' (.slice none 0 0) :: .mp 3 cm ((kbs td).map pE) :: .row 51 6 rv' (dn.length + 1) (retC dn ++ rC q.num (endE q) 0 0 0 (.slice none 0 0)) :: _ :: (qRs td ++ R)) (.cons_cons _ (.cons _ (.refl _)))).perm (pT6 _ _ _ _ _)
      · conv => whnf
        repeat (first | (refine RunK ?_; intro w hL hB; try clear w) | (refine V.treeA ttOk hL (.q 0 (.q 1 (.q 2 (.q 3 (.q 4 (.q 5 (.q 6 (.q 7 (.q 8 (.q 9 (.q 10 (.q 11 (.q 12 (.q 13 (.q 14 (.q 15 (.q 16 .nil))))))))))))))))) mixed (by decide +kernel) ?_; replace hL := hL.drew; conv => whnf) | (refine V.treeA ttOk hL (.q 0 (.q 1 (.q 2 (.q 3 (.q 4 (.q 5 (.q 6 (.q 7 (.q 8 (.q 9 (.q 10 (.q 11 (.q 12 (.q 13 (.q 14 (.q 15 (.q 16 (.q 17 (.q 18 (.q 19 (.q 20 (.q 21 (.q 22 (.q 23 (.q 24 (.q 25 (.q 26 (.q 27 (.q 28 (.q 29 .nil)))))))))))))))))))))))))))))) mixed (by decide +kernel) ?_; replace hL := hL.drew; conv => whnf) | (refine V.tailA ttOk mixed (by decide +kernel) ?_; replace hL := hL.drew; conv => whnf) | (refine Both.mk ?_ ?_ <;> conv => whnf) | fail)
        refine (round_end cb qb cm (nxt g) bg tk (.slice oa dn.length oc) (.slice none 0 0) { q with waited := q.waited + 1 } 1 td hndT dn.length (retC dn) _ (by first | omega | (simp only [List.length_nil] at *; omega)) hq0 i5 i6 hL hB).mono fun r w hr => ?_
        obtain ⟨hr, rv', hB, hL⟩ := hr
        subst hr
        conv => whnf
        repeat (first | (refine RunH ?_; intro w hL hB; try clear w) | (refine Both.mk ?_ ?_ <;> conv => whnf) | fail)
        refine ⟨dn ++ [(qb, q)], ⟨rfl, rfl, rfl, vint (by simp), trivial⟩, ⟨td, rv', by rw [← hqs, List.append_assoc]; rfl, hB, ?_⟩, by dsimp only; rw [List.length_append, List.length_singleton]; omega⟩
        rw [gOf_app, retC_app, List.length_append, List.length_singleton]
        exact (hL.sub (L' := cR cb (nxt g) bg tk cm rv' (.slice none 0 0) :: .mp 3 cm ((kbs td).map pE) :: .row 51 6 rv' (dn.length + 1) (retC dn ++ rC q.num (endE q) 0 0 0 (.slice none 0 0)) :: _ :: (qRs td ++ R)) (.cons_cons _ (.cons _ (.refl _)))).perm (pT6 _ _ _ _ _)
end
end Go.Proofs.YtcjnaljdbbjojaaGreatDoor
