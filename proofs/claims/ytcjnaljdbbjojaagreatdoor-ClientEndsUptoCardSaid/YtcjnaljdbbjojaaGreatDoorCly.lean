/- client: Tick when nobody answered: calls go round. Nothing is claimed here. -/
import Derived.Test.YtcjnaljdbbjojaaGreatDoorClt
namespace Go.Proofs.YtcjnaljdbbjojaaGreatDoor
open Go.RowKit
open Go.Maps (Keyed)
set_option linter.unusedVariables false
set_option linter.unusedSimpArgs false
set_option maxRecDepth 100000

/-- who is asked next -/
def nxt (g : Int) : Int := if g = 2 then 0 else g + 1
def gOf (g : Int) (l : List QB) : Int := match l with
  | [] => g
  | _ => nxt g
theorem gOf_ne {g : Int} {l : List QB} (h : l ≠ []) : gOf g l = nxt g := by
  cases l with
  | nil => exact absurd rfl h
  | cons a l => rfl
theorem gOf_app {g : Int} (l : List QB) (x : QB) : gOf g (l ++ [x]) = nxt g := gOf_ne (by simp)
theorem nxt_ne {g : Int} (h : 0 ≤ g ∧ g ≤ 2) : nxt g ≠ g := by unfold nxt; split <;> omega
theorem nxt_le {g : Int} (h : 0 ≤ g ∧ g ≤ 2) : 0 ≤ nxt g ∧ nxt g ≤ 2 := by unfold nxt; split <;> omega
theorem tmod_nxt {g : Int} (h : 0 ≤ g ∧ g ≤ 2) : (g + 1).tmod 3 = nxt g := by
  rcases (show g = 0 ∨ g = 1 ∨ g = 2 by omega) with rfl | rfl | rfl <;> rfl
/-- a call that waited too long -/
def Late (g : Int) (q : QS) : Prop := 14 ≤ q.waited ∧ q.waited ≤ 1000 ∧ (q.step = 0 ∨ q.step = 1) ∧ q.master = g ∧ 0 ≤ q.tried ∧ q.tried < 19
def rounded (p : QB) : QB := (p.1, { p.2 with tried := p.2.tried + 1, step := 6, waited := 0, pause := 1, sent := .map none })
section
variable {B : Nat} {w0 w : World}
set_option maxHeartbeats 16000000 in
theorem tick_round (cb cm : Nat) (g bg tk : Int) (qs : List QB) (R : List Res) (hnd : (nums qs).Pairwise (· < ·)) (hnum : ∀ p ∈ qs, 0 ≤ p.2.num ∧ p.2.num ≤ 1000000) (hlen : qs.length ≤ 256) (hg : 0 ≤ g ∧ g ≤ 2) (hI : ∀ p ∈ qs, Late g p.2)
    (hL : Sep Tryz.prog B w0 w (cR cb g bg tk cm (.slice none 0 0) (.slice none 0 0) :: .mp 3 cm ((kbs qs).map pE) :: (qRs qs ++ R))) (hB : B ≤ w.heap.size) :
    Fn Tryz.prog 12 #[ptrN cb] w fun r w' => r = .tuple #[.slice none 0 0, .slice none 0 0] ∧ B ≤ w'.heap.size ∧
      Sep Tryz.prog B w0 w' (cR cb (gOf g qs) bg tk cm (.slice none 0 0) (.slice none 0 0) :: .mp 3 cm ((kbs qs).map pE) :: (qRs (qs.map rounded) ++ R)) := by
  have hndI := nums_nd hnd
  unfold cR cC at hL
  refine Fn.mk Tryz.func12 rfl (by kernel_rfl) Tryz.ntmps12 rfl (by rw [Tryz.results12]) ?_
  repeat (first | (refine RunH ?_; intro w hL hB; try clear w) | (refine Both.mk ?_ ?_ <;> conv => whnf) | fail)
  refine (keysFnI 1 rfl hL hB).mono fun r w ⟨c, hr, hL, hB⟩ => ?_
  subst hr
  conv => whnf
  repeat (first | (refine RunH ?_; intro w hL hB; try clear w) | (refine Both.mk ?_ ?_ <;> conv => whnf) | fail)
  refine (sortedFnI c 1 rfl hndI (by rw [kbs_len]; omega) hL hB).mono fun r w ⟨hL, hB⟩ => ?_
  rw [nums_sorted hnd, kbs_len] at hL
  obtain ⟨ka, kc, rfl⟩ := (hL.rowN (i := 0) rfl).shape
  replace hL := hL.perm (List.Perm.swap _ _ _)
  conv => whnf
  repeat (first | (refine RunH ?_; intro w hL hB; try clear w) | (refine Both.mk ?_ ?_ <;> conv => whnf) | fail)
  refine V.loop (α := List QB) (fun dn => [(0, ptrN cb), (14, .slice ka qs.length kc), (15, .int .i64 (qs.length : Int)), (16, .int .i64 (dn.length : Int))])
    (fun dn w' => ∃ td, dn ++ td = qs ∧ B ≤ w'.heap.size ∧ Sep Tryz.prog B w0 w' (cR cb (gOf g dn) bg tk cm (.slice none 0 0) (.slice none 0 0) :: .row 3 1 (.slice ka qs.length kc) qs.length ((nums qs).map iV) :: .mp 3 cm ((kbs qs).map pE) :: (qRs (dn.map rounded) ++ qRs td ++ R))) (fun dn => qs.length - dn.length) [] ⟨rfl, rfl, rfl, rfl, trivial⟩ ⟨qs, rfl, hB, hL⟩ ?_
  repeat clear hL
  repeat clear hB
  rintro dn w ⟨td, hqs, hB, hL⟩
  have hlq : dn.length + td.length = qs.length := by rw [← hqs, List.length_append]
  cases td with
  | nil =>
    have hn : dn = qs := by simpa using hqs
    have hl2 : dn.length = qs.length := by rw [hn]
    repeat (first | (refine RunH ?_; intro w hL hB; try clear w) | (refine Both.mk ?_ ?_ <;> conv => whnf) | fail)
    refine (went_fn cb cm (gOf g dn) bg tk _ _ _ ⟨_, _, _, rfl⟩ ⟨_, _, _, rfl⟩ hL hB).mono fun r w hr => ?_
    obtain ⟨hr, hB, hL⟩ := hr
    subst hr
    unfold cR cC at hL
    conv => whnf
    repeat (first | (refine RunH ?_; intro w hL hB; try clear w) | (refine Both.mk ?_ ?_ <;> conv => whnf) | fail)
    subst hn
    refine ⟨rfl, hB, ?_⟩
    have h2 := hL.sub (L' := cR cb (gOf g dn) bg tk cm (.slice none 0 0) (.slice none 0 0) :: .mp 3 cm ((kbs dn).map pE) :: (qRs (dn.map rounded) ++ qRs [] ++ R)) (.cons_cons _ (.cons _ (.refl _)))
    rwa [show qRs [] = [] from rfl, List.append_nil] at h2
  | cons p td =>
    rw [List.length_cons] at hlq
    have hpm : p ∈ qs := by rw [← hqs]; simp
    obtain ⟨qb, q⟩ := p
    have hid := hI _ hpm
    have hq0 := hnum _ hpm
    dsimp only at hid hq0
    replace hL := hL.perm (pT1 _ _ _ (qR qb q) _ (qRs td) R)
    obtain ⟨⟨kb, rfl⟩, _⟩ := own_addr (show w.ownsRow 0 3 1 _ _ _ from hL.at (i := 2) rfl) (by omega)
    have hkey : ((nums qs).map iV)[dn.length]? = some (.int .i64 q.num) := by rw [← hqs]; simp [nums]
    unfold cR cC qR qC at hL
    repeat (first | (refine RunH ?_; intro w hL hB; try clear w) | (refine Both.mk ?_ ?_ <;> conv => whnf) | (intro o9 ho9; conv => whnf) | (refine Ld.row1 ttOk (hL.rowN (i := 2) rfl).rowOf rfl rfl (k := dn.length) (v := .int .i64 q.num) hkey (by omega) ?_; conv => whnf) | fail)
    refine Rv.seekS ttOk hL intK 3 tl58 tl63 rfl (goodS (by omega)) fun u ok hgot => ?_
    rw [got_kbs hndI hpm hgot]
    clear hgot
    obtain ⟨i1, i2, i3, i4, i5, i6⟩ := hid
    rcases (show dn = [] ∨ dn ≠ [] from by by_cases h : dn = [] <;> simp [h]) with hdn | hdn
    · subst hdn
      rw [show gOf g [] = g from rfl] at hL
      rcases i3 with i3 | i3
      · conv => whnf
        repeat' (first | (refine RunK ?_; intro w hL hB; try clear w) | (refine V.treeA ttOk hL (.q 0 (.q 1 (.q 2 (.q 3 (.q 4 (.q 5 (.q 6 (.q 7 (.q 8 (.q 9 (.q 10 (.q 11 (.q 12 (.q 13 (.q 14 (.q 15 (.q 16 .nil))))))))))))))))) mixed (by decide +kernel) ?_; replace hL := hL.drew; conv => whnf) | (refine V.treeA ttOk hL (.q 0 (.q 1 (.q 2 (.q 3 (.q 4 (.q 5 (.q 6 (.q 7 (.q 8 (.q 9 (.q 10 (.q 11 (.q 12 (.q 13 (.q 14 (.q 15 (.q 16 (.q 17 (.q 18 (.q 19 (.q 20 (.q 21 (.q 22 (.q 23 (.q 24 (.q 25 (.q 26 (.q 27 (.q 28 (.q 29 .nil)))))))))))))))))))))))))))))) mixed (by decide +kernel) ?_; replace hL := hL.drew; conv => whnf) | (refine V.treeP ttOk hL 0 (.q 0 (.q 1 (.q 2 (.q 3 (.q 6 (.q 7 (.q 8 (.q 9 (.alt 4 (.q 5 (.alt 10 (.q 11 (.q 12 (.q 13 (.alt 14 .nil .stop)))) .stop)) (.alt 10 (.alt 4 (.q 5 (.q 11 (.q 12 (.q 13 (.alt 14 .nil .stop))))) .stop) .stop)))))))))) mixed (by decide +kernel) ?_; replace hL := hL.drew; conv => whnf) | (refine V.tailA ttOk mixed (by decide +kernel) ?_; replace hL := hL.drew; conv => whnf) | (refine Br.dec (fun hbr => ?_) (fun hbr => ?_) <;> conv => whnf) | (refine Br.mk (fun hbr => ?_) (fun hbr => ?_) <;> conv => whnf) | (refine Both.mk ?_ ?_ <;> conv => whnf) | (refine Rem.mk (by omega) ?_; rw [tmod_nxt hg]; conv => whnf) | fail)
        all_goals
          refine (round_fn cb qb cm (nxt g) bg tk (.slice none 0 0) (.slice none 0 0) { q with waited := q.waited + 1 } 1 _ ⟨i5, i6⟩ hL hB).mono fun r w hr => ?_
          obtain ⟨hr, hB, hL⟩ := hr
          subst hr
          conv => whnf
          repeat (first | (refine RunH ?_; intro w hL hB; try clear w) | (refine Both.mk ?_ ?_ <;> conv => whnf) | fail)
          have hL2 := hL.perm (pT2 (cR cb (nxt g) bg tk cm (.slice none 0 0) (.slice none 0 0)) (.row 3 1 (.slice (some ⟨kb, 0, none⟩) qs.length kc) qs.length ((nums qs).map iV)) (.mp 3 cm ((kbs qs).map pE)) _ (qRs (([] : List QB).map rounded)) (qRs td) R)
          refine ⟨([] : List QB) ++ [(qb, q)], ⟨rfl, rfl, rfl, vint (by simp), trivial⟩, ⟨td, by rw [← hqs, List.append_assoc]; rfl, hB, ?_⟩, by dsimp only; rw [List.length_append, List.length_singleton]; omega⟩
          rw [List.map_append, qRs, List.map_append, gOf_app]
          exact hL2
      · conv => whnf
        repeat' (first | (refine RunK ?_; intro w hL hB; try clear w) | (refine V.treeA ttOk hL (.q 0 (.q 1 (.q 2 (.q 3 (.q 4 (.q 5 (.q 6 (.q 7 (.q 8 (.q 9 (.q 10 (.q 11 (.q 12 (.q 13 (.q 14 (.q 15 (.q 16 .nil))))))))))))))))) mixed (by decide +kernel) ?_; replace hL := hL.drew; conv => whnf) | (refine V.treeA ttOk hL (.q 0 (.q 1 (.q 2 (.q 3 (.q 4 (.q 5 (.q 6 (.q 7 (.q 8 (.q 9 (.q 10 (.q 11 (.q 12 (.q 13 (.q 14 (.q 15 (.q 16 (.q 17 (.q 18 (.q 19 (.q 20 (.q 21 (.q 22 (.q 23 (.q 24 (.q 25 (.q 26 (.q 27 (.q 28 (.q 29 .nil)))))))))))))))))))))))))))))) mixed (by decide +kernel) ?_; replace hL := hL.drew; conv => whnf) | (refine V.treeP ttOk hL 0 (.q 0 (.q 1 (.q 2 (.q 3 (.q 6 (.q 7 (.q 8 (.q 9 (.alt 4 (.q 5 (.alt 10 (.q 11 (.q 12 (.q 13 (.alt 14 .nil .stop)))) .stop)) (.alt 10 (.alt 4 (.q 5 (.q 11 (.q 12 (.q 13 (.alt 14 .nil .stop))))) .stop) .stop)))))))))) mixed (by decide +kernel) ?_; replace hL := hL.drew; conv => whnf) | (refine V.tailA ttOk mixed (by decide +kernel) ?_; replace hL := hL.drew; conv => whnf) | (refine Br.dec (fun hbr => ?_) (fun hbr => ?_) <;> conv => whnf) | (refine Br.mk (fun hbr => ?_) (fun hbr => ?_) <;> conv => whnf) | (refine Both.mk ?_ ?_ <;> conv => whnf) | (refine Rem.mk (by omega) ?_; rw [tmod_nxt hg]; conv => whnf) | fail)
        all_goals
          refine (round_fn cb qb cm (nxt g) bg tk (.slice none 0 0) (.slice none 0 0) { q with waited := q.waited + 1 } 1 _ ⟨i5, i6⟩ hL hB).mono fun r w hr => ?_
          obtain ⟨hr, hB, hL⟩ := hr
          subst hr
          conv => whnf
          repeat (first | (refine RunH ?_; intro w hL hB; try clear w) | (refine Both.mk ?_ ?_ <;> conv => whnf) | fail)
          have hL2 := hL.perm (pT2 (cR cb (nxt g) bg tk cm (.slice none 0 0) (.slice none 0 0)) (.row 3 1 (.slice (some ⟨kb, 0, none⟩) qs.length kc) qs.length ((nums qs).map iV)) (.mp 3 cm ((kbs qs).map pE)) _ (qRs (([] : List QB).map rounded)) (qRs td) R)
          refine ⟨([] : List QB) ++ [(qb, q)], ⟨rfl, rfl, rfl, vint (by simp), trivial⟩, ⟨td, by rw [← hqs, List.append_assoc]; rfl, hB, ?_⟩, by dsimp only; rw [List.length_append, List.length_singleton]; omega⟩
          rw [List.map_append, qRs, List.map_append, gOf_app]
          exact hL2
    · have hgo : gOf g dn = nxt g := gOf_ne hdn
      rw [hgo] at hL
      have hne := nxt_ne hg
      rcases i3 with i3 | i3
      · conv => whnf
        repeat (first | (refine RunK ?_; intro w hL hB; try clear w) | (refine V.treeA ttOk hL (.q 0 (.q 1 (.q 2 (.q 3 (.q 4 (.q 5 (.q 6 (.q 7 (.q 8 (.q 9 (.q 10 (.q 11 (.q 12 (.q 13 (.q 14 (.q 15 (.q 16 .nil))))))))))))))))) mixed (by decide +kernel) ?_; replace hL := hL.drew; conv => whnf) | (refine V.treeA ttOk hL (.q 0 (.q 1 (.q 2 (.q 3 (.q 4 (.q 5 (.q 6 (.q 7 (.q 8 (.q 9 (.q 10 (.q 11 (.q 12 (.q 13 (.q 14 (.q 15 (.q 16 (.q 17 (.q 18 (.q 19 (.q 20 (.q 21 (.q 22 (.q 23 (.q 24 (.q 25 (.q 26 (.q 27 (.q 28 (.q 29 .nil)))))))))))))))))))))))))))))) mixed (by decide +kernel) ?_; replace hL := hL.drew; conv => whnf) | (refine V.tailA ttOk mixed (by decide +kernel) ?_; replace hL := hL.drew; conv => whnf) | (refine Both.mk ?_ ?_ <;> conv => whnf) | fail)
        refine (round_fn cb qb cm (nxt g) bg tk (.slice none 0 0) (.slice none 0 0) { q with waited := q.waited + 1 } 1 _ ⟨i5, i6⟩ hL hB).mono fun r w hr => ?_
        obtain ⟨hr, hB, hL⟩ := hr
        subst hr
        conv => whnf
        repeat (first | (refine RunH ?_; intro w hL hB; try clear w) | (refine Both.mk ?_ ?_ <;> conv => whnf) | fail)
        have hL2 := hL.perm (pT2 (cR cb (nxt g) bg tk cm (.slice none 0 0) (.slice none 0 0)) (.row 3 1 (.slice (some ⟨kb, 0, none⟩) qs.length kc) qs.length ((nums qs).map iV)) (.mp 3 cm ((kbs qs).map pE)) _ (qRs (dn.map rounded)) (qRs td) R)
        refine ⟨dn ++ [(qb, q)], ⟨rfl, rfl, rfl, vint (by simp), trivial⟩, ⟨td, by rw [← hqs, List.append_assoc]; rfl, hB, ?_⟩, by dsimp only; rw [List.length_append, List.length_singleton]; omega⟩
        rw [List.map_append, qRs, List.map_append, gOf_app]
        exact hL2
      · conv => whnf
        repeat (first | (refine RunK ?_; intro w hL hB; try clear w) | (refine V.treeA ttOk hL (.q 0 (.q 1 (.q 2 (.q 3 (.q 4 (.q 5 (.q 6 (.q 7 (.q 8 (.q 9 (.q 10 (.q 11 (.q 12 (.q 13 (.q 14 (.q 15 (.q 16 .nil))))))))))))))))) mixed (by decide +kernel) ?_; replace hL := hL.drew; conv => whnf) | (refine V.treeA ttOk hL (.q 0 (.q 1 (.q 2 (.q 3 (.q 4 (.q 5 (.q 6 (.q 7 (.q 8 (.q 9 (.q 10 (.q 11 (.q 12 (.q 13 (.q 14 (.q 15 (.q 16 (.q 17 (.q 18 (.q 19 (.q 20 (.q 21 (.q 22 (.q 23 (.q 24 (.q 25 (.q 26 (.q 27 (.q 28 (.q 29 .nil)))))))))))))))))))))))))))))) mixed (by decide +kernel) ?_; replace hL := hL.drew; conv => whnf) | (refine V.tailA ttOk mixed (by decide +kernel) ?_; replace hL := hL.drew; conv => whnf) | (refine Both.mk ?_ ?_ <;> conv => whnf) | fail)
        refine (round_fn cb qb cm (nxt g) bg tk (.slice none 0 0) (.slice none 0 0) { q with waited := q.waited + 1 } 1 _ ⟨i5, i6⟩ hL hB).mono fun r w hr => ?_
        obtain ⟨hr, hB, hL⟩ := hr
        subst hr
        conv => whnf
        repeat (first | (refine RunH ?_; intro w hL hB; try clear w) | (refine Both.mk ?_ ?_ <;> conv => whnf) | fail)
        have hL2 := hL.perm (pT2 (cR cb (nxt g) bg tk cm (.slice none 0 0) (.slice none 0 0)) (.row 3 1 (.slice (some ⟨kb, 0, none⟩) qs.length kc) qs.length ((nums qs).map iV)) (.mp 3 cm ((kbs qs).map pE)) _ (qRs (dn.map rounded)) (qRs td) R)
        refine ⟨dn ++ [(qb, q)], ⟨rfl, rfl, rfl, vint (by simp), trivial⟩, ⟨td, by rw [← hqs, List.append_assoc]; rfl, hB, ?_⟩, by dsimp only; rw [List.length_append, List.length_singleton]; omega⟩
        rw [List.map_append, qRs, List.map_append, gOf_app]
        exact hL2
end
end Go.Proofs.YtcjnaljdbbjojaaGreatDoor
