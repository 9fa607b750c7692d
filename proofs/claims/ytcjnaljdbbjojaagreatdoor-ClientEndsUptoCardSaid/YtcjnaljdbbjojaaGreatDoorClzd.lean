/- ClientEnds: a Tick when nobody answers. Nothing is claimed here. -/
import Derived.Test.YtcjnaljdbbjojaaGreatDoorClzc
namespace Go.Proofs.YtcjnaljdbbjojaaGreatDoor
open Go.RowKit
open Go.Maps (Keyed)
set_option linter.unusedVariables false
set_option linter.unusedSimpArgs false
set_option maxRecDepth 100000

/-- behind the T-th Tick -/
def Stt (T : Nat) (B : Nat) (w0 : World) (cb cm : Nat) (bg : Int) (ns : List Int) (R : List Res) (w : World) : Prop :=
  ∃ qs g tk, (0 ≤ g ∧ g ≤ 2) ∧ (0 ≤ tk ∧ tk ≤ 40 * (((T / 16 : Nat) : Int) + 1)) ∧ nums qs = ns ∧ (∀ p ∈ qs, PhaseAt T g p.2) ∧ B ≤ w.heap.size ∧
    Sep Tryz.prog B w0 w (cR cb g bg tk cm (.slice none 0 0) (.slice none 0 0) :: .mp 3 cm ((kbs qs).map pE) :: (qRs qs ++ R))
section
variable {B : Nat} {w0 w : World}
theorem nums_num {qs : List QB} {ns : List Int} (h : nums qs = ns) (hns : ∀ n ∈ ns, 0 ≤ n ∧ n ≤ 1000000) : ∀ p ∈ qs, 0 ≤ p.2.num ∧ p.2.num ≤ 1000000 := fun p hp => hns _ (by rw [← h]; exact List.mem_map_of_mem hp)
theorem tick_phase (T : Nat) (cb cm : Nat) (bg : Int) (ns : List Int) (R : List Res) (hT : T ≤ 317) (hns : ∀ n ∈ ns, 0 ≤ n ∧ n ≤ 1000000) (hpw : ns.Pairwise (· < ·)) (hln : ns.length ≤ 40) (h : Stt T B w0 cb cm bg ns R w) :
    Fn Tryz.prog 12 #[ptrN cb] w fun r w' => ∃ oa on oc, r = .tuple #[.slice none 0 0, .slice oa on oc] ∧ Stt (T + 1) B w0 cb cm bg ns R w' := by
  obtain ⟨qs, g, tk, hg, htk, hnq, hph, hB, hL⟩ := h
  have hqn := nums_num hnq hns
  have hql : qs.length ≤ 40 := by rw [← nums_len, hnq]; exact hln
  have hpw2 : (nums qs).Pairwise (· < ·) := by rw [hnq]; exact hpw
  rcases (show T % 16 < 14 ∨ T % 16 = 14 ∨ T % 16 = 15 by omega) with h1 | h1 | h1
  · refine (tick_idle cb cm g bg tk qs R hpw2 hqn (by omega) (fun p hp => ((hph p hp).idle h1).1) hL hB).mono fun r w ⟨hr, hB, hL⟩ => ?_
    refine ⟨none, 0, 0, hr, qs.map idled, g, tk, hg, ⟨htk.1, by omega⟩, (kbs_idled qs).2.trans hnq, fun p hp => ?_, hB, by rw [(kbs_idled qs).1]; exact hL⟩
    obtain ⟨x, hx, rfl⟩ := List.mem_map.1 hp
    exact ((hph x hx).idle h1).2
  · refine (tick_round cb cm g bg tk qs R hpw2 hqn (by omega) hg (fun p hp => ((hph p hp).late h1 (by omega)).1) hL hB).mono fun r w ⟨hr, hB, hL⟩ => ?_
    cases hq : qs with
    | nil =>
      subst hq
      exact ⟨none, 0, 0, hr, [], g, tk, hg, ⟨htk.1, by omega⟩, hnq, by simp, hB, hL⟩
    | cons a l =>
      have hne : qs ≠ [] := by rw [hq]; simp
      rw [gOf_ne hne] at hL
      refine ⟨none, 0, 0, hr, qs.map rounded, nxt g, tk, nxt_le hg, ⟨htk.1, by omega⟩, (kbs_rounded qs).2.trans hnq, fun p hp => ?_, hB, by rw [(kbs_rounded qs).1]; exact hL⟩
      obtain ⟨x, hx, rfl⟩ := List.mem_map.1 hp
      exact ((hph x hx).late h1 (by omega)).2
  · refine (tick_begin cb cm g bg tk qs R hg ⟨htk.1, by omega⟩ hpw2 hqn (by omega) (fun p hp => ((hph p hp).due h1).1) hL hB).mono fun r w ⟨ov, qs', ms, acc, hr, hBL, hB, hL⟩ => ?_
    obtain ⟨oa, oc, rfl⟩ := (show SlN w 5 ov qs.length ms from hL.rowN (i := 1) rfl).shape
    refine ⟨oa, qs.length, oc, hr, qs', g, tk + qs.length, hg, ⟨by omega, by omega⟩, hBL.kbs.2.trans hnq, hBL.phase h1 hph, hB, ?_⟩
    rw [hBL.kbs.1]
    refine hL.sub (.cons_cons _ (.cons _ (.cons_cons _ (List.Sublist.append (.refl _) ?_))))
    exact List.sublist_append_right _ _
theorem tick_last (cb cm : Nat) (bg : Int) (ns : List Int) (R : List Res) (hns : ∀ n ∈ ns, 0 ≤ n ∧ n ≤ 1000000) (hpw : ns.Pairwise (· < ·)) (hln : ns.length ≤ 40) (h : Stt 318 B w0 cb cm bg ns R w) :
    Fn Tryz.prog 12 #[ptrN cb] w fun r w' => ∃ rv qs g tk, r = .tuple #[rv, .slice none 0 0] ∧ nums qs = ns ∧ B ≤ w'.heap.size ∧
      Sep Tryz.prog B w0 w' (cR cb g bg tk cm (.slice none 0 0) (.slice none 0 0) :: .row 51 6 rv qs.length (retC qs) :: .mp 3 cm [] :: R) := by
  obtain ⟨qs, g, tk, hg, htk, hnq, hph, hB, hL⟩ := h
  have hqn := nums_num hnq hns
  have hql : qs.length ≤ 40 := by rw [← nums_len, hnq]; exact hln
  have hpw2 : (nums qs).Pairwise (· < ·) := by rw [hnq]; exact hpw
  refine (tick_end cb cm g bg tk qs R hpw2 hqn (by omega) hg (fun p hp => (hph p hp).last rfl) hL hB).mono fun r w ⟨rv, hr, hB, hL⟩ => ?_
  exact ⟨rv, qs, _, tk, hr, hnq, hB, hL⟩
end
end Go.Proofs.YtcjnaljdbbjojaaGreatDoor
