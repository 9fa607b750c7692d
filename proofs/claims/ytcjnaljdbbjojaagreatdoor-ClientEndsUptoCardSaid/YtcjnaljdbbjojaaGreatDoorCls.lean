/- client: Tick while calls wait. Nothing is claimed here. -/
import Derived.Test.YtcjnaljdbbjojaaGreatDoorClr
import Derived.Test.YtcjnaljdbbjojaaGreatDoorClk
namespace Go.Proofs.YtcjnaljdbbjojaaGreatDoor
open Go.RowKit
open Go.Maps (Keyed)
set_option linter.unusedVariables false
set_option linter.unusedSimpArgs false
set_option maxRecDepth 100000

abbrev QB := Nat × QS
def kbs (qs : List QB) : List (Int × Nat) := qs.map fun p => (p.2.num, p.1)
def qRs (qs : List QB) : List Res := qs.map fun p => qR p.1 p.2
def nums (qs : List QB) : List Int := qs.map fun p => p.2.num
theorem kbs_len (qs : List QB) : (kbs qs).length = qs.length := by simp [kbs]
theorem kbs_keys (qs : List QB) : (kbs qs).map Prod.fst = nums qs := by simp [kbs, nums]
theorem nums_nd {qs : List QB} (h : (nums qs).Pairwise (· < ·)) : NdI (kbs qs) := by
  rw [NdI, kbs_keys]
  exact h.imp fun {a b} hab e => by omega
theorem nums_sorted {qs : List QB} (h : (nums qs).Pairwise (· < ·)) : sortedI (kbs qs) = nums qs := by
  rw [sortedI, kbs_keys]
  exact List.mergeSort_of_pairwise (h.imp fun {a b} hab => by simp only [leI, decide_eq_true_eq]; omega)
theorem nd_inj {l : List (Int × Nat)} (h : NdI l) {a b : Int × Nat} (ha : a ∈ l) (hb : b ∈ l) (he : a.1 = b.1) : a = b := by
  induction l with
  | nil => cases ha
  | cons x l ih =>
    rw [NdI, List.map_cons, List.nodup_cons] at h
    rcases List.mem_cons.1 ha with h1 | h1 <;> rcases List.mem_cons.1 hb with h2 | h2
    · rw [h1, h2]
    · exact absurd (by rw [← h1, he]; exact List.mem_map_of_mem h2) h.1
    · exact absurd (by rw [← h2, ← he]; exact List.mem_map_of_mem h1) h.1
    · exact ih h.2 h1 h2
theorem got_kbs {qs : List QB} {p : QB} {z u : Value} {ok : Bool} (hnd : NdI (kbs qs)) (hp : p ∈ qs) (h : Got ((kbs qs).map pE) (.int .i64 p.2.num) z u ok) : u = ptrN p.1 := by
  have hm : pE (p.2.num, p.1) ∈ (kbs qs).map pE := List.mem_map_of_mem (List.mem_map_of_mem hp)
  cases h with
  | yes u h =>
    obtain ⟨x, hx, hxe⟩ := List.mem_map.1 h
    simp only [pE, iV, ptrN, Prod.mk.injEq, Value.int.injEq, true_and] at hxe
    obtain ⟨hk, hu⟩ := hxe
    rw [← hu]
    obtain ⟨y, hy, rfl⟩ := List.mem_map.1 hx
    have h2 : (p.2.num, p.1) ∈ kbs qs := List.mem_map_of_mem hp
    have : (y.2.num, y.1) = (p.2.num, p.1) := nd_inj hnd hx h2 hk
    rw [Prod.mk.injEq] at this
    simp only [ptrN, this.2]
  | no h => exact absurd rfl (h _ hm)
theorem pT1 {α : Type} (c k m x : α) (A C R : List α) : (c :: k :: m :: (A ++ x :: C ++ R)).Perm (c :: x :: k :: m :: (A ++ C ++ R)) := by
  refine List.Perm.cons _ ?_
  refine (List.Perm.cons _ (List.Perm.cons _ (List.perm_middle.append_right R))).trans ?_
  rw [List.cons_append]
  exact (List.perm_middle (l₁ := [k, m]))
theorem pT2 {α : Type} (c k m x : α) (A C R : List α) : (c :: x :: k :: m :: (A ++ C ++ R)).Perm (c :: k :: m :: ((A ++ [x]) ++ C ++ R)) := by
  rw [List.append_assoc A [x] C, List.singleton_append]
  exact (pT1 c k m x A C R).symm
section
variable {B : Nat} {w0 w : World}
/-- a call for which it is not time yet -/
def Idle (q : QS) : Prop := 0 ≤ q.waited ∧ q.waited ≤ 1000 ∧ q.pause ≤ 1000 ∧ ((q.step = 6 ∧ q.waited + 1 < q.pause) ∨ (0 ≤ q.step ∧ q.step < 6 ∧ q.waited + 1 < 15))
def idled (p : QB) : QB := (p.1, { p.2 with waited := p.2.waited + 1 })
set_option maxHeartbeats 8000000 in
theorem tick_idle (cb cm : Nat) (g bg tk : Int) (qs : List QB) (R : List Res) (hnd : (nums qs).Pairwise (· < ·)) (hnum : ∀ p ∈ qs, 0 ≤ p.2.num ∧ p.2.num ≤ 1000000) (hlen : qs.length ≤ 256) (hI : ∀ p ∈ qs, Idle p.2)
    (hL : Sep Tryz.prog B w0 w (cR cb g bg tk cm (.slice none 0 0) (.slice none 0 0) :: .mp 3 cm ((kbs qs).map pE) :: (qRs qs ++ R))) (hB : B ≤ w.heap.size) :
    Fn Tryz.prog 12 #[ptrN cb] w fun r w' => r = .tuple #[.slice none 0 0, .slice none 0 0] ∧ B ≤ w'.heap.size ∧
      Sep Tryz.prog B w0 w' (cR cb g bg tk cm (.slice none 0 0) (.slice none 0 0) :: .mp 3 cm ((kbs qs).map pE) :: (qRs (qs.map idled) ++ R)) := by
  have hndI := nums_nd hnd
  unfold cR cC at hL
  refine Fn.mk Tryz.func12 rfl (by kernel_rfl) Tryz.ntmps12 rfl (by rw [Tryz.results12]) ?_
  repeat (first | (refine RunH ?_; intro w hL hB; try clear w) | (refine Both.mk ?_ ?_ <;> conv => whnf) | fail)
  refine (keysFnI 1 rfl hL hB).mono fun r w ⟨c, hr, hL, hB⟩ => ?_
  subst hr
  conv => whnf
  repeat (first | (refine RunH ?_; intro w hL hB; try clear w) | (refine Both.mk ?_ ?_ <;> conv => whnf) | fail)
  refine (sortedFnI c 1 rfl hndI (by rw [kbs_len]; omega) hL hB).mono fun r w ⟨hL, hB⟩ => ?_
  rw [nums_sorted hnd, kbs_len] at hL
  obtain ⟨ka, kc, rfl⟩ := (hL.rowN (i := 0) rfl).shape
  replace hL := hL.perm (List.Perm.swap _ _ _)
  conv => whnf
  repeat (first | (refine RunH ?_; intro w hL hB; try clear w) | (refine Both.mk ?_ ?_ <;> conv => whnf) | fail)
  refine V.loop (α := List QB) (fun dn => [(0, ptrN cb), (14, .slice ka qs.length kc), (15, .int .i64 (qs.length : Int)), (16, .int .i64 (dn.length : Int))])
    (fun dn w' => ∃ td, dn ++ td = qs ∧ B ≤ w'.heap.size ∧ Sep Tryz.prog B w0 w' (cR cb g bg tk cm (.slice none 0 0) (.slice none 0 0) :: .row 3 1 (.slice ka qs.length kc) qs.length ((nums qs).map iV) :: .mp 3 cm ((kbs qs).map pE) :: (qRs (dn.map idled) ++ qRs td ++ R))) (fun dn => qs.length - dn.length) [] ⟨rfl, rfl, rfl, rfl, trivial⟩ ⟨qs, rfl, hB, hL⟩ ?_
  repeat clear hL
  repeat clear hB
  rintro dn w ⟨td, hqs, hB, hL⟩
  have hlq : dn.length + td.length = qs.length := by rw [← hqs, List.length_append]
  cases td with
  | nil =>
    have hn : dn = qs := by simpa using hqs
    have hl2 : dn.length = qs.length := by rw [hn]
    repeat (first | (refine RunH ?_; intro w hL hB; try clear w) | (refine Both.mk ?_ ?_ <;> conv => whnf) | fail)
    refine (went_fn cb cm g bg tk _ _ _ ⟨_, _, _, rfl⟩ ⟨_, _, _, rfl⟩ hL hB).mono fun r w hr => ?_
    obtain ⟨hr, hB, hL⟩ := hr
    subst hr
    unfold cR cC at hL
    conv => whnf
    repeat (first | (refine RunH ?_; intro w hL hB; try clear w) | (refine Both.mk ?_ ?_ <;> conv => whnf) | fail)
    subst hn
    refine ⟨rfl, hB, ?_⟩
    have h2 := hL.sub (L' := cR cb g bg tk cm (.slice none 0 0) (.slice none 0 0) :: .mp 3 cm ((kbs dn).map pE) :: (qRs (dn.map idled) ++ qRs [] ++ R)) (.cons_cons _ (.cons _ (.refl _)))
    rwa [show qRs [] = [] from rfl, List.append_nil] at h2
  | cons p td =>
    rw [List.length_cons] at hlq
    have hpm : p ∈ qs := by rw [← hqs]; simp
    obtain ⟨qb, q⟩ := p
    have hid := hI _ hpm
    have hq0 := hnum _ hpm
    dsimp only at hid hq0
    replace hL := hL.perm (pT1 _ _ _ (qR qb q) _ (qRs td) R)
    obtain ⟨⟨kb, rfl⟩, _⟩ := own_addr (show w.ownsRow 0 3 1 _ _ _ from hL.at (i := 2) rfl) (by omega)
    have hkey : ((nums qs).map iV)[dn.length]? = some (.int .i64 q.num) := by rw [← hqs]; simp [nums]
    unfold cR cC qR qC at hL
    repeat (first | (refine RunH ?_; intro w hL hB; try clear w) | (refine Both.mk ?_ ?_ <;> conv => whnf) | (intro o9 ho9; conv => whnf) | (refine Ld.row1 ttOk (hL.rowN (i := 2) rfl).rowOf rfl rfl (k := dn.length) (v := .int .i64 q.num) hkey (by omega) ?_; conv => whnf) | fail)
    refine Rv.seekS ttOk hL intK 3 tl58 tl63 rfl (goodS (by omega)) fun u ok hgot => ?_
    rw [got_kbs hndI hpm hgot]
    clear hgot
    obtain ⟨i1, i2, i3, hid⟩ := hid
    rcases hid with ⟨h1, h2⟩ | ⟨h1, h2, h3⟩
    · conv => whnf
      repeat (first | (refine RunK ?_; intro w hL hB; try clear w) | (refine V.treeA ttOk hL (.q 0 (.q 1 (.q 2 (.q 3 (.q 4 (.q 5 (.q 6 (.q 7 (.q 8 (.q 9 (.q 10 (.q 11 (.q 12 (.q 13 (.q 14 (.q 15 (.q 16 .nil))))))))))))))))) mixed (by decide +kernel) ?_; replace hL := hL.drew; conv => whnf) | (refine V.tailA ttOk mixed (by decide +kernel) ?_; replace hL := hL.drew; conv => whnf) | (refine Both.mk ?_ ?_ <;> conv => whnf) | fail)
      have hL2 := hL.perm (pT2 (cR cb g bg tk cm (.slice none 0 0) (.slice none 0 0)) (.row 3 1 (.slice (some ⟨kb, 0, none⟩) qs.length kc) qs.length ((nums qs).map iV)) (.mp 3 cm ((kbs qs).map pE)) (qR qb { q with waited := q.waited + 1 }) (qRs (dn.map idled)) (qRs td) R)
      refine ⟨dn ++ [(qb, q)], ⟨rfl, rfl, rfl, vint (by simp), trivial⟩, ⟨td, by rw [← hqs, List.append_assoc]; rfl, hB, ?_⟩, by dsimp only; rw [List.length_append, List.length_singleton]; omega⟩
      rw [List.map_append, qRs, List.map_append]
      exact hL2
    · conv => whnf
      repeat (first | (refine RunK ?_; intro w hL hB; try clear w) | (refine V.treeA ttOk hL (.q 0 (.q 1 (.q 2 (.q 3 (.q 4 (.q 5 (.q 6 (.q 7 (.q 8 (.q 9 (.q 10 (.q 11 (.q 12 (.q 13 (.q 14 (.q 15 (.q 16 .nil))))))))))))))))) mixed (by decide +kernel) ?_; replace hL := hL.drew; conv => whnf) | (refine V.tailA ttOk mixed (by decide +kernel) ?_; replace hL := hL.drew; conv => whnf) | (refine Both.mk ?_ ?_ <;> conv => whnf) | fail)
      have hL2 := hL.perm (pT2 (cR cb g bg tk cm (.slice none 0 0) (.slice none 0 0)) (.row 3 1 (.slice (some ⟨kb, 0, none⟩) qs.length kc) qs.length ((nums qs).map iV)) (.mp 3 cm ((kbs qs).map pE)) (qR qb { q with waited := q.waited + 1 }) (qRs (dn.map idled)) (qRs td) R)
      refine ⟨dn ++ [(qb, q)], ⟨rfl, rfl, rfl, vint (by simp), trivial⟩, ⟨td, by rw [← hqs, List.append_assoc]; rfl, hB, ?_⟩, by dsimp only; rw [List.length_append, List.length_singleton]; omega⟩
      rw [List.map_append, qRs, List.map_append]
      exact hL2
end
end Go.Proofs.YtcjnaljdbbjojaaGreatDoor
