/- Plan: the law's known; PlanLoads. Nothing is claimed here. -/
import Derived.Test.YthifnfoppamkiaaIx
namespace Go.Proofs.Ythifnfoppamkiaa
open Go.RowKit
set_option linter.unusedVariables false
set_option linter.unusedSimpArgs false
set_option maxRecDepth 100000

theorem known_next : nextS [⟨1, 0, 1, [0, 1], false, 0⟩] [true, false, true] [] ⟨0, 0, 2, 2, 1, 0, 10⟩ = some ⟨1, 1, 0, [0], [0, 2]⟩ := by rfl
set_option maxHeartbeats 8000000 in
theorem known_fn (w0 : World) : Fn Try.prog 8 #[] w0 fun r w' => r = .bool true ∧ Below w0.heap.size w0 w' := by
  have hL := Sep.start Try.prog w0
  have hB := Nat.le_refl w0.heap.size
  refine Fn.mk Try.func8 rfl (by kernel_rfl) Try.ntmps8 rfl (by rw [Try.results8]) ?_
  repeat (first | (refine RunH ?_; intro w hL hB; try clear w) | (refine Both.mk ?_ ?_ <;> conv => whnf) | fail)
  refine Rv.buildS ttOk hL tl24 tl3 rfl rfl (by intro u hu; simp only [List.mem_cons, List.not_mem_nil, or_false] at hu; rcases hu with rfl | rfl <;> rfl) (by decide) (by decide) hB fun g1 w hL hB => ?_
  replace hL : Sep Try.prog w0.heap.size w0 w [.row 3 1 (.slice (some ⟨g1, 0, none⟩) 2 2) 2 (numC [0, 1])] := hL
  conv => whnf
  repeat (first | (refine RunH ?_; intro w hL hB; try clear w) | (refine Both.mk ?_ ?_ <;> conv => whnf) | fail)
  refine Rv.buildS ttOk hL tl22 tl30 rfl rfl (by intro u hu; simp only [List.mem_singleton] at hu; subst hu; rfl) (by decide) (by decide) hB fun g2 w hL hB => ?_
  replace hL : Sep Try.prog w0.heap.size w0 w [.row 30 6 (.slice (some ⟨g2, 0, none⟩) 1 1) 1 ([((⟨1, 0, 1, [0, 1], false, 0⟩ : PV), (.slice (some ⟨g1, 0, none⟩) 2 2 : Value))].flatMap pvC), .row 3 1 (.slice (some ⟨g1, 0, none⟩) 2 2) 2 (numC [0, 1])] := hL
  conv => whnf
  repeat (first | (refine RunH ?_; intro w hL hB; try clear w) | (refine Both.mk ?_ ?_ <;> conv => whnf) | fail)
  refine Rv.buildS ttOk hL tl23 tl4 rfl rfl (by intro u hu; simp only [List.mem_cons, List.not_mem_nil, or_false] at hu; rcases hu with rfl | rfl | rfl <;> rfl) (by decide) (by decide) hB fun g3 w hL hB => ?_
  replace hL : Sep Try.prog w0.heap.size w0 w [.row 4 1 (.slice (some ⟨g3, 0, none⟩) 3 3) 3 (boolC [true, false, true]), .row 30 6 (.slice (some ⟨g2, 0, none⟩) 1 1) 1 ([((⟨1, 0, 1, [0, 1], false, 0⟩ : PV), (.slice (some ⟨g1, 0, none⟩) 2 2 : Value))].flatMap pvC), .row 3 1 (.slice (some ⟨g1, 0, none⟩) 2 2) 2 (numC [0, 1])] := hL
  conv => whnf
  repeat (first | (refine RunH ?_; intro w hL hB; try clear w) | (refine Both.mk ?_ ?_ <;> conv => whnf) | fail)
  have hV : VolS w (.slice (some ⟨g2, 0, none⟩) 1 1) [((⟨1, 0, 1, [0, 1], false, 0⟩ : PV), (.slice (some ⟨g1, 0, none⟩) 2 2 : Value))] := ⟨hL.rowN (i := 1) rfl, by
    intro p hp
    rw [List.mem_singleton] at hp
    subst hp
    exact (hL.rowN (i := 2) rfl).to1.e, by simp, by
    intro p hp
    rw [List.mem_singleton] at hp
    subst hp
    simp⟩
  refine (next_fn _ _ (.slice none 0 0) _ [true, false, true] [] ⟨0, 0, 2, 2, 1, 0, 10⟩ w hV (hL.rowN (i := 0) rfl).to1.e (SlE.nil w) (by decide)).mono fun r w' hx => ?_
  rw [show pvs [((⟨1, 0, 1, [0, 1], false, 0⟩ : PV), (.slice (some ⟨g1, 0, none⟩) 2 2 : Value))] = [⟨1, 0, 1, [0, 1], false, 0⟩] from rfl, known_next] at hx
  rcases hx.cases with ⟨hro, _⟩ | ⟨a, ka, kc, na, nc, hro, rfl, hS⟩
  · cases hro
  cases hro
  replace hL := hL.adds hB hS
  replace hB := Nat.le_trans hB hS.below.size
  unfold actV
  conv => whnf
  repeat (first | (refine RunH ?_; intro w hL hB; try clear w) | (refine Both.mk ?_ ?_ <;> conv => whnf) | fail)
  (refine Nw.sep hL hB (fun b1 w hL hB hb1 => ?_); conv => whnf)
  repeat (first | (refine RunH ?_; intro w hL hB; try clear w) | (refine Both.mk ?_ ?_ <;> conv => whnf) | fail)
  refine Rv.buildS ttOk hL tl24 tl3 rfl rfl (by intro u hu; simp only [List.mem_singleton] at hu; subst hu; rfl) (by decide) (by decide) hB fun g4 w hL hB => ?_
  conv => whnf
  repeat (first | (refine RunH ?_; intro w hL hB; try clear w) | (refine Both.mk ?_ ?_ <;> conv => whnf) | fail)
  refine (ints_fn _ _ [0] [0] _ (hL.rowN (i := 2) rfl).to1.e (hL.rowN (i := 0) rfl).to1.e).mono fun r w hr => ?_
  obtain ⟨rfl, hw⟩ := hr
  replace hL := hL.call hB (Turns.of_below hw)
  replace hB := Nat.le_trans hB hw.size
  rw [decide_eq_true (rfl : [(0 : Int)] = [0])]
  conv => whnf
  repeat (first | (refine RunH ?_; intro w hL hB; try clear w) | (refine Both.mk ?_ ?_ <;> conv => whnf) | fail)
  refine Rv.buildS ttOk hL tl24 tl3 rfl rfl (by intro u hu; simp only [List.mem_cons, List.not_mem_nil, or_false] at hu; rcases hu with rfl | rfl <;> rfl) (by decide) (by decide) hB fun g5 w hL hB => ?_
  conv => whnf
  repeat (first | (refine RunH ?_; intro w hL hB; try clear w) | (refine Both.mk ?_ ?_ <;> conv => whnf) | fail)
  refine (ints_fn _ _ [0, 2] [0, 2] _ (hL.rowN (i := 4) rfl).to1.e (hL.rowN (i := 0) rfl).to1.e).mono fun r w hr => ?_
  obtain ⟨rfl, hw⟩ := hr
  replace hL := hL.call hB (Turns.of_below hw)
  replace hB := Nat.le_trans hB hw.size
  rw [decide_eq_true (rfl : [(0 : Int), 2] = [0, 2])]
  conv => whnf
  repeat (first | (refine RunH ?_; intro w hL hB; try clear w) | (refine Both.mk ?_ ?_ <;> conv => whnf) | fail)
  exact ⟨rfl, hL.below⟩
/-- small enough: they may be read -/
theorem VolS.of {w : World} {v : Value} {ps : List (PV × Value)} {live : List Bool} (h : SlN w 6 v ps.length (ps.flatMap pvC)) (hn : ∀ p ∈ ps, SlE w p.2 (numC p.1.ns)) (hg : greatB (pvs ps) live = false) : VolS w v ps ∧ live.length ≤ 100 := by
  unfold greatB at hg
  simp only [Bool.or_eq_false_iff, decide_eq_false_iff_not, List.any_eq_false] at hg
  refine ⟨⟨h, hn, by rw [pvs_len] at hg; omega, fun p hp => ?_⟩, by omega⟩
  have := hg.2 p.1 (List.mem_map_of_mem hp)
  simp at this; omega
theorem SlN.belowE {w w' : World} {n : Nat} {v : Value} {xs : List Value} (h : SlN w 1 v n xs) (hb : Below w.heap.size w w') : SlE w' v xs := (h.below hb).to1.e
set_option maxHeartbeats 8000000 in
theorem planLoads_fn (v lv : Value) (ps : List (PV × Value)) (live : List Bool) (n m : Int) (w0 : World) (h : SlN w0 6 v ps.length (ps.flatMap pvC)) (hn : ∀ p ∈ ps, SlE w0 p.2 (numC p.1.ns)) (hl : SlE w0 lv (boolC live)) :
    Fn Try.prog 6 #[v, lv, .int .i64 n, .int .i64 m] w0 fun r w' => r = .bool true ∧ Below w0.heap.size w0 w' := by
  have hL := Sep.start Try.prog w0
  have hB := Nat.le_refl w0.heap.size
  refine Fn.mk Try.func6 rfl (by kernel_rfl) Try.ntmps6 rfl (by rw [Try.results6]) ?_
  repeat (first | (refine RunH ?_; intro w hL hB; try clear w) | (refine Both.mk ?_ ?_ <;> conv => whnf) | fail)
  refine (great_fn v lv ps live w0 h hn hl).mono fun r w hr => ?_
  obtain ⟨rfl, hw⟩ := hr
  replace hL := hL.call hB (Turns.of_below hw)
  replace hB := Nat.le_trans hB hw.size
  cases hg : greatB (pvs ps) live
  · obtain ⟨hV, hll⟩ := VolS.of h hn hg
    conv => whnf
    repeat (first | (refine RunH ?_; intro w hL hB; try clear w) | (refine Both.mk ?_ ?_ <;> conv => whnf) | fail)
    refine (pick_fn _ _ ps live m w (hV.below hL.below) (hl.below hL.below)).mono fun r w1 hr => ?_
    obtain ⟨⟨u1, rfl, hu1⟩, hw⟩ := hr
    replace hL := hL.call hB (Turns.of_below hw)
    replace hB := Nat.le_trans hB hw.size
    conv => whnf
    repeat (first | (refine RunH ?_; intro w hL hB; try clear w) | (refine Both.mk ?_ ?_ <;> conv => whnf) | fail)
    refine (pickR_fn _ _ ps live m w1 (hV.below hL.below) (hl.below hL.below) hll).mono fun r w2 hr => ?_
    obtain ⟨⟨u2, rfl, hu2⟩, hw⟩ := hr
    replace hL := hL.call hB (Turns.of_below hw)
    replace hB := Nat.le_trans hB hw.size
    replace hu1 := hu1.below hw
    generalize pickS (pvs ps) live m = pk at *
    conv => whnf
    repeat (first | (refine RunH ?_; intro w hL hB; try clear w) | (refine Both.mk ?_ ?_ <;> conv => whnf) | fail)
    refine (load_fn _ ps n w2 (hV.below hL.below)).mono fun r w3 hr => ?_
    obtain ⟨ho, hw⟩ := hr
    replace hL := hL.addRow hB hw ho
    replace hB := Nat.le_trans hB hw.size
    replace hu1 := hu1.below hw
    replace hu2 := hu2.below hw
    conv => whnf
    repeat (first | (refine RunH ?_; intro w hL hB; try clear w) | (refine Both.mk ?_ ?_ <;> conv => whnf) | fail)
    refine (loadR_fn _ ps n w3 (hV.below hL.below)).mono fun r w4 hr => ?_
    obtain ⟨ho, hw⟩ := hr
    replace hL := hL.addRow hB hw ho
    replace hB := Nat.le_trans hB hw.size
    replace hu1 := hu1.below hw
    replace hu2 := hu2.below hw
    conv => whnf
    repeat (first | (refine RunH ?_; intro w hL hB; try clear w) | (refine Both.mk ?_ ?_ <;> conv => whnf) | fail)
    refine (ints_fn _ _ _ _ w4 (hL.rowN (i := 1) rfl).to1.e (hL.rowN (i := 0) rfl).to1.e).mono fun r w5 hr => ?_
    obtain ⟨rfl, hw⟩ := hr
    replace hL := hL.call hB (Turns.of_below hw)
    replace hB := Nat.le_trans hB hw.size
    replace hu1 := hu1.below hw
    replace hu2 := hu2.below hw
    rw [decide_eq_true rfl]
    conv => whnf
    repeat (first | (refine RunH ?_; intro w hL hB; try clear w) | (refine Both.mk ?_ ?_ <;> conv => whnf) | fail)
    refine (ints_fn _ _ _ _ w5 hu1.to1.e hu2.to1.e).mono fun r w6 hr => ?_
    obtain ⟨rfl, hw⟩ := hr
    replace hL := hL.call hB (Turns.of_below hw)
    replace hB := Nat.le_trans hB hw.size
    rw [decide_eq_true rfl]
    conv => whnf
    repeat (first | (refine RunH ?_; intro w hL hB; try clear w) | (refine Both.mk ?_ ?_ <;> conv => whnf) | (refine (known_fn _).mono fun r w hr => ?_; obtain ⟨hr, hw⟩ := hr; subst hr; replace hL := hL.call hB (Turns.of_below hw); replace hB := Nat.le_trans hB hw.size; conv => whnf) | fail)
    exact ⟨rfl, hL.below⟩
  · conv => whnf
    repeat (first | (refine RunH ?_; intro w hL hB; try clear w) | (refine Both.mk ?_ ?_ <;> conv => whnf) | (refine (known_fn _).mono fun r w hr => ?_; obtain ⟨hr, hw⟩ := hr; subst hr; replace hL := hL.call hB (Turns.of_below hw); replace hB := Nat.le_trans hB hw.size; conv => whnf) | fail)
    exact ⟨rfl, hL.below⟩
end Go.Proofs.Ythifnfoppamkiaa
