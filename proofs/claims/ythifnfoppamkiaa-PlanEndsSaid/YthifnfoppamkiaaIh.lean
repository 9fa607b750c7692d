/- Plan: the reference's whole. Nothing is claimed here. -/
import Derived.Test.YthifnfoppamkiaaIg
namespace Go.Proofs.Ythifnfoppamkiaa
open Go.RowKit
set_option linter.unusedVariables false
set_option linter.unusedSimpArgs false
set_option maxRecDepth 100000

def pvV (p : PV × Value) : Value := .agg #[.int .i64 p.1.id, .int .i64 p.1.st, .int .i64 p.1.ep, p.2, .bool p.1.fz, .int .i64 p.1.job]
def wholeB (live : List Bool) (v : PV) (s : Int) : Bool := !v.fz && decide (v.st = s) && decide (v.ns ≠ []) && decide (wholeS live v)
theorem wholeR_fn (p : PV × Value) (lv : Value) (live : List Bool) (s : Int) (w0 : World) (hn : SlE w0 p.2 (numC p.1.ns)) (ht : p.1.ns.length ≤ 1000) (hl : SlE w0 lv (boolC live)) :
    Fn Try.prog 27 #[pvV p, lv, .int .i64 s] w0 fun r w' => r = .bool (wholeB live p.1 s) ∧ Below w0.heap.size w0 w' := by
  obtain ⟨v, nv⟩ := p
  dsimp only at hn ht
  obtain ⟨na, nc, hnv⟩ := hn.shape
  rw [numC_len] at hnv
  subst hnv
  unfold pvV wholeB wholeS
  dsimp only
  have hL := Sep.start Try.prog w0
  have hB := Nat.le_refl w0.heap.size
  refine Fn.mk Try.func27 rfl (by kernel_rfl) Try.ntmps27 rfl (by rw [Try.results27]) ?_
  repeat (first | (refine RunH ?_; intro w hL hB; try clear w) | (refine Both.mk ?_ ?_ <;> conv => whnf) | (refine Nw.sep hL hB (fun b3 w hL hB hb3 => ?_); conv => whnf) | fail)
  have hne : decide (v.ns ≠ []) = decide (0 < v.ns.length) := by cases v.ns <;> simp
  rw [hne]
  cases hz : v.fz
  · by_cases hs : v.st = s
    · by_cases h0 : 0 < v.ns.length
      · repeat (first | (refine RunK ?_; intro w hL hB; try clear w) | (refine V.treeA ttOk hL (.q 0 (.q 1 (.q 2 (.q 3 (.q 4 (.q 5 (.q 6 (.q 7 (.q 8 (.q 9 (.q 10 (.q 11 (.q 12 (.q 13 (.q 14 (.q 15 (.q 16 (.q 17 (.q 18 (.q 21 (.q 22 (.q 23 (.alt 19 (.q 20 (.q 24 (.q 25 (.q 26 .nil)))) .stop))))))))))))))))))))))) mixed (by decide +kernel) ?_; replace hL := hL.drew; conv => whnf) | (refine V.tailA ttOk mixed (by decide +kernel) ?_; replace hL := hL.drew; conv => whnf) | (refine Both.mk ?_ ?_ <;> conv => whnf) | (intro w9 hw9; conv => whnf) | fail)
        refine (livingR_fn lv _ live v.ns _ (hl.below hL.below) (hn.below hL.below) ht).mono fun r w hr => ?_
        obtain ⟨hown, hbl⟩ := hr
        replace hL := hL.addRow hB hbl hown
        replace hB := Nat.le_trans hB hbl.size
        obtain ⟨fa, fc, rfl⟩ := (hL.rowN (i := 0) rfl).shape
        conv => whnf
        repeat (first | (refine RunH ?_; intro w hL hB; try clear w) | (refine Both.mk ?_ ?_ <;> conv => whnf) | (refine And.intro hL.tl ?_; conv => whnf) | (intro w9 hw9; conv => whnf) | fail)
        refine ⟨?_, hL.below⟩
        simp only [hs, h0, decide_true, Bool.not_false, Bool.true_and, Int.natCast_inj]
      · repeat (first | (refine RunK ?_; intro w hL hB; try clear w) | (refine V.treeA ttOk hL (.q 0 (.q 1 (.q 2 (.q 3 (.q 4 (.q 5 (.q 6 (.q 7 (.q 8 (.q 9 (.q 10 (.q 11 (.q 12 (.q 13 (.q 14 (.q 15 (.q 16 (.q 17 (.q 18 (.q 21 (.q 22 (.q 23 (.alt 19 (.q 20 (.q 24 (.q 25 (.q 26 .nil)))) .stop))))))))))))))))))))))) mixed (by decide +kernel) ?_; replace hL := hL.drew; conv => whnf) | (refine V.tailA ttOk mixed (by decide +kernel) ?_; replace hL := hL.drew; conv => whnf) | (refine Both.mk ?_ ?_ <;> conv => whnf) | (intro w9 hw9; conv => whnf) | fail)
        exact ⟨by simp [hs, h0], hL.below⟩
    · repeat (first | (refine RunK ?_; intro w hL hB; try clear w) | (refine V.treeA ttOk hL (.q 0 (.q 1 (.q 2 (.q 3 (.q 4 (.q 5 (.q 6 (.q 7 (.q 8 (.q 9 (.q 10 (.q 11 (.q 12 (.q 13 (.q 14 (.q 15 (.q 16 (.q 17 (.q 18 (.q 21 (.q 22 (.q 23 (.alt 19 (.q 20 (.q 24 (.q 25 (.q 26 .nil)))) .stop))))))))))))))))))))))) mixed (by decide +kernel) ?_; replace hL := hL.drew; conv => whnf) | (refine V.tailA ttOk mixed (by decide +kernel) ?_; replace hL := hL.drew; conv => whnf) | (refine Both.mk ?_ ?_ <;> conv => whnf) | (intro w9 hw9; conv => whnf) | fail)
      exact ⟨by simp [hs], hL.below⟩
  · repeat (first | (refine RunK ?_; intro w hL hB; try clear w) | (refine V.treeA ttOk hL (.q 0 (.q 1 (.q 2 (.q 3 (.q 4 (.q 5 (.q 6 (.q 7 (.q 8 (.q 9 (.q 10 (.q 11 (.q 12 (.q 13 (.q 14 (.q 15 (.q 16 (.q 17 (.q 18 (.q 21 (.q 22 (.q 23 (.alt 19 (.q 20 (.q 24 (.q 25 (.q 26 .nil)))) .stop))))))))))))))))))))))) mixed (by decide +kernel) ?_; replace hL := hL.drew; conv => whnf) | (refine V.tailA ttOk mixed (by decide +kernel) ?_; replace hL := hL.drew; conv => whnf) | (refine Both.mk ?_ ?_ <;> conv => whnf) | (intro w9 hw9; conv => whnf) | fail)
    exact ⟨by simp, hL.below⟩
end Go.Proofs.Ythifnfoppamkiaa
