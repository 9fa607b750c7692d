/- Plan: the reference's whole, Pick. Nothing is claimed here. -/
import Derived.Test.YthifnfoppamkiaaIf
namespace Go.Proofs.Ythifnfoppamkiaa
open Go.RowKit
set_option linter.unusedVariables false
set_option linter.unusedSimpArgs false
set_option maxRecDepth 100000

theorem freeS_le (l : List PV) (live : List Bool) (ns : List Int) : (freeS l live ns).length ≤ 64 := by
  have := freeU_len (loadS l) live ns (min 64 live.length)
  rw [freeU_end] at this
  omega
/-- the answer of Pick -/
def pickS (l : List PV) (live : List Bool) (n : Int) : Int × List Int :=
  if n < 1 then (1, []) else if ((freeS l live []).length : Int) < n then (14, []) else (0, (freeS l live []).take n.toNat)
theorem pickR_fn (v lv : Value) (ps : List (PV × Value)) (live : List Bool) (n : Int) (w0 : World) (h : VolS w0 v ps) (hl : SlE w0 lv (boolC live)) (hll : live.length ≤ 100) :
    Fn Try.prog 15 #[v, lv, .int .i64 n] w0 fun r w' => (∃ u, r = .tuple #[u, .int .i64 (pickS (pvs ps) live n).1] ∧ SlN w' 1 u (pickS (pvs ps) live n).2.length (numC (pickS (pvs ps) live n).2)) ∧ Below w0.heap.size w0 w' := by
  have hL := Sep.start Try.prog w0
  have hB := Nat.le_refl w0.heap.size
  have hfl := freeS_le (pvs ps) live []
  unfold pickS
  refine Fn.mk Try.func15 rfl (by kernel_rfl) Try.ntmps15 rfl (by rw [Try.results15]) ?_
  by_cases h1 : n < 1
  · rw [if_pos h1]
    repeat (first | (refine RunH ?_; intro w hL hB; try clear w) | (refine Both.mk ?_ ?_ <;> conv => whnf) | fail)
    exact ⟨⟨_, rfl, SlN.nil _ 1⟩, hL.below⟩
  · rw [if_neg h1]
    repeat (first | (refine RunH ?_; intro w hL hB; try clear w) | (refine Both.mk ?_ ?_ <;> conv => whnf) | fail)
    refine (freeR_fn v lv (.slice none 0 0) ps live [] w0 h hl hll (SlE.nil w0)).mono fun r w hr => ?_
    obtain ⟨hown, hbl⟩ := hr
    generalize freeS (pvs ps) live [] = f at *
    replace hL := hL.addRow hB hbl hown
    replace hB := Nat.le_trans hB hbl.size
    obtain ⟨fa, fc, rfl⟩ := (hL.rowN (i := 0) rfl).shape
    by_cases h2 : (f.length : Int) < n
    · rw [if_pos h2]
      conv => whnf
      repeat (first | (refine RunH ?_; intro w hL hB; try clear w) | (refine Both.mk ?_ ?_ <;> conv => whnf) | fail)
      exact ⟨⟨_, rfl, SlN.nil _ 1⟩, hL.below⟩
    · rw [if_neg h2]
      obtain ⟨k, rfl⟩ := Int.eq_ofNat_of_zero_le (show 0 ≤ n by omega)
      rcases own_shape (hL.at (i := 0) rfl) with ⟨e, h0⟩ | ⟨ob, c9, e, hnc, hcm⟩
      · omega
      · injection e with e1 e2 e3
        subst e1; subst e3
        conv => whnf
        repeat (first | (refine RunH ?_; intro w hL hB; try clear w) | (refine Both.mk ?_ ?_ <;> conv => whnf) | fail)
        intro n' c' q1 q2
        obtain rfl : k = n' := by omega
        conv => whnf
        repeat (first | (refine RunH ?_; intro w hL hB; try clear w) | (refine Both.mk ?_ ?_ <;> conv => whnf) | fail)
        refine ⟨⟨_, rfl, ?_⟩, hL.below⟩
        have h9 := (hL.rowN (i := 0) rfl).preN (k := k) (c' := c') (by omega) (by omega) (by omega)
        simp only [Int.toNat_natCast, List.length_take]
        rw [Nat.min_eq_left (by omega)]
        exact h9
end Go.Proofs.Ythifnfoppamkiaa
