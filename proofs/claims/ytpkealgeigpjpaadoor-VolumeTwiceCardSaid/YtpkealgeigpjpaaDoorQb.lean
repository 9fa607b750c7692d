/- slices.insertionSortOrdered[uint64]. Nothing is claimed here. -/
import Derived.Test.YtpkealgeigpjpaaDoorQa
namespace Go.Proofs.YtpkealgeigpjpaaDoor
open Go.RowKit
set_option linter.unusedVariables false
set_option linter.unusedSimpArgs false
set_option maxRecDepth 100000

section
variable {B g cap n : Nat} {d : Array Nat} {w0 w : World} {F : List Res}
set_option maxHeartbeats 2000000 in
theorem ins_fn (a b : Nat) (hab : a ≤ b) (hb : b ≤ n) (hn : n ≤ 4611686018427387904) (hL : Sep Tryd.prog B w0 w (Dat g cap n d :: F)) (hB : B ≤ w.heap.size) :
    Fn Tryd.prog 86 #[.slice (some ⟨g, 0, none⟩) n cap, .int .i64 (a : Int), .int .i64 (b : Int)] w fun r w' => Owns B w0 w' (Dat g cap n (Sort.insertionSort ltN d a b) :: F) := by
  unfold Sort.insertionSort
  refine Fn.mk Tryd.func86 rfl (by kernel_rfl) Tryd.ntmps86 rfl (by rw [Tryd.results86]) ?_
  repeat (first | (refine RunH ?_; intro w hL hB; try clear w) | (refine Both.mk ?_ ?_ <;> conv => whnf) | fail)
  refine V.loop (α := Nat × Array Nat) (fun z => [(0, .slice (some ⟨g, 0, none⟩) n cap), (1, .int .i64 (a : Int)), (2, .int .i64 (b : Int)), (6, .int .i64 (z.1 : Int))])
    (fun z w' => a + 1 ≤ z.1 ∧ (z.1 ≤ b ∨ z.1 = a + 1) ∧ Sort.insOuter ltN a b z.1 z.2 = Sort.insOuter ltN a b (a + 1) d ∧ Sep Tryd.prog B w0 w' (Dat g cap n z.2 :: F) ∧ B ≤ w'.heap.size) (fun z => b + 1 - z.1) (a + 1, d) ⟨rfl, rfl, rfl, vint (by push_cast; omega), trivial⟩ ⟨Nat.le_refl _, .inr rfl, rfl, hL, hB⟩ ?_
  clear hL hB
  rintro ⟨i, e⟩ w ⟨hi, hi2, he, hL, hB⟩
  dsimp only at hi hi2 he hL ⊢
  rw [Sort.insOuter] at he
  by_cases hlt : i < b
  · rw [if_pos hlt] at he
    repeat (first | (refine RunH ?_; intro w hL hB; try clear w) | (refine Both.mk ?_ ?_ <;> conv => whnf) | fail)
    refine V.loop (α := Nat × Array Nat) (fun z => [(0, .slice (some ⟨g, 0, none⟩) n cap), (1, .int .i64 (a : Int)), (2, .int .i64 (b : Int)), (6, .int .i64 (i : Int)), (7, .int .i64 (z.1 : Int))])
      (fun z w' => z.1 ≤ i ∧ Sort.insInner ltN a z.1 z.2 = Sort.insInner ltN a i e ∧ Sep Tryd.prog B w0 w' (Dat g cap n z.2 :: F) ∧ B ≤ w'.heap.size) (fun z => z.1) (i, e) ⟨rfl, rfl, rfl, rfl, rfl, trivial⟩ ⟨Nat.le_refl _, rfl, hL, hB⟩ ?_
    clear hL hB
    rintro ⟨j, x⟩ w ⟨hj, hx, hL, hB⟩
    dsimp only at hj hx hL ⊢
    by_cases hja : a < j
    · obtain ⟨j, rfl⟩ : ∃ k, j = k + 1 := ⟨j - 1, by omega⟩
      rw [Sort.insInner] at hx
      repeat (first | (refine RunK ?_; intro w hL hB; try clear w) | (refine V.treeA ttOk hL (.q 0 (.q 1 (.q 2 (.q 3 (.q 4 (.q 5 (.q 6 (.q 7 (.q 8 (.q 9 (.q 10 (.q 11 (.q 12 (.alt 13 (.q 14 .nil) .stop)))))))))))))) mixed (by decide +kernel) ?_; replace hL := hL.drew; conv => whnf) | (refine V.tailA ttOk mixed (by decide +kernel) ?_; replace hL := hL.drew; conv => whnf) | (refine Both.mk ?_ ?_ <;> conv => whnf) | (intro o9 ho9; first | (refine (fun (hq : j + 1 = o9) => ?_) (by omega); subst hq) | (refine (fun (hq : j = o9) => ?_) (by omega); subst hq) | fail; conv => whnf) | (refine Ld.dat hL 0 _ rfl (by omega) ?_; conv => whnf) | (refine St.dat hL hB 0 _ rfl (by omega) (fun w hL hB => ?_); dsimp only [List.set] at hL; conv => whnf) | (refine Lq.dat hL.cls 0 _ rfl (by omega) ?_; conv => whnf) | (refine Lq.dat (fun _ h => h) 0 _ rfl (by omega) ?_; conv => whnf) | (refine (lessQ_fn _ _ _).mono fun r w1 hr => ?_; obtain ⟨hr, hw⟩ := hr; subst hr; subst hw; conv => whnf) | fail)
      by_cases hc : ltN x[j + 1]! x[j]! = true
      · rw [hc] at hx ⊢
        rw [if_pos (by simp; omega)] at hx
        repeat (first | (refine RunK ?_; intro w hL hB; try clear w) | (refine V.treeP ttOk hL 0 (.q 0 (.q 1 (.q 2 (.q 3 (.q 4 (.q 5 (.q 6 (.q 7 (.q 8 (.q 10 (.q 11 (.q 12 (.alt 9 (.alt 13 (.q 14 (.alt 15 (.q 16 (.alt 17 .nil .stop)) .stop)) .stop) (.alt 13 (.alt 9 (.q 14 (.alt 15 (.q 16 (.alt 17 .nil .stop)) .stop)) .stop) .stop)))))))))))))) mixed (by decide +kernel) ?_; replace hL := hL.drew; conv => whnf) | (refine V.tailA ttOk mixed (by decide +kernel) ?_; replace hL := hL.drew; conv => whnf) | (refine Both.mk ?_ ?_ <;> conv => whnf) | (intro o9 ho9; first | (refine (fun (hq : j + 1 = o9) => ?_) (by omega); subst hq) | (refine (fun (hq : j = o9) => ?_) (by omega); subst hq) | fail; conv => whnf) | (refine Ld.dat hL 0 _ rfl (by omega) ?_; conv => whnf) | (refine St.dat hL hB 0 _ rfl (by omega) (fun w hL hB => ?_); dsimp only [List.set] at hL; conv => whnf) | (refine Lq.dat hL.cls 0 _ rfl (by omega) ?_; conv => whnf) | (refine Lq.dat (fun _ h => h) 0 _ rfl (by omega) ?_; conv => whnf) | (refine (lessQ_fn _ _ _).mono fun r w1 hr => ?_; obtain ⟨hr, hw⟩ := hr; subst hr; subst hw; conv => whnf) | fail)
        all_goals
          repeat (first | (refine RunH ?_; intro w hL hB; try clear w) | (refine Both.mk ?_ ?_ <;> conv => whnf) | (intro o9 ho9; first | (refine (fun (hq : j + 1 = o9) => ?_) (by omega); subst hq) | (refine (fun (hq : j = o9) => ?_) (by omega); subst hq) | fail; conv => whnf) | (refine Ld.dat hL 0 _ rfl (by omega) ?_; conv => whnf) | (refine St.dat hL hB 0 _ rfl (by omega) (fun w hL hB => ?_); dsimp only [List.set] at hL; conv => whnf) | (refine Lq.dat hL.cls 0 _ rfl (by omega) ?_; conv => whnf) | (refine Lq.dat (fun _ h => h) 0 _ rfl (by omega) ?_; conv => whnf) | (refine (lessQ_fn _ _ _).mono fun r w1 hr => ?_; obtain ⟨hr, hw⟩ := hr; subst hr; subst hw; conv => whnf) | fail)
          exact ⟨(j, Sort.swp x (j + 1) j), ⟨rfl, rfl, rfl, rfl, vint (by push_cast; omega), trivial⟩, ⟨by dsimp only; omega, hx, hL, hB⟩, (by first | omega | (dsimp only; omega))⟩
      · obtain hc : ltN x[j + 1]! x[j]! = false := by simpa using hc
        rw [hc] at hx ⊢
        rw [if_neg (by simp)] at hx
        repeat (first | (refine RunH ?_; intro w hL hB; try clear w) | (refine Both.mk ?_ ?_ <;> conv => whnf) | fail)
        subst hx
        exact ⟨(i + 1, _), ⟨rfl, rfl, rfl, vint (by push_cast; omega), trivial⟩, ⟨by dsimp only; omega, by dsimp only; omega, he, hL, hB⟩, (by first | omega | (dsimp only; omega))⟩
    · have hx' : Sort.insInner ltN a j x = x := by
        cases j with
        | zero => rfl
        | succ j => rw [Sort.insInner, if_neg (by simp; omega)]
      rw [hx'] at hx
      repeat (first | (refine RunK ?_; intro w hL hB; try clear w) | (refine V.treeA ttOk hL (.q 0 (.q 1 (.q 2 (.q 3 (.q 4 (.q 5 (.q 6 (.q 7 (.q 8 (.q 9 (.q 10 (.q 11 (.q 12 (.alt 13 (.q 14 .nil) .stop)))))))))))))) mixed (by decide +kernel) ?_; replace hL := hL.drew; conv => whnf) | (refine V.tailA ttOk mixed (by decide +kernel) ?_; replace hL := hL.drew; conv => whnf) | (refine Both.mk ?_ ?_ <;> conv => whnf) | fail)
      subst hx
      exact ⟨(i + 1, _), ⟨rfl, rfl, rfl, vint (by push_cast; omega), trivial⟩, ⟨by dsimp only; omega, by dsimp only; omega, he, hL, hB⟩, (by first | omega | (dsimp only; omega))⟩
  · rw [if_neg hlt] at he
    subst he
    repeat (first | (refine RunH ?_; intro w hL hB; try clear w) | (refine Both.mk ?_ ?_ <;> conv => whnf) | fail)
    exact ⟨hL, hB⟩
end
end Go.Proofs.YtpkealgeigpjpaaDoor
