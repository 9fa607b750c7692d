/- slices.siftDownOrdered, heapSortOrdered, reverseRangeOrdered at uint64. slices.heapSortOrdered, order2, median, medianAdjacent, choosePivot at uint64. Nothing is claimed here. -/
import Derived.Test.YtladfadcgfdbfaaGreatDoorD04
namespace Go.Proofs.YtladfadcgfdbfaaGreatDoor
open Go.RowKit
set_option linter.unusedVariables false
set_option linter.unusedSimpArgs false
set_option maxRecDepth 100000
section
variable {B g cap n : Nat} {d : Array Nat} {w0 w : World} {F : List Res}
set_option maxHeartbeats 4000000 in
theorem sift_fn (lo hi first : Nat) (hb : first + hi ≤ n) (hlo : lo ≤ n) (hn : n ≤ 2305843009213693952) (hL : Sep Tryz.prog B w0 w (Dat g cap n d :: F)) (hB : B ≤ w.heap.size) :
    Fn Tryz.prog 186 #[.slice (some ⟨g, 0, none⟩) n cap, .int .i64 (lo : Int), .int .i64 (hi : Int), .int .i64 (first : Int)] w fun r w' => Owns B w0 w' (Dat g cap n (Sort.siftDown ltN hi first lo d) :: F) := by
  refine Fn.mk Tryz.func186 rfl (by kernel_rfl) Tryz.ntmps186 rfl (by rw [Tryz.results186]) ?_
  repeat (first | (refine RunH ?_; intro w hL hB; try clear w) | (refine Both.mk ?_ ?_ <;> conv => whnf) | fail)
  refine V.loop (α := Nat × Array Nat) (fun z => [(0, .slice (some ⟨g, 0, none⟩) n cap), (2, .int .i64 (hi : Int)), (3, .int .i64 (first : Int)), (8, .int .i64 (z.1 : Int))])
    (fun z w' => z.1 ≤ n ∧ Sort.siftDown ltN hi first z.1 z.2 = Sort.siftDown ltN hi first lo d ∧ Sep Tryz.prog B w0 w' (Dat g cap n z.2 :: F) ∧ B ≤ w'.heap.size) (fun z => n + 1 - z.1) (lo, d) ⟨rfl, rfl, rfl, rfl, trivial⟩ ⟨hlo, rfl, hL, hB⟩ ?_
  clear hL hB
  rintro ⟨r, x⟩ w ⟨hr, he, hL, hB⟩
  dsimp only at hr he hL ⊢
  rw [Sort.siftDown] at he
  by_cases h1 : 2 * r + 1 ≥ hi
  · rw [dif_pos h1] at he
    subst he
    repeat (first | (refine RunH ?_; intro w hL hB; try clear w) | (refine Both.mk ?_ ?_ <;> conv => whnf) | fail)
    exact ⟨hL, hB⟩
  rw [dif_neg h1] at he
  by_cases h2 : 2 * r + 1 + 1 < hi
  · repeat (first | (refine RunK ?_; intro w hL hB; try clear w) | (refine V.treeA ttOk hL (.q 0 (.q 1 (.q 2 (.q 3 (.q 4 (.q 5 (.q 6 (.q 7 (.q 8 (.q 9 (.q 10 (.q 11 (.q 12 (.q 13 (.q 14 (.q 15 (.q 16 (.q 17 (.alt 18 (.q 19 .nil) .stop))))))))))))))))))) mixed (by decide +kernel) ?_; replace hL := hL.drew; conv => whnf) | (refine V.tailA ttOk mixed (by decide +kernel) ?_; replace hL := hL.drew; conv => whnf) | (refine Both.mk ?_ ?_ <;> conv => whnf) | (intro o9 ho9; first | (refine (fun (hq : first + (2 * r + 1) = o9) => ?_) (by omega); subst hq) | (refine (fun (hq : first + (2 * r + 1) + 1 = o9) => ?_) (by omega); subst hq) | fail; conv => whnf) | (refine Ld.dat hL 0 _ rfl (by omega) ?_; conv => whnf) | (refine St.dat hL hB 0 _ rfl (by omega) (fun w hL hB => ?_); dsimp only [List.set] at hL; conv => whnf) | (refine Lq.dat hL.cls 0 _ rfl (by omega) ?_; conv => whnf) | (refine Lq.dat (fun _ h => h) 0 _ rfl (by omega) ?_; conv => whnf) | (refine (lessQ_fn _ _ _).mono fun r w1 hr => ?_; obtain ⟨hr, hw⟩ := hr; subst hr; subst hw; conv => whnf) | fail)
    by_cases hc : ltN x[first + (2 * r + 1)]! x[first + (2 * r + 1) + 1]! = true
    · rw [hc] at he ⊢
      rw [if_pos (by simp; omega)] at he
      repeat (first | (refine RunK ?_; intro w hL hB; try clear w) | (refine V.treeA ttOk hL (.q 0 (.q 1 (.q 2 (.q 3 (.q 4 (.q 5 (.q 6 (.q 7 (.q 8 (.q 9 (.q 10 (.q 11 (.alt 12 (.q 13 .nil) .stop))))))))))))) mixed (by decide +kernel) ?_; replace hL := hL.drew; conv => whnf) | (refine V.tailA ttOk mixed (by decide +kernel) ?_; replace hL := hL.drew; conv => whnf) | (refine Both.mk ?_ ?_ <;> conv => whnf) | (intro o9 ho9; first | (refine (fun (hq : first + (2 * r + 2) = o9) => ?_) (by omega); subst hq) | (refine (fun (hq : first + r = o9) => ?_) (by omega); subst hq) | fail; conv => whnf) | (refine Ld.dat hL 0 _ rfl (by omega) ?_; conv => whnf) | (refine St.dat hL hB 0 _ rfl (by omega) (fun w hL hB => ?_); dsimp only [List.set] at hL; conv => whnf) | (refine Lq.dat hL.cls 0 _ rfl (by omega) ?_; conv => whnf) | (refine Lq.dat (fun _ h => h) 0 _ rfl (by omega) ?_; conv => whnf) | (refine (lessQ_fn _ _ _).mono fun r w1 hr => ?_; obtain ⟨hr, hw⟩ := hr; subst hr; subst hw; conv => whnf) | fail)
      by_cases hq : ltN x[first + r]! x[first + (2 * r + 2)]! = true
      · rw [hq] at he ⊢
        rw [if_neg (by simp), dif_pos (by omega)] at he
        repeat (first | (refine RunK ?_; intro w hL hB; try clear w) | (refine V.treeP ttOk hL 0 (.q 0 (.q 1 (.q 2 (.q 3 (.q 4 (.q 5 (.q 6 (.q 7 (.q 8 (.q 9 (.q 10 (.q 11 (.q 12 (.q 14 (.q 15 (.q 16 (.q 17 (.q 18 (.alt 13 (.alt 19 (.q 20 (.alt 21 (.q 22 (.alt 23 .nil .stop)) .stop)) .stop) (.alt 19 (.alt 13 (.q 20 (.alt 21 (.q 22 (.alt 23 .nil .stop)) .stop)) .stop) .stop)))))))))))))))))))) mixed (by decide +kernel) ?_; replace hL := hL.drew; conv => whnf) | (refine V.tailA ttOk mixed (by decide +kernel) ?_; replace hL := hL.drew; conv => whnf) | (refine Both.mk ?_ ?_ <;> conv => whnf) | (intro o9 ho9; first | (refine (fun (hq : first + (2 * r + 2) = o9) => ?_) (by omega); subst hq) | (refine (fun (hq : first + r = o9) => ?_) (by omega); subst hq) | fail; conv => whnf) | (refine Ld.dat hL 0 _ rfl (by omega) ?_; conv => whnf) | (refine St.dat hL hB 0 _ rfl (by omega) (fun w hL hB => ?_); dsimp only [List.set] at hL; conv => whnf) | (refine Lq.dat hL.cls 0 _ rfl (by omega) ?_; conv => whnf) | (refine Lq.dat (fun _ h => h) 0 _ rfl (by omega) ?_; conv => whnf) | (refine (lessQ_fn _ _ _).mono fun r w1 hr => ?_; obtain ⟨hr, hw⟩ := hr; subst hr; subst hw; conv => whnf) | fail)
        all_goals
          repeat (first | (refine RunH ?_; intro w hL hB; try clear w) | (refine Both.mk ?_ ?_ <;> conv => whnf) | (intro o9 ho9; first | (refine (fun (hq : first + (2 * r + 2) = o9) => ?_) (by omega); subst hq) | (refine (fun (hq : first + r = o9) => ?_) (by omega); subst hq) | fail; conv => whnf) | (refine Ld.dat hL 0 _ rfl (by omega) ?_; conv => whnf) | (refine St.dat hL hB 0 _ rfl (by omega) (fun w hL hB => ?_); dsimp only [List.set] at hL; conv => whnf) | (refine Lq.dat hL.cls 0 _ rfl (by omega) ?_; conv => whnf) | (refine Lq.dat (fun _ h => h) 0 _ rfl (by omega) ?_; conv => whnf) | (refine (lessQ_fn _ _ _).mono fun r w1 hr => ?_; obtain ⟨hr, hw⟩ := hr; subst hr; subst hw; conv => whnf) | fail)
          exact ⟨(2 * r + 2, Sort.swp x (first + r) (first + (2 * r + 2))), ⟨rfl, rfl, rfl, vint (by push_cast; omega), trivial⟩, ⟨by dsimp only; omega, he, hL, hB⟩, (by first | omega | (dsimp only; omega))⟩
      · obtain hq : ltN x[first + r]! x[first + (2 * r + 2)]! = false := by simpa using hq
        rw [hq] at he ⊢
        rw [if_pos (by simp)] at he
        subst he
        repeat (first | (refine RunH ?_; intro w hL hB; try clear w) | (refine Both.mk ?_ ?_ <;> conv => whnf) | fail)
        exact ⟨hL, hB⟩
    · obtain hc : ltN x[first + (2 * r + 1)]! x[first + (2 * r + 1) + 1]! = false := by simpa using hc
      rw [hc] at he ⊢
      rw [if_neg (by simp)] at he
      repeat (first | (refine RunK ?_; intro w hL hB; try clear w) | (refine V.treeA ttOk hL (.q 0 (.q 1 (.q 2 (.q 3 (.q 4 (.q 5 (.q 6 (.q 7 (.q 8 (.q 9 (.q 10 (.q 11 (.alt 12 (.q 13 .nil) .stop))))))))))))) mixed (by decide +kernel) ?_; replace hL := hL.drew; conv => whnf) | (refine V.tailA ttOk mixed (by decide +kernel) ?_; replace hL := hL.drew; conv => whnf) | (refine Both.mk ?_ ?_ <;> conv => whnf) | (intro o9 ho9; first | (refine (fun (hq : first + (2 * r + 1) = o9) => ?_) (by omega); subst hq) | (refine (fun (hq : first + r = o9) => ?_) (by omega); subst hq) | fail; conv => whnf) | (refine Ld.dat hL 0 _ rfl (by omega) ?_; conv => whnf) | (refine St.dat hL hB 0 _ rfl (by omega) (fun w hL hB => ?_); dsimp only [List.set] at hL; conv => whnf) | (refine Lq.dat hL.cls 0 _ rfl (by omega) ?_; conv => whnf) | (refine Lq.dat (fun _ h => h) 0 _ rfl (by omega) ?_; conv => whnf) | (refine (lessQ_fn _ _ _).mono fun r w1 hr => ?_; obtain ⟨hr, hw⟩ := hr; subst hr; subst hw; conv => whnf) | fail)
      by_cases hq : ltN x[first + r]! x[first + (2 * r + 1)]! = true
      · rw [hq] at he ⊢
        rw [if_neg (by simp)] at he
        repeat (first | (refine RunK ?_; intro w hL hB; try clear w) | (refine V.treeP ttOk hL 0 (.q 0 (.q 1 (.q 2 (.q 3 (.q 4 (.q 5 (.q 6 (.q 7 (.q 8 (.q 9 (.q 10 (.q 11 (.q 12 (.q 14 (.q 15 (.q 16 (.q 17 (.q 18 (.alt 13 (.alt 19 (.q 20 (.alt 21 (.q 22 (.alt 23 .nil .stop)) .stop)) .stop) (.alt 19 (.alt 13 (.q 20 (.alt 21 (.q 22 (.alt 23 .nil .stop)) .stop)) .stop) .stop)))))))))))))))))))) mixed (by decide +kernel) ?_; replace hL := hL.drew; conv => whnf) | (refine V.tailA ttOk mixed (by decide +kernel) ?_; replace hL := hL.drew; conv => whnf) | (refine Both.mk ?_ ?_ <;> conv => whnf) | (intro o9 ho9; first | (refine (fun (hq : first + (2 * r + 1) = o9) => ?_) (by omega); subst hq) | (refine (fun (hq : first + r = o9) => ?_) (by omega); subst hq) | fail; conv => whnf) | (refine Ld.dat hL 0 _ rfl (by omega) ?_; conv => whnf) | (refine St.dat hL hB 0 _ rfl (by omega) (fun w hL hB => ?_); dsimp only [List.set] at hL; conv => whnf) | (refine Lq.dat hL.cls 0 _ rfl (by omega) ?_; conv => whnf) | (refine Lq.dat (fun _ h => h) 0 _ rfl (by omega) ?_; conv => whnf) | (refine (lessQ_fn _ _ _).mono fun r w1 hr => ?_; obtain ⟨hr, hw⟩ := hr; subst hr; subst hw; conv => whnf) | fail)
        all_goals
          repeat (first | (refine RunH ?_; intro w hL hB; try clear w) | (refine Both.mk ?_ ?_ <;> conv => whnf) | (intro o9 ho9; first | (refine (fun (hq : first + (2 * r + 1) = o9) => ?_) (by omega); subst hq) | (refine (fun (hq : first + r = o9) => ?_) (by omega); subst hq) | fail; conv => whnf) | (refine Ld.dat hL 0 _ rfl (by omega) ?_; conv => whnf) | (refine St.dat hL hB 0 _ rfl (by omega) (fun w hL hB => ?_); dsimp only [List.set] at hL; conv => whnf) | (refine Lq.dat hL.cls 0 _ rfl (by omega) ?_; conv => whnf) | (refine Lq.dat (fun _ h => h) 0 _ rfl (by omega) ?_; conv => whnf) | (refine (lessQ_fn _ _ _).mono fun r w1 hr => ?_; obtain ⟨hr, hw⟩ := hr; subst hr; subst hw; conv => whnf) | fail)
          exact ⟨(2 * r + 1, Sort.swp x (first + r) (first + (2 * r + 1))), ⟨rfl, rfl, rfl, vint (by push_cast; omega), trivial⟩, ⟨by dsimp only; omega, he, hL, hB⟩, (by first | omega | (dsimp only; omega))⟩
      · obtain hq : ltN x[first + r]! x[first + (2 * r + 1)]! = false := by simpa using hq
        rw [hq] at he ⊢
        rw [if_pos (by simp)] at he
        subst he
        repeat (first | (refine RunH ?_; intro w hL hB; try clear w) | (refine Both.mk ?_ ?_ <;> conv => whnf) | fail)
        exact ⟨hL, hB⟩
  · rw [if_neg (by simp; omega)] at he
    repeat (first | (refine RunK ?_; intro w hL hB; try clear w) | (refine V.treeA ttOk hL (.q 0 (.q 1 (.q 2 (.q 3 (.q 4 (.q 5 (.q 6 (.q 7 (.q 8 (.q 9 (.q 10 (.q 11 (.q 12 (.q 13 (.q 14 (.q 15 (.q 16 (.q 17 (.alt 18 (.q 19 .nil) .stop))))))))))))))))))) mixed (by decide +kernel) ?_; replace hL := hL.drew; conv => whnf) | (refine V.tailA ttOk mixed (by decide +kernel) ?_; replace hL := hL.drew; conv => whnf) | (refine Both.mk ?_ ?_ <;> conv => whnf) | fail)
    repeat (first | (refine RunK ?_; intro w hL hB; try clear w) | (refine V.treeA ttOk hL (.q 0 (.q 1 (.q 2 (.q 3 (.q 4 (.q 5 (.q 6 (.q 7 (.q 8 (.q 9 (.q 10 (.q 11 (.alt 12 (.q 13 .nil) .stop))))))))))))) mixed (by decide +kernel) ?_; replace hL := hL.drew; conv => whnf) | (refine V.tailA ttOk mixed (by decide +kernel) ?_; replace hL := hL.drew; conv => whnf) | (refine Both.mk ?_ ?_ <;> conv => whnf) | (intro o9 ho9; first | (refine (fun (hq : first + (2 * r + 1) = o9) => ?_) (by omega); subst hq) | (refine (fun (hq : first + r = o9) => ?_) (by omega); subst hq) | fail; conv => whnf) | (refine Ld.dat hL 0 _ rfl (by omega) ?_; conv => whnf) | (refine St.dat hL hB 0 _ rfl (by omega) (fun w hL hB => ?_); dsimp only [List.set] at hL; conv => whnf) | (refine Lq.dat hL.cls 0 _ rfl (by omega) ?_; conv => whnf) | (refine Lq.dat (fun _ h => h) 0 _ rfl (by omega) ?_; conv => whnf) | (refine (lessQ_fn _ _ _).mono fun r w1 hr => ?_; obtain ⟨hr, hw⟩ := hr; subst hr; subst hw; conv => whnf) | fail)
    by_cases hq : ltN x[first + r]! x[first + (2 * r + 1)]! = true
    · rw [hq] at he ⊢
      rw [if_neg (by simp)] at he
      repeat (first | (refine RunK ?_; intro w hL hB; try clear w) | (refine V.treeP ttOk hL 0 (.q 0 (.q 1 (.q 2 (.q 3 (.q 4 (.q 5 (.q 6 (.q 7 (.q 8 (.q 9 (.q 10 (.q 11 (.q 12 (.q 14 (.q 15 (.q 16 (.q 17 (.q 18 (.alt 13 (.alt 19 (.q 20 (.alt 21 (.q 22 (.alt 23 .nil .stop)) .stop)) .stop) (.alt 19 (.alt 13 (.q 20 (.alt 21 (.q 22 (.alt 23 .nil .stop)) .stop)) .stop) .stop)))))))))))))))))))) mixed (by decide +kernel) ?_; replace hL := hL.drew; conv => whnf) | (refine V.tailA ttOk mixed (by decide +kernel) ?_; replace hL := hL.drew; conv => whnf) | (refine Both.mk ?_ ?_ <;> conv => whnf) | (intro o9 ho9; first | (refine (fun (hq : first + (2 * r + 1) = o9) => ?_) (by omega); subst hq) | (refine (fun (hq : first + r = o9) => ?_) (by omega); subst hq) | fail; conv => whnf) | (refine Ld.dat hL 0 _ rfl (by omega) ?_; conv => whnf) | (refine St.dat hL hB 0 _ rfl (by omega) (fun w hL hB => ?_); dsimp only [List.set] at hL; conv => whnf) | (refine Lq.dat hL.cls 0 _ rfl (by omega) ?_; conv => whnf) | (refine Lq.dat (fun _ h => h) 0 _ rfl (by omega) ?_; conv => whnf) | (refine (lessQ_fn _ _ _).mono fun r w1 hr => ?_; obtain ⟨hr, hw⟩ := hr; subst hr; subst hw; conv => whnf) | fail)
      all_goals
        repeat (first | (refine RunH ?_; intro w hL hB; try clear w) | (refine Both.mk ?_ ?_ <;> conv => whnf) | (intro o9 ho9; first | (refine (fun (hq : first + (2 * r + 1) = o9) => ?_) (by omega); subst hq) | (refine (fun (hq : first + r = o9) => ?_) (by omega); subst hq) | fail; conv => whnf) | (refine Ld.dat hL 0 _ rfl (by omega) ?_; conv => whnf) | (refine St.dat hL hB 0 _ rfl (by omega) (fun w hL hB => ?_); dsimp only [List.set] at hL; conv => whnf) | (refine Lq.dat hL.cls 0 _ rfl (by omega) ?_; conv => whnf) | (refine Lq.dat (fun _ h => h) 0 _ rfl (by omega) ?_; conv => whnf) | (refine (lessQ_fn _ _ _).mono fun r w1 hr => ?_; obtain ⟨hr, hw⟩ := hr; subst hr; subst hw; conv => whnf) | fail)
        exact ⟨(2 * r + 1, Sort.swp x (first + r) (first + (2 * r + 1))), ⟨rfl, rfl, rfl, vint (by push_cast; omega), trivial⟩, ⟨by dsimp only; omega, he, hL, hB⟩, (by first | omega | (dsimp only; omega))⟩
    · obtain hq : ltN x[first + r]! x[first + (2 * r + 1)]! = false := by simpa using hq
      rw [hq] at he ⊢
      rw [if_pos (by simp)] at he
      subst he
      repeat (first | (refine RunH ?_; intro w hL hB; try clear w) | (refine Both.mk ?_ ?_ <;> conv => whnf) | fail)
      exact ⟨hL, hB⟩
set_option maxHeartbeats 2000000 in
theorem reverse_fn (a b : Nat) (hb : b ≤ n) (hb0 : 0 < b) (hn : n ≤ 2305843009213693952) (ha : a ≤ n) (hL : Sep Tryz.prog B w0 w (Dat g cap n d :: F)) (hB : B ≤ w.heap.size) :
    Fn Tryz.prog 172 #[.slice (some ⟨g, 0, none⟩) n cap, .int .i64 (a : Int), .int .i64 (b : Int)] w fun r w' => Owns B w0 w' (Dat g cap n (Sort.reverseRange d a b) :: F) := by
  unfold Sort.reverseRange
  refine Fn.mk Tryz.func172 rfl (by kernel_rfl) Tryz.ntmps172 rfl (by rw [Tryz.results172]) ?_
  repeat (first | (refine RunH ?_; intro w hL hB; try clear w) | (refine Both.mk ?_ ?_ <;> conv => whnf) | fail)
  refine V.loop (α := Nat × Nat × Array Nat) (fun z => [(0, .slice (some ⟨g, 0, none⟩) n cap), (6, .int .i64 (z.1 : Int)), (7, .int .i64 (z.2.1 : Int))])
    (fun z w' => z.1 ≤ n ∧ z.2.1 < n ∧ Sort.reverseLoop z.1 z.2.1 z.2.2 = Sort.reverseLoop a (b - 1) d ∧ Sep Tryz.prog B w0 w' (Dat g cap n z.2.2 :: F) ∧ B ≤ w'.heap.size) (fun z => n + 1 - z.1) (a, b - 1, d) ⟨rfl, rfl, vint (by dsimp only; omega), trivial⟩ ⟨ha, by dsimp only; omega, rfl, hL, hB⟩ ?_
  clear hL hB
  rintro ⟨i, j, x⟩ w ⟨hi, hj, he, hL, hB⟩
  dsimp only at hi hj he hL ⊢
  rw [Sort.reverseLoop] at he
  by_cases h1 : i < j
  · rw [if_pos h1] at he
    repeat (first | (refine RunK ?_; intro w hL hB; try clear w) | (refine V.treeP ttOk hL 0 (.q 0 (.q 1 (.q 2 (.q 3 (.q 4 (.q 5 (.q 6 (.q 8 (.q 9 (.q 10 (.alt 7 (.alt 11 (.q 12 (.alt 13 (.q 14 (.alt 15 .nil .stop)) .stop)) .stop) (.alt 11 (.alt 7 (.q 12 (.alt 13 (.q 14 (.alt 15 .nil .stop)) .stop)) .stop) .stop)))))))))))) mixed (by decide +kernel) ?_; replace hL := hL.drew; conv => whnf) | (refine V.tailA ttOk mixed (by decide +kernel) ?_; replace hL := hL.drew; conv => whnf) | (refine Both.mk ?_ ?_ <;> conv => whnf) | (intro o9 ho9; first | (refine (fun (hq : i = o9) => ?_) (by omega); subst hq) | (refine (fun (hq : j = o9) => ?_) (by omega); subst hq) | fail; conv => whnf) | (refine Ld.dat hL 0 _ rfl (by omega) ?_; conv => whnf) | (refine St.dat hL hB 0 _ rfl (by omega) (fun w hL hB => ?_); dsimp only [List.set] at hL; conv => whnf) | (refine Lq.dat hL.cls 0 _ rfl (by omega) ?_; conv => whnf) | (refine Lq.dat (fun _ h => h) 0 _ rfl (by omega) ?_; conv => whnf) | (refine (lessQ_fn _ _ _).mono fun r w1 hr => ?_; obtain ⟨hr, hw⟩ := hr; subst hr; subst hw; conv => whnf) | fail)
    all_goals
      repeat (first | (refine RunH ?_; intro w hL hB; try clear w) | (refine Both.mk ?_ ?_ <;> conv => whnf) | (intro o9 ho9; first | (refine (fun (hq : i = o9) => ?_) (by omega); subst hq) | (refine (fun (hq : j = o9) => ?_) (by omega); subst hq) | fail; conv => whnf) | (refine Ld.dat hL 0 _ rfl (by omega) ?_; conv => whnf) | (refine St.dat hL hB 0 _ rfl (by omega) (fun w hL hB => ?_); dsimp only [List.set] at hL; conv => whnf) | (refine Lq.dat hL.cls 0 _ rfl (by omega) ?_; conv => whnf) | (refine Lq.dat (fun _ h => h) 0 _ rfl (by omega) ?_; conv => whnf) | (refine (lessQ_fn _ _ _).mono fun r w1 hr => ?_; obtain ⟨hr, hw⟩ := hr; subst hr; subst hw; conv => whnf) | fail)
      exact ⟨(i + 1, j - 1, Sort.swp x i j), ⟨rfl, vint (by push_cast; omega), vint (by push_cast; omega), trivial⟩, ⟨by dsimp only; omega, by dsimp only; omega, he, hL, hB⟩, (by first | omega | (dsimp only; omega))⟩
  · rw [if_neg h1] at he
    subst he
    repeat (first | (refine RunH ?_; intro w hL hB; try clear w) | (refine Both.mk ?_ ?_ <;> conv => whnf) | fail)
    exact ⟨hL, hB⟩
end
end Go.Proofs.YtladfadcgfdbfaaGreatDoor
namespace Go.Proofs.YtladfadcgfdbfaaGreatDoor
open Go.RowKit
set_option linter.unusedVariables false
set_option linter.unusedSimpArgs false
set_option maxRecDepth 100000
section
variable {B g cap n : Nat} {d : Array Nat} {w0 w : World} {F : List Res}
set_option maxHeartbeats 2000000 in
theorem heap_fn (a b : Nat) (hab : a < b) (hb : b ≤ n) (hn : n ≤ 2305843009213693952) (hL : Sep Tryz.prog B w0 w (Dat g cap n d :: F)) (hB : B ≤ w.heap.size) :
    Fn Tryz.prog 169 #[.slice (some ⟨g, 0, none⟩) n cap, .int .i64 (a : Int), .int .i64 (b : Int)] w fun r w' => Owns B w0 w' (Dat g cap n (Sort.heapSort ltN d a b) :: F) := by
  unfold Sort.heapSort
  refine Fn.mk Tryz.func169 rfl (by kernel_rfl) Tryz.ntmps169 rfl (by rw [Tryz.results169]) ?_
  repeat (first | (refine RunH ?_; intro w hL hB; try clear w) | (refine Both.mk ?_ ?_ <;> conv => whnf) | fail)
  refine Quo.at (b - a - 1) 2 (by omega) rfl (by decide) ?_
  conv => whnf
  repeat (first | (refine RunH ?_; intro w hL hB; try clear w) | (refine Both.mk ?_ ?_ <;> conv => whnf) | fail)
  refine V.loop (α := Nat × Array Nat) (fun z => [(0, .slice (some ⟨g, 0, none⟩) n cap), (6, .int .i64 (a : Int)), (7, .int .i64 0), (8, .int .i64 ((b - a : Nat) : Int)), (9, .int .i64 ((z.1 : Int) - 1))])
    (fun z w' => z.1 ≤ n ∧ Sort.heapBuild ltN (b - a) a z.1 z.2 = Sort.heapBuild ltN (b - a) a ((b - a - 1) / 2 + 1) d ∧ Sep Tryz.prog B w0 w' (Dat g cap n z.2 :: F) ∧ B ≤ w'.heap.size) (fun z => z.1) ((b - a - 1) / 2 + 1, d) ⟨rfl, rfl, rfl, vint (by omega), vint (by dsimp only; push_cast; omega), trivial⟩ ⟨by dsimp only; omega, rfl, hL, hB⟩ ?_
  clear hL hB
  rintro ⟨k, x⟩ w ⟨hk, he, hL, hB⟩
  dsimp only at hk he hL ⊢
  cases k with
  | succ k =>
    rw [Sort.heapBuild] at he
    rw [show (((k + 1 : Nat) : Int) - 1) = (k : Int) from by omega]
    repeat (first | (refine RunH ?_; intro w hL hB; try clear w) | (refine Both.mk ?_ ?_ <;> conv => whnf) | fail)
    refine (sift_fn k (b - a) a (by omega) (by omega) hn hL hB).mono fun r w ⟨hL, hB⟩ => ?_
    conv => whnf
    repeat (first | (refine RunH ?_; intro w hL hB; try clear w) | (refine Both.mk ?_ ?_ <;> conv => whnf) | fail)
    exact ⟨(k, Sort.siftDown ltN (b - a) a k x), ⟨rfl, rfl, rfl, rfl, vint (by push_cast; omega), trivial⟩, ⟨by dsimp only; omega, he, hL, hB⟩, (by first | omega | (dsimp only; omega))⟩
  | zero =>
    rw [Sort.heapBuild] at he
    rw [← he]
    clear he
    repeat (first | (refine RunH ?_; intro w hL hB; try clear w) | (refine Both.mk ?_ ?_ <;> conv => whnf) | fail)
    refine V.loop (α := Nat × Array Nat) (fun z => [(0, .slice (some ⟨g, 0, none⟩) n cap), (6, .int .i64 (a : Int)), (7, .int .i64 0), (10, .int .i64 ((z.1 : Int) - 1))])
      (fun z w' => z.1 ≤ b - a ∧ Sort.heapPop ltN a z.1 z.2 = Sort.heapPop ltN a (b - a) x ∧ Sep Tryz.prog B w0 w' (Dat g cap n z.2 :: F) ∧ B ≤ w'.heap.size) (fun z => z.1) (b - a, x) ⟨rfl, rfl, rfl, vint (by dsimp only), trivial⟩ ⟨Nat.le_refl _, rfl, hL, hB⟩ ?_
    clear hL hB
    rintro ⟨k, y⟩ w ⟨hk, he, hL, hB⟩
    dsimp only at hk he hL ⊢
    cases k with
    | succ k =>
      rw [Sort.heapPop] at he
      rw [show (((k + 1 : Nat) : Int) - 1) = (k : Int) from by omega]
      repeat (first | (refine RunK ?_; intro w hL hB; try clear w) | (refine V.treeP ttOk hL 0 (.q 0 (.q 1 (.q 2 (.q 3 (.q 4 (.q 5 (.q 6 (.q 7 (.q 8 (.q 9 (.q 10 (.q 12 (.q 13 (.q 14 (.alt 11 (.alt 15 (.q 16 (.alt 17 (.q 18 (.alt 19 .nil .stop)) .stop)) .stop) (.alt 15 (.alt 11 (.q 16 (.alt 17 (.q 18 (.alt 19 .nil .stop)) .stop)) .stop) .stop)))))))))))))))) mixed (by decide +kernel) ?_; replace hL := hL.drew; conv => whnf) | (refine V.tailA ttOk mixed (by decide +kernel) ?_; replace hL := hL.drew; conv => whnf) | (refine Both.mk ?_ ?_ <;> conv => whnf) | (intro o9 ho9; first | (refine (fun (hq : a + k = o9) => ?_) (by omega); subst hq) | (refine (fun (hq : a = o9) => ?_) (by omega); subst hq) | fail; conv => whnf) | (refine Ld.dat hL 0 _ rfl (by omega) ?_; conv => whnf) | (refine St.dat hL hB 0 _ rfl (by omega) (fun w hL hB => ?_); dsimp only [List.set] at hL; conv => whnf) | (refine Lq.dat hL.cls 0 _ rfl (by omega) ?_; conv => whnf) | (refine Lq.dat (fun _ h => h) 0 _ rfl (by omega) ?_; conv => whnf) | (refine (lessQ_fn _ _ _).mono fun r w1 hr => ?_; obtain ⟨hr, hw⟩ := hr; subst hr; subst hw; conv => whnf) | fail)
      all_goals
        repeat (first | (refine RunH ?_; intro w hL hB; try clear w) | (refine Both.mk ?_ ?_ <;> conv => whnf) | (intro o9 ho9; first | (refine (fun (hq : a + k = o9) => ?_) (by omega); subst hq) | (refine (fun (hq : a = o9) => ?_) (by omega); subst hq) | fail; conv => whnf) | (refine Ld.dat hL 0 _ rfl (by omega) ?_; conv => whnf) | (refine St.dat hL hB 0 _ rfl (by omega) (fun w hL hB => ?_); dsimp only [List.set] at hL; conv => whnf) | (refine Lq.dat hL.cls 0 _ rfl (by omega) ?_; conv => whnf) | (refine Lq.dat (fun _ h => h) 0 _ rfl (by omega) ?_; conv => whnf) | (refine (lessQ_fn _ _ _).mono fun r w1 hr => ?_; obtain ⟨hr, hw⟩ := hr; subst hr; subst hw; conv => whnf) | fail)
        refine (sift_fn 0 k a (by omega) (by omega) hn hL hB).mono fun r w ⟨hL, hB⟩ => ?_
        conv => whnf
        repeat (first | (refine RunH ?_; intro w hL hB; try clear w) | (refine Both.mk ?_ ?_ <;> conv => whnf) | fail)
        exact ⟨(k, Sort.siftDown ltN k a 0 (Sort.swp y a (a + k))), ⟨rfl, rfl, rfl, vint (by push_cast; omega), trivial⟩, ⟨by dsimp only; omega, he, hL, hB⟩, (by first | omega | (dsimp only; omega))⟩
    | zero =>
      rw [Sort.heapPop] at he
      rw [← he]
      repeat (first | (refine RunH ?_; intro w hL hB; try clear w) | (refine Both.mk ?_ ?_ <;> conv => whnf) | fail)
      exact ⟨hL, hB⟩
/-- numbers that a call counts in a variable of its own -/
def Cnt (c x : Nat) : Res := .blk c [.int .i64 (x : Int)] 3
set_option maxHeartbeats 1000000 in
theorem order2_fn (a b c s : Nat) (ha : a < n) (hb : b < n) (hn : n ≤ 2305843009213693952) (hs : s < 1000) (hL : Sep Tryz.prog B w0 w (Dat g cap n d :: Cnt c s :: F)) (hB : B ≤ w.heap.size) :
    Fn Tryz.prog 192 #[.slice (some ⟨g, 0, none⟩) n cap, .int .i64 (a : Int), .int .i64 (b : Int), .pointer (some ⟨c, 0, none⟩)] w fun r w' => r = .tuple #[.int .i64 ((Sort.order2 ltN d a b s).1 : Int), .int .i64 ((Sort.order2 ltN d a b s).2.1 : Int)] ∧ Owns B w0 w' (Dat g cap n d :: Cnt c (Sort.order2 ltN d a b s).2.2 :: F) := by
  unfold Sort.order2
  unfold Cnt at *
  refine Fn.mk Tryz.func192 rfl (by kernel_rfl) Tryz.ntmps192 rfl (by rw [Tryz.results192]) ?_
  repeat (first | (refine RunK ?_; intro w hL hB; try clear w) | (refine V.treeA ttOk hL (.q 0 (.q 1 (.q 2 (.q 3 (.q 4 (.q 5 (.q 6 (.q 7 (.alt 8 .nil .stop))))))))) mixed (by decide +kernel) ?_; replace hL := hL.drew; conv => whnf) | (refine V.tailA ttOk mixed (by decide +kernel) ?_; replace hL := hL.drew; conv => whnf) | (refine Both.mk ?_ ?_ <;> conv => whnf) | (intro o9 ho9; first | (refine (fun (hq : a = o9) => ?_) (by omega); subst hq) | (refine (fun (hq : b = o9) => ?_) (by omega); subst hq) | fail; conv => whnf) | (refine Ld.dat hL 0 _ rfl (by omega) ?_; conv => whnf) | (refine St.dat hL hB 0 _ rfl (by omega) (fun w hL hB => ?_); dsimp only [List.set] at hL; conv => whnf) | (refine Lq.dat hL.cls 0 _ rfl (by omega) ?_; conv => whnf) | (refine Lq.dat (fun _ h => h) 0 _ rfl (by omega) ?_; conv => whnf) | (refine (lessQ_fn _ _ _).mono fun r w1 hr => ?_; obtain ⟨hr, hw⟩ := hr; subst hr; subst hw; conv => whnf) | fail)
  by_cases hc : ltN d[b]! d[a]! = true
  · rw [hc]
    rw [if_pos rfl]
    repeat (first | (refine RunH ?_; intro w hL hB; try clear w) | (refine Both.mk ?_ ?_ <;> conv => whnf) | fail)
    exact ⟨rfl, hL, hB⟩
  · obtain hc : ltN d[b]! d[a]! = false := by simpa using hc
    rw [hc]
    rw [if_neg (by decide)]
    repeat (first | (refine RunH ?_; intro w hL hB; try clear w) | (refine Both.mk ?_ ?_ <;> conv => whnf) | fail)
    exact ⟨rfl, hL, hB⟩
theorem order2_lt {a b c s : Nat} (d : Array Nat) (ha : a < n) (hb : b < n) : (Sort.order2 ltN d a b s).1 < n ∧ (Sort.order2 ltN d a b s).2.1 < n ∧ (Sort.order2 ltN d a b s).2.2 ≤ s + 1 := by
  unfold Sort.order2
  split
  · exact ⟨hb, ha, Nat.le_refl _⟩
  · exact ⟨ha, hb, Nat.le_succ _⟩
set_option maxHeartbeats 1000000 in
theorem median_fn (a b c p s : Nat) (ha : a < n) (hb : b < n) (hc : c < n) (hn : n ≤ 2305843009213693952) (hs : s < 900) (hL : Sep Tryz.prog B w0 w (Dat g cap n d :: Cnt p s :: F)) (hB : B ≤ w.heap.size) :
    Fn Tryz.prog 188 #[.slice (some ⟨g, 0, none⟩) n cap, .int .i64 (a : Int), .int .i64 (b : Int), .int .i64 (c : Int), .pointer (some ⟨p, 0, none⟩)] w fun r w' => r = .int .i64 ((Sort.median ltN d a b c s).1 : Int) ∧ Owns B w0 w' (Dat g cap n d :: Cnt p (Sort.median ltN d a b c s).2 :: F) := by
  unfold Sort.median
  dsimp only
  have q1 := order2_lt (c := 0) (s := s) d ha hb
  have o1 := fun w : World => order2_fn (w := w) (B := B) (w0 := w0) (F := F) (g := g) (cap := cap) (d := d) a b p s ha hb hn (by omega)
  generalize Sort.order2 ltN d a b s = r1 at *
  have q2 := order2_lt (c := 0) (s := r1.2.2) d q1.2.1 hc
  have o2 := fun w : World => order2_fn (w := w) (B := B) (w0 := w0) (F := F) (g := g) (cap := cap) (d := d) r1.2.1 c p r1.2.2 q1.2.1 hc hn (by omega)
  generalize Sort.order2 ltN d r1.2.1 c r1.2.2 = r2 at *
  have q3 := order2_lt (c := 0) (s := r2.2.2) d q1.1 q2.1
  have o3 := fun w : World => order2_fn (w := w) (B := B) (w0 := w0) (F := F) (g := g) (cap := cap) (d := d) r1.1 r2.1 p r2.2.2 q1.1 q2.1 hn (by omega)
  generalize Sort.order2 ltN d r1.1 r2.1 r2.2.2 = r3 at *
  refine Fn.mk Tryz.func188 rfl (by kernel_rfl) Tryz.ntmps188 rfl (by rw [Tryz.results188]) ?_
  repeat (first | (refine RunH ?_; intro w hL hB; try clear w) | (refine Both.mk ?_ ?_ <;> conv => whnf) | fail)
  refine (o1 _ hL hB).mono fun r w ⟨hr, hL, hB⟩ => ?_
  subst hr
  conv => whnf
  repeat (first | (refine RunH ?_; intro w hL hB; try clear w) | (refine Both.mk ?_ ?_ <;> conv => whnf) | fail)
  refine (o2 _ hL hB).mono fun r w ⟨hr, hL, hB⟩ => ?_
  subst hr
  conv => whnf
  repeat (first | (refine RunH ?_; intro w hL hB; try clear w) | (refine Both.mk ?_ ?_ <;> conv => whnf) | fail)
  refine (o3 _ hL hB).mono fun r w ⟨hr, hL, hB⟩ => ?_
  subst hr
  conv => whnf
  repeat (first | (refine RunH ?_; intro w hL hB; try clear w) | (refine Both.mk ?_ ?_ <;> conv => whnf) | fail)
  exact ⟨rfl, hL, hB⟩
theorem median_lt {a b c s : Nat} (d : Array Nat) (ha : a < n) (hb : b < n) (hc : c < n) : (Sort.median ltN d a b c s).1 < n ∧ (Sort.median ltN d a b c s).2 ≤ s + 3 := by
  unfold Sort.median
  dsimp only
  have q1 := order2_lt (c := 0) (s := s) d ha hb
  generalize Sort.order2 ltN d a b s = r1 at *
  have q2 := order2_lt (c := 0) (s := r1.2.2) d q1.2.1 hc
  generalize Sort.order2 ltN d r1.2.1 c r1.2.2 = r2 at *
  have q3 := order2_lt (c := 0) (s := r2.2.2) d q1.1 q2.1
  generalize Sort.order2 ltN d r1.1 r2.1 r2.2.2 = r3 at *
  exact ⟨q3.2.1, by omega⟩
set_option maxHeartbeats 1000000 in
theorem adjacent_fn (a p s : Nat) (ha : a + 1 < n) (ha0 : 0 < a) (hn : n ≤ 2305843009213693952) (hs : s < 900) (hL : Sep Tryz.prog B w0 w (Dat g cap n d :: Cnt p s :: F)) (hB : B ≤ w.heap.size) :
    Fn Tryz.prog 187 #[.slice (some ⟨g, 0, none⟩) n cap, .int .i64 (a : Int), .pointer (some ⟨p, 0, none⟩)] w fun r w' => r = .int .i64 ((Sort.medianAdjacent ltN d a s).1 : Int) ∧ Owns B w0 w' (Dat g cap n d :: Cnt p (Sort.medianAdjacent ltN d a s).2 :: F) := by
  unfold Sort.medianAdjacent
  have o1 := fun w : World => median_fn (w := w) (B := B) (w0 := w0) (F := F) (g := g) (cap := cap) (d := d) (a - 1) a (a + 1) p s (by omega) (by omega) ha hn hs
  rw [show (((a - 1 : Nat)) : Int) = (a : Int) - 1 from by omega, show (((a + 1 : Nat)) : Int) = (a : Int) + 1 from by omega] at o1
  refine Fn.mk Tryz.func187 rfl (by kernel_rfl) Tryz.ntmps187 rfl (by rw [Tryz.results187]) ?_
  repeat (first | (refine RunH ?_; intro w hL hB; try clear w) | (refine Both.mk ?_ ?_ <;> conv => whnf) | fail)
  refine (o1 _ hL hB).mono fun r w ⟨hr, hL, hB⟩ => ?_
  subst hr
  conv => whnf
  repeat (first | (refine RunH ?_; intro w hL hB; try clear w) | (refine Both.mk ?_ ?_ <;> conv => whnf) | fail)
  exact ⟨rfl, hL, hB⟩
end
end Go.Proofs.YtladfadcgfdbfaaGreatDoor
