/- slices.siftDownOrdered, heapSortOrdered, reverseRangeOrdered at uint64. Nothing is claimed here. -/
import Derived.Test.YtpkealgeigpjpaaDoorQa
namespace Go.Proofs.YtpkealgeigpjpaaDoor
open Go.RowKit
set_option linter.unusedVariables false
set_option linter.unusedSimpArgs false
set_option maxRecDepth 100000

section
variable {B g cap n : Nat} {d : Array Nat} {w0 w : World} {F : List Res}
set_option maxHeartbeats 4000000 in
theorem sift_fn (lo hi first : Nat) (hb : first + hi ≤ n) (hlo : lo ≤ n) (hn : n ≤ 2305843009213693952) (hL : Sep Tryd.prog B w0 w (Dat g cap n d :: F)) (hB : B ≤ w.heap.size) :
    Fn Tryd.prog 103 #[.slice (some ⟨g, 0, none⟩) n cap, .int .i64 (lo : Int), .int .i64 (hi : Int), .int .i64 (first : Int)] w fun r w' => Owns B w0 w' (Dat g cap n (Sort.siftDown ltN hi first lo d) :: F) := by
  refine Fn.mk Tryd.func103 rfl (by kernel_rfl) Tryd.ntmps103 rfl (by rw [Tryd.results103]) ?_
  repeat (first | (refine RunH ?_; intro w hL hB; try clear w) | (refine Both.mk ?_ ?_ <;> conv => whnf) | fail)
  refine V.loop (α := Nat × Array Nat) (fun z => [(0, .slice (some ⟨g, 0, none⟩) n cap), (2, .int .i64 (hi : Int)), (3, .int .i64 (first : Int)), (8, .int .i64 (z.1 : Int))])
    (fun z w' => z.1 ≤ n ∧ Sort.siftDown ltN hi first z.1 z.2 = Sort.siftDown ltN hi first lo d ∧ Sep Tryd.prog B w0 w' (Dat g cap n z.2 :: F) ∧ B ≤ w'.heap.size) (fun z => n + 1 - z.1) (lo, d) ⟨rfl, rfl, rfl, rfl, trivial⟩ ⟨hlo, rfl, hL, hB⟩ ?_
  clear hL hB
  rintro ⟨r, x⟩ w ⟨hr, he, hL, hB⟩
  dsimp only at hr he hL ⊢
  rw [Sort.siftDown] at he
  by_cases h1 : 2 * r + 1 ≥ hi
  · rw [dif_pos h1] at he
    subst he
    repeat (first | (refine RunH ?_; intro w hL hB; try clear w) | (refine Both.mk ?_ ?_ <;> conv => whnf) | fail)
    exact ⟨hL, hB⟩
  rw [dif_neg h1] at he
  by_cases h2 : 2 * r + 1 + 1 < hi
  · repeat (first | (refine RunK ?_; intro w hL hB; try clear w) | (refine V.treeA ttOk hL (.q 0 (.q 1 (.q 2 (.q 3 (.q 4 (.q 5 (.q 6 (.q 7 (.q 8 (.q 9 (.q 10 (.q 11 (.q 12 (.q 13 (.q 14 (.q 15 (.q 16 (.q 17 (.alt 18 (.q 19 .nil) .stop))))))))))))))))))) mixed (by decide +kernel) ?_; replace hL := hL.drew; conv => whnf) | (refine V.tailA ttOk mixed (by decide +kernel) ?_; replace hL := hL.drew; conv => whnf) | (refine Both.mk ?_ ?_ <;> conv => whnf) | (intro o9 ho9; first | (refine (fun (hq : first + (2 * r + 1) = o9) => ?_) (by omega); subst hq) | (refine (fun (hq : first + (2 * r + 1) + 1 = o9) => ?_) (by omega); subst hq) | fail; conv => whnf) | (refine Ld.dat hL 0 _ rfl (by omega) ?_; conv => whnf) | (refine St.dat hL hB 0 _ rfl (by omega) (fun w hL hB => ?_); dsimp only [List.set] at hL; conv => whnf) | (refine Lq.dat hL.cls 0 _ rfl (by omega) ?_; conv => whnf) | (refine Lq.dat (fun _ h => h) 0 _ rfl (by omega) ?_; conv => whnf) | (refine (lessQ_fn _ _ _).mono fun r w1 hr => ?_; obtain ⟨hr, hw⟩ := hr; subst hr; subst hw; conv => whnf) | fail)
    by_cases hc : ltN x[first + (2 * r + 1)]! x[first + (2 * r + 1) + 1]! = true
    · rw [hc] at he ⊢
      rw [if_pos (by simp; omega)] at he
      repeat (first | (refine RunK ?_; intro w hL hB; try clear w) | (refine V.treeA ttOk hL (.q 0 (.q 1 (.q 2 (.q 3 (.q 4 (.q 5 (.q 6 (.q 7 (.q 8 (.q 9 (.q 10 (.q 11 (.alt 12 (.q 13 .nil) .stop))))))))))))) mixed (by decide +kernel) ?_; replace hL := hL.drew; conv => whnf) | (refine V.tailA ttOk mixed (by decide +kernel) ?_; replace hL := hL.drew; conv => whnf) | (refine Both.mk ?_ ?_ <;> conv => whnf) | (intro o9 ho9; first | (refine (fun (hq : first + (2 * r + 2) = o9) => ?_) (by omega); subst hq) | (refine (fun (hq : first + r = o9) => ?_) (by omega); subst hq) | fail; conv => whnf) | (refine Ld.dat hL 0 _ rfl (by omega) ?_; conv => whnf) | (refine St.dat hL hB 0 _ rfl (by omega) (fun w hL hB => ?_); dsimp only [List.set] at hL; conv => whnf) | (refine Lq.dat hL.cls 0 _ rfl (by omega) ?_; conv => whnf) | (refine Lq.dat (fun _ h => h) 0 _ rfl (by omega) ?_; conv => whnf) | (refine (lessQ_fn _ _ _).mono fun r w1 hr => ?_; obtain ⟨hr, hw⟩ := hr; subst hr; subst hw; conv => whnf) | fail)
      by_cases hq : ltN x[first + r]! x[first + (2 * r + 2)]! = true
      · rw [hq] at he ⊢
        rw [if_neg (by simp), dif_pos (by omega)] at he
        repeat (first | (refine RunK ?_; intro w hL hB; try clear w) | (refine V.treeP ttOk hL 0 (.q 0 (.q 1 (.q 2 (.q 3 (.q 4 (.q 5 (.q 6 (.q 7 (.q 8 (.q 9 (.q 10 (.q 11 (.q 12 (.q 14 (.q 15 (.q 16 (.q 17 (.q 18 (.alt 13 (.alt 19 (.q 20 (.alt 21 (.q 22 (.alt 23 .nil .stop)) .stop)) .stop) (.alt 19 (.alt 13 (.q 20 (.alt 21 (.q 22 (.alt 23 .nil .stop)) .stop)) .stop) .stop)))))))))))))))))))) mixed (by decide +kernel) ?_; replace hL := hL.drew; conv => whnf) | (refine V.tailA ttOk mixed (by decide +kernel) ?_; replace hL := hL.drew; conv => whnf) | (refine Both.mk ?_ ?_ <;> conv => whnf) | (intro o9 ho9; first | (refine (fun (hq : first + (2 * r + 2) = o9) => ?_) (by omega); subst hq) | (refine (fun (hq : first + r = o9) => ?_) (by omega); subst hq) | fail; conv => whnf) | (refine Ld.dat hL 0 _ rfl (by omega) ?_; conv => whnf) | (refine St.dat hL hB 0 _ rfl (by omega) (fun w hL hB => ?_); dsimp only [List.set] at hL; conv => whnf) | (refine Lq.dat hL.cls 0 _ rfl (by omega) ?_; conv => whnf) | (refine Lq.dat (fun _ h => h) 0 _ rfl (by omega) ?_; conv => whnf) | (refine (lessQ_fn _ _ _).mono fun r w1 hr => ?_; obtain ⟨hr, hw⟩ := hr; subst hr; subst hw; conv => whnf) | fail)
        all_goals
          repeat (first | (refine RunH ?_; intro w hL hB; try clear w) | (refine Both.mk ?_ ?_ <;> conv => whnf) | (intro o9 ho9; first | (refine (fun (hq : first + (2 * r + 2) = o9) => ?_) (by omega); subst hq) | (refine (fun (hq : first + r = o9) => ?_) (by omega); subst hq) | fail; conv => whnf) | (refine Ld.dat hL 0 _ rfl (by omega) ?_; conv => whnf) | (refine St.dat hL hB 0 _ rfl (by omega) (fun w hL hB => ?_); dsimp only [List.set] at hL; conv => whnf) | (refine Lq.dat hL.cls 0 _ rfl (by omega) ?_; conv => whnf) | (refine Lq.dat (fun _ h => h) 0 _ rfl (by omega) ?_; conv => whnf) | (refine (lessQ_fn _ _ _).mono fun r w1 hr => ?_; obtain ⟨hr, hw⟩ := hr; subst hr; subst hw; conv => whnf) | fail)
          exact ⟨(2 * r + 2, Sort.swp x (first + r) (first + (2 * r + 2))), ⟨rfl, rfl, rfl, vint (by push_cast; omega), trivial⟩, ⟨by dsimp only; omega, he, hL, hB⟩, (by first | omega | (dsimp only; omega))⟩
      · obtain hq : ltN x[first + r]! x[first + (2 * r + 2)]! = false := by simpa using hq
        rw [hq] at he ⊢
        rw [if_pos (by simp)] at he
        subst he
        repeat (first | (refine RunH ?_; intro w hL hB; try clear w) | (refine Both.mk ?_ ?_ <;> conv => whnf) | fail)
        exact ⟨hL, hB⟩
    · obtain hc : ltN x[first + (2 * r + 1)]! x[first + (2 * r + 1) + 1]! = false := by simpa using hc
      rw [hc] at he ⊢
      rw [if_neg (by simp)] at he
      repeat (first | (refine RunK ?_; intro w hL hB; try clear w) | (refine V.treeA ttOk hL (.q 0 (.q 1 (.q 2 (.q 3 (.q 4 (.q 5 (.q 6 (.q 7 (.q 8 (.q 9 (.q 10 (.q 11 (.alt 12 (.q 13 .nil) .stop))))))))))))) mixed (by decide +kernel) ?_; replace hL := hL.drew; conv => whnf) | (refine V.tailA ttOk mixed (by decide +kernel) ?_; replace hL := hL.drew; conv => whnf) | (refine Both.mk ?_ ?_ <;> conv => whnf) | (intro o9 ho9; first | (refine (fun (hq : first + (2 * r + 1) = o9) => ?_) (by omega); subst hq) | (refine (fun (hq : first + r = o9) => ?_) (by omega); subst hq) | fail; conv => whnf) | (refine Ld.dat hL 0 _ rfl (by omega) ?_; conv => whnf) | (refine St.dat hL hB 0 _ rfl (by omega) (fun w hL hB => ?_); dsimp only [List.set] at hL; conv => whnf) | (refine Lq.dat hL.cls 0 _ rfl (by omega) ?_; conv => whnf) | (refine Lq.dat (fun _ h => h) 0 _ rfl (by omega) ?_; conv => whnf) | (refine (lessQ_fn _ _ _).mono fun r w1 hr => ?_; obtain ⟨hr, hw⟩ := hr; subst hr; subst hw; conv => whnf) | fail)
      by_cases hq : ltN x[first + r]! x[first + (2 * r + 1)]! = true
      · rw [hq] at he ⊢
        rw [if_neg (by simp)] at he
        repeat (first | (refine RunK ?_; intro w hL hB; try clear w) | (refine V.treeP ttOk hL 0 (.q 0 (.q 1 (.q 2 (.q 3 (.q 4 (.q 5 (.q 6 (.q 7 (.q 8 (.q 9 (.q 10 (.q 11 (.q 12 (.q 14 (.q 15 (.q 16 (.q 17 (.q 18 (.alt 13 (.alt 19 (.q 20 (.alt 21 (.q 22 (.alt 23 .nil .stop)) .stop)) .stop) (.alt 19 (.alt 13 (.q 20 (.alt 21 (.q 22 (.alt 23 .nil .stop)) .stop)) .stop) .stop)))))))))))))))))))) mixed (by decide +kernel) ?_; replace hL := hL.drew; conv => whnf) | (refine V.tailA ttOk mixed (by decide +kernel) ?_; replace hL := hL.drew; conv => whnf) | (refine Both.mk ?_ ?_ <;> conv => whnf) | (intro o9 ho9; first | (refine (fun (hq : first + (2 * r + 1) = o9) => ?_) (by omega); subst hq) | (refine (fun (hq : first + r = o9) => ?_) (by omega); subst hq) | fail; conv => whnf) | (refine Ld.dat hL 0 _ rfl (by omega) ?_; conv => whnf) | (refine St.dat hL hB 0 _ rfl (by omega) (fun w hL hB => ?_); dsimp only [List.set] at hL; conv => whnf) | (refine Lq.dat hL.cls 0 _ rfl (by omega) ?_; conv => whnf) | (refine Lq.dat (fun _ h => h) 0 _ rfl (by omega) ?_; conv => whnf) | (refine (lessQ_fn _ _ _).mono fun r w1 hr => ?_; obtain ⟨hr, hw⟩ := hr; subst hr; subst hw; conv => whnf) | fail)
        all_goals
          repeat (first | (refine RunH ?_; intro w hL hB; try clear w) | (refine Both.mk ?_ ?_ <;> conv => whnf) | (intro o9 ho9; first | (refine (fun (hq : first + (2 * r + 1) = o9) => ?_) (by omega); subst hq) | (refine (fun (hq : first + r = o9) => ?_) (by omega); subst hq) | fail; conv => whnf) | (refine Ld.dat hL 0 _ rfl (by omega) ?_; conv => whnf) | (refine St.dat hL hB 0 _ rfl (by omega) (fun w hL hB => ?_); dsimp only [List.set] at hL; conv => whnf) | (refine Lq.dat hL.cls 0 _ rfl (by omega) ?_; conv => whnf) | (refine Lq.dat (fun _ h => h) 0 _ rfl (by omega) ?_; conv => whnf) | (refine (lessQ_fn _ _ _).mono fun r w1 hr => ?_; obtain ⟨hr, hw⟩ := hr; subst hr; subst hw; conv => whnf) | fail)
          exact ⟨(2 * r + 1, Sort.swp x (first + r) (first + (2 * r + 1))), ⟨rfl, rfl, rfl, vint (by push_cast; omega), trivial⟩, ⟨by dsimp only; omega, he, hL, hB⟩, (by first | omega | (dsimp only; omega))⟩
      · obtain hq : ltN x[first + r]! x[first + (2 * r + 1)]! = false := by simpa using hq
        rw [hq] at he ⊢
        rw [if_pos (by simp)] at he
        subst he
        repeat (first | (refine RunH ?_; intro w hL hB; try clear w) | (refine Both.mk ?_ ?_ <;> conv => whnf) | fail)
        exact ⟨hL, hB⟩
  · rw [if_neg (by simp; omega)] at he
    repeat (first | (refine RunK ?_; intro w hL hB; try clear w) | (refine V.treeA ttOk hL (.q 0 (.q 1 (.q 2 (.q 3 (.q 4 (.q 5 (.q 6 (.q 7 (.q 8 (.q 9 (.q 10 (.q 11 (.q 12 (.q 13 (.q 14 (.q 15 (.q 16 (.q 17 (.alt 18 (.q 19 .nil) .stop))))))))))))))))))) mixed (by decide +kernel) ?_; replace hL := hL.drew; conv => whnf) | (refine V.tailA ttOk mixed (by decide +kernel) ?_; replace hL := hL.drew; conv => whnf) | (refine Both.mk ?_ ?_ <;> conv => whnf) | fail)
    repeat (first | (refine RunK ?_; intro w hL hB; try clear w) | (refine V.treeA ttOk hL (.q 0 (.q 1 (.q 2 (.q 3 (.q 4 (.q 5 (.q 6 (.q 7 (.q 8 (.q 9 (.q 10 (.q 11 (.alt 12 (.q 13 .nil) .stop))))))))))))) mixed (by decide +kernel) ?_; replace hL := hL.drew; conv => whnf) | (refine V.tailA ttOk mixed (by decide +kernel) ?_; replace hL := hL.drew; conv => whnf) | (refine Both.mk ?_ ?_ <;> conv => whnf) | (intro o9 ho9; first | (refine (fun (hq : first + (2 * r + 1) = o9) => ?_) (by omega); subst hq) | (refine (fun (hq : first + r = o9) => ?_) (by omega); subst hq) | fail; conv => whnf) | (refine Ld.dat hL 0 _ rfl (by omega) ?_; conv => whnf) | (refine St.dat hL hB 0 _ rfl (by omega) (fun w hL hB => ?_); dsimp only [List.set] at hL; conv => whnf) | (refine Lq.dat hL.cls 0 _ rfl (by omega) ?_; conv => whnf) | (refine Lq.dat (fun _ h => h) 0 _ rfl (by omega) ?_; conv => whnf) | (refine (lessQ_fn _ _ _).mono fun r w1 hr => ?_; obtain ⟨hr, hw⟩ := hr; subst hr; subst hw; conv => whnf) | fail)
    by_cases hq : ltN x[first + r]! x[first + (2 * r + 1)]! = true
    · rw [hq] at he ⊢
      rw [if_neg (by simp)] at he
      repeat (first | (refine RunK ?_; intro w hL hB; try clear w) | (refine V.treeP ttOk hL 0 (.q 0 (.q 1 (.q 2 (.q 3 (.q 4 (.q 5 (.q 6 (.q 7 (.q 8 (.q 9 (.q 10 (.q 11 (.q 12 (.q 14 (.q 15 (.q 16 (.q 17 (.q 18 (.alt 13 (.alt 19 (.q 20 (.alt 21 (.q 22 (.alt 23 .nil .stop)) .stop)) .stop) (.alt 19 (.alt 13 (.q 20 (.alt 21 (.q 22 (.alt 23 .nil .stop)) .stop)) .stop) .stop)))))))))))))))))))) mixed (by decide +kernel) ?_; replace hL := hL.drew; conv => whnf) | (refine V.tailA ttOk mixed (by decide +kernel) ?_; replace hL := hL.drew; conv => whnf) | (refine Both.mk ?_ ?_ <;> conv => whnf) | (intro o9 ho9; first | (refine (fun (hq : first + (2 * r + 1) = o9) => ?_) (by omega); subst hq) | (refine (fun (hq : first + r = o9) => ?_) (by omega); subst hq) | fail; conv => whnf) | (refine Ld.dat hL 0 _ rfl (by omega) ?_; conv => whnf) | (refine St.dat hL hB 0 _ rfl (by omega) (fun w hL hB => ?_); dsimp only [List.set] at hL; conv => whnf) | (refine Lq.dat hL.cls 0 _ rfl (by omega) ?_; conv => whnf) | (refine Lq.dat (fun _ h => h) 0 _ rfl (by omega) ?_; conv => whnf) | (refine (lessQ_fn _ _ _).mono fun r w1 hr => ?_; obtain ⟨hr, hw⟩ := hr; subst hr; subst hw; conv => whnf) | fail)
      all_goals
        repeat (first | (refine RunH ?_; intro w hL hB; try clear w) | (refine Both.mk ?_ ?_ <;> conv => whnf) | (intro o9 ho9; first | (refine (fun (hq : first + (2 * r + 1) = o9) => ?_) (by omega); subst hq) | (refine (fun (hq : first + r = o9) => ?_) (by omega); subst hq) | fail; conv => whnf) | (refine Ld.dat hL 0 _ rfl (by omega) ?_; conv => whnf) | (refine St.dat hL hB 0 _ rfl (by omega) (fun w hL hB => ?_); dsimp only [List.set] at hL; conv => whnf) | (refine Lq.dat hL.cls 0 _ rfl (by omega) ?_; conv => whnf) | (refine Lq.dat (fun _ h => h) 0 _ rfl (by omega) ?_; conv => whnf) | (refine (lessQ_fn _ _ _).mono fun r w1 hr => ?_; obtain ⟨hr, hw⟩ := hr; subst hr; subst hw; conv => whnf) | fail)
        exact ⟨(2 * r + 1, Sort.swp x (first + r) (first + (2 * r + 1))), ⟨rfl, rfl, rfl, vint (by push_cast; omega), trivial⟩, ⟨by dsimp only; omega, he, hL, hB⟩, (by first | omega | (dsimp only; omega))⟩
    · obtain hq : ltN x[first + r]! x[first + (2 * r + 1)]! = false := by simpa using hq
      rw [hq] at he ⊢
      rw [if_pos (by simp)] at he
      subst he
      repeat (first | (refine RunH ?_; intro w hL hB; try clear w) | (refine Both.mk ?_ ?_ <;> conv => whnf) | fail)
      exact ⟨hL, hB⟩
set_option maxHeartbeats 2000000 in
theorem reverse_fn (a b : Nat) (hb : b ≤ n) (hb0 : 0 < b) (hn : n ≤ 2305843009213693952) (ha : a ≤ n) (hL : Sep Tryd.prog B w0 w (Dat g cap n d :: F)) (hB : B ≤ w.heap.size) :
    Fn Tryd.prog 90 #[.slice (some ⟨g, 0, none⟩) n cap, .int .i64 (a : Int), .int .i64 (b : Int)] w fun r w' => Owns B w0 w' (Dat g cap n (Sort.reverseRange d a b) :: F) := by
  unfold Sort.reverseRange
  refine Fn.mk Tryd.func90 rfl (by kernel_rfl) Tryd.ntmps90 rfl (by rw [Tryd.results90]) ?_
  repeat (first | (refine RunH ?_; intro w hL hB; try clear w) | (refine Both.mk ?_ ?_ <;> conv => whnf) | fail)
  refine V.loop (α := Nat × Nat × Array Nat) (fun z => [(0, .slice (some ⟨g, 0, none⟩) n cap), (6, .int .i64 (z.1 : Int)), (7, .int .i64 (z.2.1 : Int))])
    (fun z w' => z.1 ≤ n ∧ z.2.1 < n ∧ Sort.reverseLoop z.1 z.2.1 z.2.2 = Sort.reverseLoop a (b - 1) d ∧ Sep Tryd.prog B w0 w' (Dat g cap n z.2.2 :: F) ∧ B ≤ w'.heap.size) (fun z => n + 1 - z.1) (a, b - 1, d) ⟨rfl, rfl, vint (by dsimp only; omega), trivial⟩ ⟨ha, by dsimp only; omega, rfl, hL, hB⟩ ?_
  clear hL hB
  rintro ⟨i, j, x⟩ w ⟨hi, hj, he, hL, hB⟩
  dsimp only at hi hj he hL ⊢
  rw [Sort.reverseLoop] at he
  by_cases h1 : i < j
  · rw [if_pos h1] at he
    repeat (first | (refine RunK ?_; intro w hL hB; try clear w) | (refine V.treeP ttOk hL 0 (.q 0 (.q 1 (.q 2 (.q 3 (.q 4 (.q 5 (.q 6 (.q 8 (.q 9 (.q 10 (.alt 7 (.alt 11 (.q 12 (.alt 13 (.q 14 (.alt 15 .nil .stop)) .stop)) .stop) (.alt 11 (.alt 7 (.q 12 (.alt 13 (.q 14 (.alt 15 .nil .stop)) .stop)) .stop) .stop)))))))))))) mixed (by decide +kernel) ?_; replace hL := hL.drew; conv => whnf) | (refine V.tailA ttOk mixed (by decide +kernel) ?_; replace hL := hL.drew; conv => whnf) | (refine Both.mk ?_ ?_ <;> conv => whnf) | (intro o9 ho9; first | (refine (fun (hq : i = o9) => ?_) (by omega); subst hq) | (refine (fun (hq : j = o9) => ?_) (by omega); subst hq) | fail; conv => whnf) | (refine Ld.dat hL 0 _ rfl (by omega) ?_; conv => whnf) | (refine St.dat hL hB 0 _ rfl (by omega) (fun w hL hB => ?_); dsimp only [List.set] at hL; conv => whnf) | (refine Lq.dat hL.cls 0 _ rfl (by omega) ?_; conv => whnf) | (refine Lq.dat (fun _ h => h) 0 _ rfl (by omega) ?_; conv => whnf) | (refine (lessQ_fn _ _ _).mono fun r w1 hr => ?_; obtain ⟨hr, hw⟩ := hr; subst hr; subst hw; conv => whnf) | fail)
    all_goals
      repeat (first | (refine RunH ?_; intro w hL hB; try clear w) | (refine Both.mk ?_ ?_ <;> conv => whnf) | (intro o9 ho9; first | (refine (fun (hq : i = o9) => ?_) (by omega); subst hq) | (refine (fun (hq : j = o9) => ?_) (by omega); subst hq) | fail; conv => whnf) | (refine Ld.dat hL 0 _ rfl (by omega) ?_; conv => whnf) | (refine St.dat hL hB 0 _ rfl (by omega) (fun w hL hB => ?_); dsimp only [List.set] at hL; conv => whnf) | (refine Lq.dat hL.cls 0 _ rfl (by omega) ?_; conv => whnf) | (refine Lq.dat (fun _ h => h) 0 _ rfl (by omega) ?_; conv => whnf) | (refine (lessQ_fn _ _ _).mono fun r w1 hr => ?_; obtain ⟨hr, hw⟩ := hr; subst hr; subst hw; conv => whnf) | fail)
      exact ⟨(i + 1, j - 1, Sort.swp x i j), ⟨rfl, vint (by push_cast; omega), vint (by push_cast; omega), trivial⟩, ⟨by dsimp only; omega, by dsimp only; omega, he, hL, hB⟩, (by first | omega | (dsimp only; omega))⟩
  · rw [if_neg h1] at he
    subst he
    repeat (first | (refine RunH ?_; intro w hL hB; try clear w) | (refine Both.mk ?_ ?_ <;> conv => whnf) | fail)
    exact ⟨hL, hB⟩
end
end Go.Proofs.YtpkealgeigpjpaaDoor
