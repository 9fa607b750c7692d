/- slices.partialInsertionSortOrdered at uint64. slices.partitionEqualOrdered, partitionOrdered at uint64. Nothing is claimed here. -/
import Derived.Test.YtladfadcgfdbfaaGreatDoorD04
namespace Go.Proofs.YtladfadcgfdbfaaGreatDoor
open Go.RowKit
set_option linter.unusedVariables false
set_option linter.unusedSimpArgs false
set_option maxRecDepth 100000
section
variable {B g cap n : Nat} {d : Array Nat} {w0 w : World} {F : List Res}
set_option maxHeartbeats 8000000 in
theorem pins_fn (a b : Nat) (hab : a + 12 < b) (hb : b ≤ n) (hn : n ≤ 2305843009213693951) (hL : Sep Tryz.prog B w0 w (Dat g cap n d :: F)) (hB : B ≤ w.heap.size) :
    Fn Tryz.prog 173 #[.slice (some ⟨g, 0, none⟩) n cap, .int .i64 (a : Int), .int .i64 (b : Int)] w fun r w' => r = .bool (Sort.partialInsertionSort ltN d a b).2 ∧ Owns B w0 w' (Dat g cap n (Sort.partialInsertionSort ltN d a b).1 :: F) := by
  unfold Sort.partialInsertionSort
  generalize hT : Sort.partialIns ltN a b 5 (a + 1) d = T
  refine Fn.mk Tryz.func173 rfl (by kernel_rfl) Tryz.ntmps173 rfl (by rw [Tryz.results173]) ?_
  repeat (first | (refine RunH ?_; intro w hL hB; try clear w) | (refine Both.mk ?_ ?_ <;> conv => whnf) | fail)
  refine V.loop (α := Nat × Nat × Array Nat) (fun z => [(0, .slice (some ⟨g, 0, none⟩) n cap), (1, .int .i64 (a : Int)), (2, .int .i64 (b : Int)), (7, .int .i64 (z.2.1 : Int)), (8, .int .i64 (5 - (z.1 : Int)))])
    (fun z w' => z.1 ≤ 5 ∧ a + 1 ≤ z.2.1 ∧ z.2.1 ≤ b ∧ Sort.partialIns ltN a b z.1 z.2.1 z.2.2 = T ∧ Sep Tryz.prog B w0 w' (Dat g cap n z.2.2 :: F) ∧ B ≤ w'.heap.size) (fun z => z.1) (5, a + 1, d) ⟨rfl, rfl, rfl, vint (by push_cast; omega), vint (by dsimp only; omega), trivial⟩ ⟨Nat.le_refl _, Nat.le_refl _, by dsimp only; omega, hT, hL, hB⟩ ?_
  clear hL hB hT
  rintro ⟨s, i, x⟩ w ⟨hs, hi, hib, he, hL, hB⟩
  dsimp only at hs hi hib he hL ⊢
  cases s with
  | zero =>
    rw [Sort.partialIns] at he
    subst he
    repeat (first | (refine RunH ?_; intro w hL hB; try clear w) | (refine Both.mk ?_ ?_ <;> conv => whnf) | fail)
    exact ⟨rfl, hL, hB⟩
  | succ s =>
  rw [Sort.partialIns] at he
  dsimp only at he
  repeat (first | (refine RunH ?_; intro w hL hB; try clear w) | (refine Both.mk ?_ ?_ <;> conv => whnf) | fail)
  refine V.loop (α := Nat) (fun k => [(0, .slice (some ⟨g, 0, none⟩) n cap), (1, .int .i64 (a : Int)), (2, .int .i64 (b : Int)), (7, .int .i64 (k : Int)), (8, .int .i64 (5 - ((s + 1 : Nat) : Int)))])
    (fun k w' => i ≤ k ∧ k ≤ b ∧ Sort.scanSorted ltN x b k = Sort.scanSorted ltN x b i ∧ Sep Tryz.prog B w0 w' (Dat g cap n x :: F) ∧ B ≤ w'.heap.size) (fun k => b - k) i ⟨rfl, rfl, rfl, rfl, rfl, trivial⟩ ⟨Nat.le_refl _, hib, rfl, hL, hB⟩ ?_
  clear hL hB
  rintro k w ⟨hik, hkb, hk, hL, hB⟩
  rw [Sort.scanSorted] at hk
  by_cases hlt : k < b
  case neg =>
    rw [if_neg (by simp; omega)] at hk
    rw [← hk, if_pos (by omega)] at he
    subst he
    repeat (first | (refine RunK ?_; intro w hL hB; try clear w) | (refine V.treeA ttOk hL (.q 0 (.q 1 (.q 2 (.q 3 (.q 4 (.q 5 (.q 6 (.q 7 (.q 8 (.q 9 (.q 10 (.q 11 (.q 12 (.alt 13 (.q 14 (.q 15 .nil)) .stop)))))))))))))) mixed (by decide +kernel) ?_; replace hL := hL.drew; conv => whnf) | (refine V.tailA ttOk mixed (by decide +kernel) ?_; replace hL := hL.drew; conv => whnf) | (refine Both.mk ?_ ?_ <;> conv => whnf) | fail)
    exact ⟨rfl, hL, hB⟩
  repeat (first | (refine RunK ?_; intro w hL hB; try clear w) | (refine V.treeA ttOk hL (.q 0 (.q 1 (.q 2 (.q 3 (.q 4 (.q 5 (.q 6 (.q 7 (.q 8 (.q 9 (.q 10 (.q 11 (.q 12 (.alt 13 (.q 14 (.q 15 .nil)) .stop)))))))))))))) mixed (by decide +kernel) ?_; replace hL := hL.drew; conv => whnf) | (refine V.tailA ttOk mixed (by decide +kernel) ?_; replace hL := hL.drew; conv => whnf) | (refine Both.mk ?_ ?_ <;> conv => whnf) | (intro o9 ho9; first | (refine (fun (hq : k = o9) => ?_) (by omega); subst hq) | (refine (fun (hq : k - 1 = o9) => ?_) (by omega); subst hq) | fail; conv => whnf) | (refine Ld.dat hL 0 _ rfl (by omega) ?_; conv => whnf) | (refine St.dat hL hB 0 _ rfl (by omega) (fun w hL hB => ?_); dsimp only [List.set] at hL; conv => whnf) | (refine Lq.dat hL.cls 0 _ rfl (by omega) ?_; conv => whnf) | (refine Lq.dat (fun _ h => h) 0 _ rfl (by omega) ?_; conv => whnf) | (refine (lessQ_fn _ _ _).mono fun r w1 hr => ?_; obtain ⟨hr, hw⟩ := hr; subst hr; subst hw; conv => whnf) | fail)
  by_cases hc : ltN x[k]! x[k - 1]! = true
  case neg =>
    obtain hc : ltN x[k]! x[k - 1]! = false := by simpa using hc
    rw [hc] at hk ⊢
    rw [if_pos (by simp; omega)] at hk
    repeat (first | (refine RunH ?_; intro w hL hB; try clear w) | (refine Both.mk ?_ ?_ <;> conv => whnf) | fail)
    exact ⟨k + 1, ⟨rfl, rfl, rfl, vint (by push_cast; omega), rfl, trivial⟩, ⟨by omega, by omega, hk, hL, hB⟩, (by first | omega | (dsimp only; omega))⟩
  rw [hc] at hk ⊢
  rw [if_neg (by simp)] at hk
  rw [← hk, if_neg (by omega)] at he
  clear hk
  by_cases h50 : b - a < 50
  · rw [if_pos h50] at he
    subst he
    repeat (first | (refine RunH ?_; intro w hL hB; try clear w) | (refine Both.mk ?_ ?_ <;> conv => whnf) | fail)
    exact ⟨rfl, hL, hB⟩
  rw [if_neg h50] at he
  repeat (first | (refine RunK ?_; intro w hL hB; try clear w) | (refine V.treeP ttOk hL 0 (.q 0 (.q 1 (.q 2 (.q 3 (.q 4 (.q 5 (.q 6 (.q 7 (.q 8 (.q 10 (.q 11 (.q 12 (.alt 9 (.alt 13 (.q 14 (.alt 15 (.q 16 (.alt 17 .nil .stop)) .stop)) .stop) (.alt 13 (.alt 9 (.q 14 (.alt 15 (.q 16 (.alt 17 .nil .stop)) .stop)) .stop) .stop)))))))))))))) mixed (by decide +kernel) ?_; replace hL := hL.drew; conv => whnf) | (refine V.tailA ttOk mixed (by decide +kernel) ?_; replace hL := hL.drew; conv => whnf) | (refine Both.mk ?_ ?_ <;> conv => whnf) | (intro o9 ho9; first | (refine (fun (hq : k = o9) => ?_) (by omega); subst hq) | (refine (fun (hq : k - 1 = o9) => ?_) (by omega); subst hq) | fail; conv => whnf) | (refine Ld.dat hL 0 _ rfl (by omega) ?_; conv => whnf) | (refine St.dat hL hB 0 _ rfl (by omega) (fun w hL hB => ?_); dsimp only [List.set] at hL; conv => whnf) | (refine Lq.dat hL.cls 0 _ rfl (by omega) ?_; conv => whnf) | (refine Lq.dat (fun _ h => h) 0 _ rfl (by omega) ?_; conv => whnf) | (refine (lessQ_fn _ _ _).mono fun r w1 hr => ?_; obtain ⟨hr, hw⟩ := hr; subst hr; subst hw; conv => whnf) | fail)
  all_goals
    repeat (first | (refine RunH ?_; intro w hL hB; try clear w) | (refine Both.mk ?_ ?_ <;> conv => whnf) | (intro o9 ho9; first | (refine (fun (hq : k = o9) => ?_) (by omega); subst hq) | (refine (fun (hq : k - 1 = o9) => ?_) (by omega); subst hq) | fail; conv => whnf) | (refine Ld.dat hL 0 _ rfl (by omega) ?_; conv => whnf) | (refine St.dat hL hB 0 _ rfl (by omega) (fun w hL hB => ?_); dsimp only [List.set] at hL; conv => whnf) | (refine Lq.dat hL.cls 0 _ rfl (by omega) ?_; conv => whnf) | (refine Lq.dat (fun _ h => h) 0 _ rfl (by omega) ?_; conv => whnf) | (refine (lessQ_fn _ _ _).mono fun r w1 hr => ?_; obtain ⟨hr, hw⟩ := hr; subst hr; subst hw; conv => whnf) | fail)
    replace hL : Sep Tryz.prog B w0 w (Dat g cap n (Sort.swp x k (k - 1)) :: F) := hL
    generalize Sort.swp x k (k - 1) = x1 at *
    by_cases h2 : k - a ≥ 2
    case' neg =>
      rw [if_neg h2] at he
      obtain ⟨y, hy⟩ : ∃ y, y = x1 := ⟨_, rfl⟩
      subst hy
      repeat (first | (refine RunH ?_; intro w hL hB; try clear w) | (refine Both.mk ?_ ?_ <;> conv => whnf) | fail)
    case' pos =>
      rw [if_pos h2] at he
      repeat (first | (refine RunH ?_; intro w hL hB; try clear w) | (refine Both.mk ?_ ?_ <;> conv => whnf) | fail)
      refine V.loop (α := Nat × Array Nat) (fun z => [(0, .slice (some ⟨g, 0, none⟩) n cap), (1, .int .i64 (a : Int)), (2, .int .i64 (b : Int)), (7, .int .i64 (k : Int)), (8, .int .i64 (5 - ((s + 1 : Nat) : Int))), (9, .int .i64 (z.1 : Int))])
        (fun z w' => z.1 < n ∧ Sort.shiftDown ltN z.1 z.2 = Sort.shiftDown ltN (k - 1) x1 ∧ Sep Tryz.prog B w0 w' (Dat g cap n z.2 :: F) ∧ B ≤ w'.heap.size) (fun z => z.1) (k - 1, x1) ⟨rfl, rfl, rfl, rfl, rfl, vint (by dsimp only; omega), trivial⟩ ⟨by dsimp only; omega, rfl, hL, hB⟩ ?_
      clear hL hB
      rintro ⟨j, y⟩ w ⟨hj, hy, hL, hB⟩
      dsimp only at hj hy hL ⊢
      cases j
      case' zero =>
        rw [Sort.shiftDown] at hy
        rw [← hy] at he
        clear hy
        repeat (first | (refine RunH ?_; intro w hL hB; try clear w) | (refine Both.mk ?_ ?_ <;> conv => whnf) | fail)
      case' succ j =>
        rw [Sort.shiftDown] at hy
        repeat (first | (refine RunK ?_; intro w hL hB; try clear w) | (refine V.treeA ttOk hL (.q 0 (.q 1 (.q 2 (.q 3 (.q 4 (.q 5 (.q 6 (.q 7 (.q 8 (.alt 9 (.q 10 .nil) .stop)))))))))) mixed (by decide +kernel) ?_; replace hL := hL.drew; conv => whnf) | (refine V.tailA ttOk mixed (by decide +kernel) ?_; replace hL := hL.drew; conv => whnf) | (refine Both.mk ?_ ?_ <;> conv => whnf) | (intro o9 ho9; first | (refine (fun (hq : j + 1 = o9) => ?_) (by omega); subst hq) | (refine (fun (hq : j = o9) => ?_) (by omega); subst hq) | fail; conv => whnf) | (refine Ld.dat hL 0 _ rfl (by omega) ?_; conv => whnf) | (refine St.dat hL hB 0 _ rfl (by omega) (fun w hL hB => ?_); dsimp only [List.set] at hL; conv => whnf) | (refine Lq.dat hL.cls 0 _ rfl (by omega) ?_; conv => whnf) | (refine Lq.dat (fun _ h => h) 0 _ rfl (by omega) ?_; conv => whnf) | (refine (lessQ_fn _ _ _).mono fun r w1 hr => ?_; obtain ⟨hr, hw⟩ := hr; subst hr; subst hw; conv => whnf) | fail)
        by_cases hq : ltN y[j + 1]! y[j]! = true
        case pos =>
          rw [hq] at hy ⊢
          rw [if_neg (by simp)] at hy
          repeat (first | (refine RunK ?_; intro w hL hB; try clear w) | (refine V.treeP ttOk hL 0 (.q 0 (.q 1 (.q 2 (.q 3 (.q 4 (.q 5 (.q 6 (.q 7 (.q 8 (.q 10 (.q 11 (.q 12 (.alt 9 (.alt 13 (.q 14 (.alt 15 (.q 16 (.alt 17 .nil .stop)) .stop)) .stop) (.alt 13 (.alt 9 (.q 14 (.alt 15 (.q 16 (.alt 17 .nil .stop)) .stop)) .stop) .stop)))))))))))))) mixed (by decide +kernel) ?_; replace hL := hL.drew; conv => whnf) | (refine V.tailA ttOk mixed (by decide +kernel) ?_; replace hL := hL.drew; conv => whnf) | (refine Both.mk ?_ ?_ <;> conv => whnf) | (intro o9 ho9; first | (refine (fun (hq : j + 1 = o9) => ?_) (by omega); subst hq) | (refine (fun (hq : j = o9) => ?_) (by omega); subst hq) | fail; conv => whnf) | (refine Ld.dat hL 0 _ rfl (by omega) ?_; conv => whnf) | (refine St.dat hL hB 0 _ rfl (by omega) (fun w hL hB => ?_); dsimp only [List.set] at hL; conv => whnf) | (refine Lq.dat hL.cls 0 _ rfl (by omega) ?_; conv => whnf) | (refine Lq.dat (fun _ h => h) 0 _ rfl (by omega) ?_; conv => whnf) | (refine (lessQ_fn _ _ _).mono fun r w1 hr => ?_; obtain ⟨hr, hw⟩ := hr; subst hr; subst hw; conv => whnf) | fail)
          all_goals
            repeat (first | (refine RunH ?_; intro w hL hB; try clear w) | (refine Both.mk ?_ ?_ <;> conv => whnf) | (intro o9 ho9; first | (refine (fun (hq : j + 1 = o9) => ?_) (by omega); subst hq) | (refine (fun (hq : j = o9) => ?_) (by omega); subst hq) | fail; conv => whnf) | (refine Ld.dat hL 0 _ rfl (by omega) ?_; conv => whnf) | (refine St.dat hL hB 0 _ rfl (by omega) (fun w hL hB => ?_); dsimp only [List.set] at hL; conv => whnf) | (refine Lq.dat hL.cls 0 _ rfl (by omega) ?_; conv => whnf) | (refine Lq.dat (fun _ h => h) 0 _ rfl (by omega) ?_; conv => whnf) | (refine (lessQ_fn _ _ _).mono fun r w1 hr => ?_; obtain ⟨hr, hw⟩ := hr; subst hr; subst hw; conv => whnf) | fail)
            exact ⟨(j, Sort.swp y (j + 1) j), ⟨rfl, rfl, rfl, rfl, rfl, vint (by push_cast; omega), trivial⟩, ⟨by dsimp only; omega, hy, hL, hB⟩, (by first | omega | (dsimp only; omega))⟩
        obtain hq : ltN y[j + 1]! y[j]! = false := by simpa using hq
        rw [hq] at hy ⊢
        rw [if_pos (by simp)] at hy
        rw [← hy] at he
        clear hy
        repeat (first | (refine RunH ?_; intro w hL hB; try clear w) | (refine Both.mk ?_ ?_ <;> conv => whnf) | fail)
  all_goals
    by_cases hb2 : b - k ≥ 2
    case neg =>
      rw [if_neg hb2] at he
      first
      | (exfalso; omega)
      | (repeat (first | (refine RunH ?_; intro w hL hB; try clear w) | (refine Both.mk ?_ ?_ <;> conv => whnf) | fail)
         exact ⟨(s, k, y), ⟨rfl, rfl, rfl, rfl, vint (by dsimp only; push_cast; omega), trivial⟩, ⟨by dsimp only; omega, by dsimp only; omega, by dsimp only; omega, he, hL, hB⟩, (by first | omega | (dsimp only; omega))⟩)
    rw [if_pos hb2] at he
    repeat (first | (refine RunH ?_; intro w hL hB; try clear w) | (refine Both.mk ?_ ?_ <;> conv => whnf) | fail)
    refine V.loop (α := Nat × Array Nat) (fun z => [(0, .slice (some ⟨g, 0, none⟩) n cap), (1, .int .i64 (a : Int)), (2, .int .i64 (b : Int)), (7, .int .i64 (k : Int)), (8, .int .i64 (5 - ((s + 1 : Nat) : Int))), (10, .int .i64 (z.1 : Int))])
      (fun z w' => k + 1 ≤ z.1 ∧ z.1 ≤ b ∧ Sort.shiftUp ltN b z.1 z.2 = Sort.shiftUp ltN b (k + 1) y ∧ Sep Tryz.prog B w0 w' (Dat g cap n z.2 :: F) ∧ B ≤ w'.heap.size) (fun z => b - z.1) (k + 1, y) ⟨rfl, rfl, rfl, rfl, rfl, vint (by push_cast; omega), trivial⟩ ⟨Nat.le_refl _, by dsimp only; omega, rfl, hL, hB⟩ ?_
    clear hL hB
    rintro ⟨m, u⟩ w ⟨hm, hmb, hu, hL, hB⟩
    dsimp only at hm hmb hu hL ⊢
    rw [Sort.shiftUp] at hu
    by_cases hml : m < b
    case neg =>
      rw [if_neg hml] at hu
      rw [← hu] at he
      repeat (first | (refine RunH ?_; intro w hL hB; try clear w) | (refine Both.mk ?_ ?_ <;> conv => whnf) | fail)
      exact ⟨(s, k, u), ⟨rfl, rfl, rfl, rfl, vint (by dsimp only; push_cast; omega), trivial⟩, ⟨by dsimp only; omega, by dsimp only; omega, by dsimp only; omega, he, hL, hB⟩, (by first | omega | (dsimp only; omega))⟩
    rw [if_pos hml] at hu
    repeat (first | (refine RunK ?_; intro w hL hB; try clear w) | (refine V.treeA ttOk hL (.q 0 (.q 1 (.q 2 (.q 3 (.q 4 (.q 5 (.q 6 (.q 7 (.q 8 (.alt 9 (.q 10 .nil) .stop)))))))))) mixed (by decide +kernel) ?_; replace hL := hL.drew; conv => whnf) | (refine V.tailA ttOk mixed (by decide +kernel) ?_; replace hL := hL.drew; conv => whnf) | (refine Both.mk ?_ ?_ <;> conv => whnf) | (intro o9 ho9; first | (refine (fun (hq : m = o9) => ?_) (by omega); subst hq) | (refine (fun (hq : m - 1 = o9) => ?_) (by omega); subst hq) | fail; conv => whnf) | (refine Ld.dat hL 0 _ rfl (by omega) ?_; conv => whnf) | (refine St.dat hL hB 0 _ rfl (by omega) (fun w hL hB => ?_); dsimp only [List.set] at hL; conv => whnf) | (refine Lq.dat hL.cls 0 _ rfl (by omega) ?_; conv => whnf) | (refine Lq.dat (fun _ h => h) 0 _ rfl (by omega) ?_; conv => whnf) | (refine (lessQ_fn _ _ _).mono fun r w1 hr => ?_; obtain ⟨hr, hw⟩ := hr; subst hr; subst hw; conv => whnf) | fail)
    by_cases hq : ltN u[m]! u[m - 1]! = true
    case pos =>
      rw [hq] at hu ⊢
      rw [if_neg (by simp)] at hu
      repeat (first | (refine RunK ?_; intro w hL hB; try clear w) | (refine V.treeP ttOk hL 0 (.q 0 (.q 1 (.q 2 (.q 3 (.q 4 (.q 5 (.q 6 (.q 7 (.q 8 (.q 10 (.q 11 (.q 12 (.alt 9 (.alt 13 (.q 14 (.alt 15 (.q 16 (.alt 17 .nil .stop)) .stop)) .stop) (.alt 13 (.alt 9 (.q 14 (.alt 15 (.q 16 (.alt 17 .nil .stop)) .stop)) .stop) .stop)))))))))))))) mixed (by decide +kernel) ?_; replace hL := hL.drew; conv => whnf) | (refine V.tailA ttOk mixed (by decide +kernel) ?_; replace hL := hL.drew; conv => whnf) | (refine Both.mk ?_ ?_ <;> conv => whnf) | (intro o9 ho9; first | (refine (fun (hq : m = o9) => ?_) (by omega); subst hq) | (refine (fun (hq : m - 1 = o9) => ?_) (by omega); subst hq) | fail; conv => whnf) | (refine Ld.dat hL 0 _ rfl (by omega) ?_; conv => whnf) | (refine St.dat hL hB 0 _ rfl (by omega) (fun w hL hB => ?_); dsimp only [List.set] at hL; conv => whnf) | (refine Lq.dat hL.cls 0 _ rfl (by omega) ?_; conv => whnf) | (refine Lq.dat (fun _ h => h) 0 _ rfl (by omega) ?_; conv => whnf) | (refine (lessQ_fn _ _ _).mono fun r w1 hr => ?_; obtain ⟨hr, hw⟩ := hr; subst hr; subst hw; conv => whnf) | fail)
      all_goals
        repeat (first | (refine RunH ?_; intro w hL hB; try clear w) | (refine Both.mk ?_ ?_ <;> conv => whnf) | (intro o9 ho9; first | (refine (fun (hq : m = o9) => ?_) (by omega); subst hq) | (refine (fun (hq : m - 1 = o9) => ?_) (by omega); subst hq) | fail; conv => whnf) | (refine Ld.dat hL 0 _ rfl (by omega) ?_; conv => whnf) | (refine St.dat hL hB 0 _ rfl (by omega) (fun w hL hB => ?_); dsimp only [List.set] at hL; conv => whnf) | (refine Lq.dat hL.cls 0 _ rfl (by omega) ?_; conv => whnf) | (refine Lq.dat (fun _ h => h) 0 _ rfl (by omega) ?_; conv => whnf) | (refine (lessQ_fn _ _ _).mono fun r w1 hr => ?_; obtain ⟨hr, hw⟩ := hr; subst hr; subst hw; conv => whnf) | fail)
        exact ⟨(m + 1, Sort.swp u m (m - 1)), ⟨rfl, rfl, rfl, rfl, rfl, vint (by push_cast; omega), trivial⟩, ⟨by dsimp only; omega, by dsimp only; omega, hu, hL, hB⟩, (by first | omega | (dsimp only; omega))⟩
    obtain hq : ltN u[m]! u[m - 1]! = false := by simpa using hq
    rw [hq] at hu ⊢
    rw [if_pos (by simp)] at hu
    rw [← hu] at he
    repeat (first | (refine RunH ?_; intro w hL hB; try clear w) | (refine Both.mk ?_ ?_ <;> conv => whnf) | fail)
    exact ⟨(s, k, u), ⟨rfl, rfl, rfl, rfl, vint (by dsimp only; push_cast; omega), trivial⟩, ⟨by dsimp only; omega, by dsimp only; omega, by dsimp only; omega, he, hL, hB⟩, (by first | omega | (dsimp only; omega))⟩
end
end Go.Proofs.YtladfadcgfdbfaaGreatDoor
namespace Go.Proofs.YtladfadcgfdbfaaGreatDoor
open Go.RowKit
set_option linter.unusedVariables false
set_option linter.unusedSimpArgs false
set_option maxRecDepth 100000
section
variable {B g cap n : Nat} {d : Array Nat} {w0 w : World} {F : List Res}
set_option maxHeartbeats 8000000 in
theorem parteq_fn (a b p : Nat) (hab : a + 1 < b) (hb : b ≤ n) (hp : p < n) (hn : n ≤ 2305843009213693951) (hL : Sep Tryz.prog B w0 w (Dat g cap n d :: F)) (hB : B ≤ w.heap.size) :
    Fn Tryz.prog 175 #[.slice (some ⟨g, 0, none⟩) n cap, .int .i64 (a : Int), .int .i64 (b : Int), .int .i64 (p : Int)] w fun r w' => r = .int .i64 ((Sort.partitionEqual ltN d a b p).1 : Int) ∧ Owns B w0 w' (Dat g cap n (Sort.partitionEqual ltN d a b p).2 :: F) := by
  generalize hT : Sort.partitionEqual ltN d a b p = T
  unfold Sort.partitionEqual at hT
  refine Fn.mk Tryz.func175 rfl (by kernel_rfl) Tryz.ntmps175 rfl (by rw [Tryz.results175]) ?_
  repeat (first | (refine RunK ?_; intro w hL hB; try clear w) | (refine V.treeP ttOk hL 0 (.q 0 (.q 1 (.q 2 (.q 3 (.q 4 (.q 5 (.q 6 (.q 8 (.q 9 (.q 10 (.alt 7 (.alt 11 (.q 12 (.alt 13 (.q 14 (.alt 15 .nil .stop)) .stop)) .stop) (.alt 11 (.alt 7 (.q 12 (.alt 13 (.q 14 (.alt 15 .nil .stop)) .stop)) .stop) .stop)))))))))))) mixed (by decide +kernel) ?_; replace hL := hL.drew; conv => whnf) | (refine V.tailA ttOk mixed (by decide +kernel) ?_; replace hL := hL.drew; conv => whnf) | (refine Both.mk ?_ ?_ <;> conv => whnf) | (intro o9 ho9; first | (refine (fun (hq : a = o9) => ?_) (by omega); subst hq) | (refine (fun (hq : p = o9) => ?_) (by omega); subst hq) | fail; conv => whnf) | (refine Ld.dat hL 0 _ rfl (by omega) ?_; conv => whnf) | (refine St.dat hL hB 0 _ rfl (by omega) (fun w hL hB => ?_); dsimp only [List.set] at hL; conv => whnf) | (refine Lq.dat hL.cls 0 _ rfl (by omega) ?_; conv => whnf) | (refine Lq.dat (fun _ h => h) 0 _ rfl (by omega) ?_; conv => whnf) | (refine (lessQ_fn _ _ _).mono fun r w1 hr => ?_; obtain ⟨hr, hw⟩ := hr; subst hr; subst hw; conv => whnf) | fail)
  all_goals
    repeat (first | (refine RunH ?_; intro w hL hB; try clear w) | (refine Both.mk ?_ ?_ <;> conv => whnf) | (intro o9 ho9; first | (refine (fun (hq : a = o9) => ?_) (by omega); subst hq) | (refine (fun (hq : p = o9) => ?_) (by omega); subst hq) | fail; conv => whnf) | (refine Ld.dat hL 0 _ rfl (by omega) ?_; conv => whnf) | (refine St.dat hL hB 0 _ rfl (by omega) (fun w hL hB => ?_); dsimp only [List.set] at hL; conv => whnf) | (refine Lq.dat hL.cls 0 _ rfl (by omega) ?_; conv => whnf) | (refine Lq.dat (fun _ h => h) 0 _ rfl (by omega) ?_; conv => whnf) | (refine (lessQ_fn _ _ _).mono fun r w1 hr => ?_; obtain ⟨hr, hw⟩ := hr; subst hr; subst hw; conv => whnf) | fail)
    replace hL : Sep Tryz.prog B w0 w (Dat g cap n (Sort.swp d a p) :: F) := hL
    generalize Sort.swp d a p = x0 at *
    refine V.loop (α := Nat × Nat × Array Nat) (fun z => [(0, .slice (some ⟨g, 0, none⟩) n cap), (1, .int .i64 (a : Int)), (9, .int .i64 (z.1 : Int)), (10, .int .i64 (z.2.1 : Int))])
      (fun z w' => a + 1 ≤ z.1 ∧ z.1 ≤ b ∧ z.2.1 < b ∧ z.1 ≤ z.2.1 + 2 ∧ Sort.partEqLoop ltN a z.1 z.2.1 z.2.2 = T ∧ Sep Tryz.prog B w0 w' (Dat g cap n z.2.2 :: F) ∧ B ≤ w'.heap.size) (fun z => z.2.1 + 1 - z.1) (a + 1, b - 1, x0) ⟨rfl, rfl, vint (by push_cast; omega), vint (by dsimp only; omega), trivial⟩ ⟨Nat.le_refl _, by dsimp only; omega, by dsimp only; omega, by dsimp only; omega, hT, hL, hB⟩ ?_
    clear hL hB hT
    rintro ⟨i, j, x⟩ w ⟨hi, hib, hj, hij, he, hL, hB⟩
    dsimp only at hi hib hj hij he hL ⊢
    rw [Sort.partEqLoop] at he
    try dsimp only at he
    repeat (first | (refine RunH ?_; intro w hL hB; try clear w) | (refine Both.mk ?_ ?_ <;> conv => whnf) | fail)
    refine V.loop (α := Nat) (fun k => [(0, .slice (some ⟨g, 0, none⟩) n cap), (1, .int .i64 (a : Int)), (9, .int .i64 (k : Int)), (10, .int .i64 (j : Int))])
      (fun k w' => i ≤ k ∧ k ≤ j + 2 ∧ Sort.scanUp (fun z => !ltN x[a]! z) x j k = Sort.scanUp (fun z => !ltN x[a]! z) x j i ∧ Sep Tryz.prog B w0 w' (Dat g cap n x :: F) ∧ B ≤ w'.heap.size) (fun k => j + 1 - k) i ⟨rfl, rfl, rfl, rfl, trivial⟩ ⟨Nat.le_refl _, hij, rfl, hL, hB⟩ ?_
    clear hL hB
    rintro k w ⟨hik, hkj, hk, hL, hB⟩
    rw [Sort.scanUp] at hk
    try dsimp only at hk
    by_cases hle : k ≤ j
    case' neg =>
      rw [if_neg (by simp; omega)] at hk
      rw [← hk] at he
      repeat (first | (refine RunK ?_; intro w hL hB; try clear w) | (refine V.treeA ttOk hL (.q 0 (.q 1 (.q 2 (.q 3 (.q 4 (.q 5 (.q 6 (.q 7 (.q 8 (.q 9 (.q 10 (.q 11 (.alt 12 (.q 13 (.q 14 .nil)) .stop))))))))))))) mixed (by decide +kernel) ?_; replace hL := hL.drew; conv => whnf) | (refine V.tailA ttOk mixed (by decide +kernel) ?_; replace hL := hL.drew; conv => whnf) | (refine Both.mk ?_ ?_ <;> conv => whnf) | fail)
    case' pos =>
      repeat (first | (refine RunK ?_; intro w hL hB; try clear w) | (refine V.treeA ttOk hL (.q 0 (.q 1 (.q 2 (.q 3 (.q 4 (.q 5 (.q 6 (.q 7 (.q 8 (.q 9 (.q 10 (.q 11 (.alt 12 (.q 13 (.q 14 .nil)) .stop))))))))))))) mixed (by decide +kernel) ?_; replace hL := hL.drew; conv => whnf) | (refine V.tailA ttOk mixed (by decide +kernel) ?_; replace hL := hL.drew; conv => whnf) | (refine Both.mk ?_ ?_ <;> conv => whnf) | (intro o9 ho9; first | (refine (fun (hq : a = o9) => ?_) (by omega); subst hq) | (refine (fun (hq : k = o9) => ?_) (by omega); subst hq) | fail; conv => whnf) | (refine Ld.dat hL 0 _ rfl (by omega) ?_; conv => whnf) | (refine St.dat hL hB 0 _ rfl (by omega) (fun w hL hB => ?_); dsimp only [List.set] at hL; conv => whnf) | (refine Lq.dat hL.cls 0 _ rfl (by omega) ?_; conv => whnf) | (refine Lq.dat (fun _ h => h) 0 _ rfl (by omega) ?_; conv => whnf) | (refine (lessQ_fn _ _ _).mono fun r w1 hr => ?_; obtain ⟨hr, hw⟩ := hr; subst hr; subst hw; conv => whnf) | fail)
      by_cases hc : ltN x[a]! x[k]! = true
      case neg =>
        obtain hc : ltN x[a]! x[k]! = false := by simpa using hc
        rw [hc] at hk ⊢
        rw [if_pos (by simp; omega)] at hk
        repeat (first | (refine RunH ?_; intro w hL hB; try clear w) | (refine Both.mk ?_ ?_ <;> conv => whnf) | fail)
        exact ⟨k + 1, ⟨rfl, rfl, vint (by push_cast; omega), rfl, trivial⟩, ⟨by omega, by omega, hk, hL, hB⟩, (by first | omega | (dsimp only; omega))⟩
      rw [hc] at hk ⊢
      rw [if_neg (by simp)] at hk
      rw [← hk] at he
      repeat (first | (refine RunH ?_; intro w hL hB; try clear w) | (refine Both.mk ?_ ?_ <;> conv => whnf) | fail)
  all_goals
    clear hk hle
    refine V.loop (α := Nat) (fun m => [(0, .slice (some ⟨g, 0, none⟩) n cap), (1, .int .i64 (a : Int)), (9, .int .i64 (k : Int)), (10, .int .i64 (m : Int))])
      (fun m w' => m ≤ j ∧ k ≤ m + 2 ∧ Sort.scanDown (fun z => ltN x[a]! z) x k m = Sort.scanDown (fun z => ltN x[a]! z) x k j ∧ Sep Tryz.prog B w0 w' (Dat g cap n x :: F) ∧ B ≤ w'.heap.size) (fun m => m) j ⟨rfl, rfl, rfl, rfl, trivial⟩ ⟨Nat.le_refl _, hkj, rfl, hL, hB⟩ ?_
    clear hL hB
    rintro m w ⟨hmj, hkm, hm, hL, hB⟩
    by_cases hkm2 : k ≤ m
    case neg =>
      have hm' : Sort.scanDown (fun z => ltN x[a]! z) x k m = m := by
        cases m with
        | zero => rfl
        | succ m => rw [Sort.scanDown, if_neg (by simp; omega)]
      rw [hm'] at hm
      rw [← hm, if_pos (by omega)] at he
      subst he
      repeat (first | (refine RunK ?_; intro w hL hB; try clear w) | (refine V.treeA ttOk hL (.q 0 (.q 1 (.q 2 (.q 3 (.q 4 (.q 5 (.q 6 (.q 7 (.q 8 (.q 9 (.q 10 (.q 11 (.alt 12 (.q 13 .nil) .stop))))))))))))) mixed (by decide +kernel) ?_; replace hL := hL.drew; conv => whnf) | (refine V.tailA ttOk mixed (by decide +kernel) ?_; replace hL := hL.drew; conv => whnf) | (refine Both.mk ?_ ?_ <;> conv => whnf) | fail)
      exact ⟨rfl, hL, hB⟩
    rcases Nat.lt_or_ge j k with hcon | hcon
    · exfalso; omega
    obtain ⟨m, rfl⟩ : ∃ q, m = q + 1 := ⟨m - 1, by omega⟩
    rw [Sort.scanDown] at hm
    try dsimp only at hm
    repeat (first | (refine RunK ?_; intro w hL hB; try clear w) | (refine V.treeA ttOk hL (.q 0 (.q 1 (.q 2 (.q 3 (.q 4 (.q 5 (.q 6 (.q 7 (.q 8 (.q 9 (.q 10 (.q 11 (.alt 12 (.q 13 .nil) .stop))))))))))))) mixed (by decide +kernel) ?_; replace hL := hL.drew; conv => whnf) | (refine V.tailA ttOk mixed (by decide +kernel) ?_; replace hL := hL.drew; conv => whnf) | (refine Both.mk ?_ ?_ <;> conv => whnf) | (intro o9 ho9; first | (refine (fun (hq : a = o9) => ?_) (by omega); subst hq) | (refine (fun (hq : m + 1 = o9) => ?_) (by omega); subst hq) | fail; conv => whnf) | (refine Ld.dat hL 0 _ rfl (by omega) ?_; conv => whnf) | (refine St.dat hL hB 0 _ rfl (by omega) (fun w hL hB => ?_); dsimp only [List.set] at hL; conv => whnf) | (refine Lq.dat hL.cls 0 _ rfl (by omega) ?_; conv => whnf) | (refine Lq.dat (fun _ h => h) 0 _ rfl (by omega) ?_; conv => whnf) | (refine (lessQ_fn _ _ _).mono fun r w1 hr => ?_; obtain ⟨hr, hw⟩ := hr; subst hr; subst hw; conv => whnf) | fail)
    by_cases hc : ltN x[a]! x[m + 1]! = true
    case pos =>
      rw [hc] at hm ⊢
      rw [if_pos (by simp; omega)] at hm
      repeat (first | (refine RunH ?_; intro w hL hB; try clear w) | (refine Both.mk ?_ ?_ <;> conv => whnf) | fail)
      exact ⟨m, ⟨rfl, rfl, rfl, vint (by push_cast; omega), trivial⟩, ⟨by omega, by omega, hm, hL, hB⟩, (by first | omega | (dsimp only; omega))⟩
    obtain hc : ltN x[a]! x[m + 1]! = false := by simpa using hc
    rw [hc] at hm ⊢
    rw [if_neg (by simp)] at hm
    rw [← hm, if_neg (by omega), dif_pos (by omega)] at he
    repeat (first | (refine RunK ?_; intro w hL hB; try clear w) | (refine V.treeP ttOk hL 0 (.q 0 (.q 1 (.q 2 (.q 3 (.q 4 (.q 5 (.q 6 (.q 8 (.q 9 (.q 10 (.alt 7 (.alt 11 (.q 12 (.alt 13 (.q 14 (.alt 15 .nil .stop)) .stop)) .stop) (.alt 11 (.alt 7 (.q 12 (.alt 13 (.q 14 (.alt 15 .nil .stop)) .stop)) .stop) .stop)))))))))))) mixed (by decide +kernel) ?_; replace hL := hL.drew; conv => whnf) | (refine V.tailA ttOk mixed (by decide +kernel) ?_; replace hL := hL.drew; conv => whnf) | (refine Both.mk ?_ ?_ <;> conv => whnf) | (intro o9 ho9; first | (refine (fun (hq : k = o9) => ?_) (by omega); subst hq) | (refine (fun (hq : m + 1 = o9) => ?_) (by omega); subst hq) | fail; conv => whnf) | (refine Ld.dat hL 0 _ rfl (by omega) ?_; conv => whnf) | (refine St.dat hL hB 0 _ rfl (by omega) (fun w hL hB => ?_); dsimp only [List.set] at hL; conv => whnf) | (refine Lq.dat hL.cls 0 _ rfl (by omega) ?_; conv => whnf) | (refine Lq.dat (fun _ h => h) 0 _ rfl (by omega) ?_; conv => whnf) | (refine (lessQ_fn _ _ _).mono fun r w1 hr => ?_; obtain ⟨hr, hw⟩ := hr; subst hr; subst hw; conv => whnf) | fail)
    all_goals
      repeat (first | (refine RunH ?_; intro w hL hB; try clear w) | (refine Both.mk ?_ ?_ <;> conv => whnf) | (intro o9 ho9; first | (refine (fun (hq : k = o9) => ?_) (by omega); subst hq) | (refine (fun (hq : m + 1 = o9) => ?_) (by omega); subst hq) | fail; conv => whnf) | (refine Ld.dat hL 0 _ rfl (by omega) ?_; conv => whnf) | (refine St.dat hL hB 0 _ rfl (by omega) (fun w hL hB => ?_); dsimp only [List.set] at hL; conv => whnf) | (refine Lq.dat hL.cls 0 _ rfl (by omega) ?_; conv => whnf) | (refine Lq.dat (fun _ h => h) 0 _ rfl (by omega) ?_; conv => whnf) | (refine (lessQ_fn _ _ _).mono fun r w1 hr => ?_; obtain ⟨hr, hw⟩ := hr; subst hr; subst hw; conv => whnf) | fail)
      exact ⟨(k + 1, m, Sort.swp x k (m + 1)), ⟨rfl, rfl, vint (by push_cast; omega), vint (by push_cast; omega), trivial⟩, ⟨by dsimp only; omega, by dsimp only; omega, by dsimp only; omega, by dsimp only; omega, he, hL, hB⟩, (by first | omega | (dsimp only; omega))⟩
end
end Go.Proofs.YtladfadcgfdbfaaGreatDoor
