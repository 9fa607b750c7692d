/- slices.partitionOrdered at uint64. slices.pdqsortOrdered at uint64. Nothing is claimed here. -/
import Derived.Test.YtladfadcgfdbfaaGreatDoorD04
import Derived.Test.YtladfadcgfdbfaaGreatDoorD09
import Derived.Test.YtladfadcgfdbfaaGreatDoorD10
namespace Go.Proofs.YtladfadcgfdbfaaGreatDoor
open Go.RowKit
set_option linter.unusedVariables false
set_option linter.unusedSimpArgs false
set_option maxRecDepth 100000
section
variable {B g cap n : Nat} {d : Array Nat} {w0 w : World} {F : List Res}
set_option maxHeartbeats 16000000 in
theorem part_fn (a b p : Nat) (hab : a + 1 < b) (hb : b ≤ n) (hp : p < n) (hn : n ≤ 2305843009213693951) (hL : Sep Tryz.prog B w0 w (Dat g cap n d :: F)) (hB : B ≤ w.heap.size) :
    Fn Tryz.prog 176 #[.slice (some ⟨g, 0, none⟩) n cap, .int .i64 (a : Int), .int .i64 (b : Int), .int .i64 (p : Int)] w fun r w' => r = .tuple #[.int .i64 ((Sort.partition ltN d a b p).1 : Int), .bool (Sort.partition ltN d a b p).2.1] ∧ Owns B w0 w' (Dat g cap n (Sort.partition ltN d a b p).2.2 :: F) := by
  generalize hT : Sort.partition ltN d a b p = T
  unfold Sort.partition at hT
  dsimp only at hT
  refine Fn.mk Tryz.func176 rfl (by kernel_rfl) Tryz.ntmps176 rfl (by rw [Tryz.results176]) ?_
  repeat (first | (refine RunK ?_; intro w hL hB; try clear w) | (refine V.treeP ttOk hL 0 (.q 0 (.q 1 (.q 2 (.q 3 (.q 4 (.q 5 (.q 6 (.q 8 (.q 9 (.q 10 (.alt 7 (.alt 11 (.q 12 (.alt 13 (.q 14 (.alt 15 .nil .stop)) .stop)) .stop) (.alt 11 (.alt 7 (.q 12 (.alt 13 (.q 14 (.alt 15 .nil .stop)) .stop)) .stop) .stop)))))))))))) mixed (by decide +kernel) ?_; replace hL := hL.drew; conv => whnf) | (refine V.tailA ttOk mixed (by decide +kernel) ?_; replace hL := hL.drew; conv => whnf) | (refine Both.mk ?_ ?_ <;> conv => whnf) | (intro o9 ho9; first | (refine (fun (hq : a = o9) => ?_) (by omega); subst hq) | (refine (fun (hq : p = o9) => ?_) (by omega); subst hq) | fail; conv => whnf) | (refine Ld.dat hL 0 _ rfl (by omega) ?_; conv => whnf) | (refine St.dat hL hB 0 _ rfl (by omega) (fun w hL hB => ?_); dsimp only [List.set] at hL; conv => whnf) | (refine Lq.dat hL.cls 0 _ rfl (by omega) ?_; conv => whnf) | (refine Lq.dat (fun _ h => h) 0 _ rfl (by omega) ?_; conv => whnf) | (refine (lessQ_fn _ _ _).mono fun r w1 hr => ?_; obtain ⟨hr, hw⟩ := hr; subst hr; subst hw; conv => whnf) | fail)
  all_goals
    repeat (first | (refine RunH ?_; intro w hL hB; try clear w) | (refine Both.mk ?_ ?_ <;> conv => whnf) | (intro o9 ho9; first | (refine (fun (hq : a = o9) => ?_) (by omega); subst hq) | (refine (fun (hq : p = o9) => ?_) (by omega); subst hq) | fail; conv => whnf) | (refine Ld.dat hL 0 _ rfl (by omega) ?_; conv => whnf) | (refine St.dat hL hB 0 _ rfl (by omega) (fun w hL hB => ?_); dsimp only [List.set] at hL; conv => whnf) | (refine Lq.dat hL.cls 0 _ rfl (by omega) ?_; conv => whnf) | (refine Lq.dat (fun _ h => h) 0 _ rfl (by omega) ?_; conv => whnf) | (refine (lessQ_fn _ _ _).mono fun r w1 hr => ?_; obtain ⟨hr, hw⟩ := hr; subst hr; subst hw; conv => whnf) | fail)
    replace hL : Sep Tryz.prog B w0 w (Dat g cap n (Sort.swp d a p) :: F) := hL
    generalize Sort.swp d a p = x at *
    refine V.loop (α := Nat) (fun k => [(0, .slice (some ⟨g, 0, none⟩) n cap), (1, .int .i64 (a : Int)), (10, .int .i64 (k : Int)), (11, .int .i64 ((b - 1 : Nat) : Int))])
      (fun k w' => a + 1 ≤ k ∧ k ≤ b ∧ Sort.scanUp (fun z => ltN z x[a]!) x (b - 1) k = Sort.scanUp (fun z => ltN z x[a]!) x (b - 1) (a + 1) ∧ Sep Tryz.prog B w0 w' (Dat g cap n x :: F) ∧ B ≤ w'.heap.size) (fun k => b - k) (a + 1) ⟨rfl, rfl, vint (by push_cast; omega), vint (by omega), trivial⟩ ⟨Nat.le_refl _, by omega, rfl, hL, hB⟩ ?_
    clear hL hB
    rintro k w ⟨hak, hkb, hk, hL, hB⟩
    rw [Sort.scanUp] at hk
    try dsimp only at hk
    by_cases hle : k ≤ b - 1
    case' neg =>
      rw [if_neg (by simp; omega)] at hk
      rw [← hk] at hT
      repeat (first | (refine RunK ?_; intro w hL hB; try clear w) | (refine V.treeA ttOk hL (.q 0 (.q 1 (.q 2 (.q 3 (.q 4 (.q 5 (.q 6 (.q 7 (.q 8 (.q 9 (.q 10 (.q 11 (.alt 12 (.q 13 .nil) .stop))))))))))))) mixed (by decide +kernel) ?_; replace hL := hL.drew; conv => whnf) | (refine V.tailA ttOk mixed (by decide +kernel) ?_; replace hL := hL.drew; conv => whnf) | (refine Both.mk ?_ ?_ <;> conv => whnf) | fail)
    case' pos =>
      repeat (first | (refine RunK ?_; intro w hL hB; try clear w) | (refine V.treeA ttOk hL (.q 0 (.q 1 (.q 2 (.q 3 (.q 4 (.q 5 (.q 6 (.q 7 (.q 8 (.q 9 (.q 10 (.q 11 (.alt 12 (.q 13 .nil) .stop))))))))))))) mixed (by decide +kernel) ?_; replace hL := hL.drew; conv => whnf) | (refine V.tailA ttOk mixed (by decide +kernel) ?_; replace hL := hL.drew; conv => whnf) | (refine Both.mk ?_ ?_ <;> conv => whnf) | (intro o9 ho9; first | (refine (fun (hq : a = o9) => ?_) (by omega); subst hq) | (refine (fun (hq : k = o9) => ?_) (by omega); subst hq) | fail; conv => whnf) | (refine Ld.dat hL 0 _ rfl (by omega) ?_; conv => whnf) | (refine St.dat hL hB 0 _ rfl (by omega) (fun w hL hB => ?_); dsimp only [List.set] at hL; conv => whnf) | (refine Lq.dat hL.cls 0 _ rfl (by omega) ?_; conv => whnf) | (refine Lq.dat (fun _ h => h) 0 _ rfl (by omega) ?_; conv => whnf) | (refine (lessQ_fn _ _ _).mono fun r w1 hr => ?_; obtain ⟨hr, hw⟩ := hr; subst hr; subst hw; conv => whnf) | fail)
      by_cases hc : ltN x[k]! x[a]! = true
      case pos =>
        rw [hc] at hk ⊢
        rw [if_pos (by simp; omega)] at hk
        repeat (first | (refine RunH ?_; intro w hL hB; try clear w) | (refine Both.mk ?_ ?_ <;> conv => whnf) | fail)
        exact ⟨k + 1, ⟨rfl, rfl, vint (by push_cast; omega), rfl, trivial⟩, ⟨by omega, by omega, hk, hL, hB⟩, (by first | omega | (dsimp only; omega))⟩
      obtain hc : ltN x[k]! x[a]! = false := by simpa using hc
      rw [hc] at hk ⊢
      rw [if_neg (by simp)] at hk
      rw [← hk] at hT
      repeat (first | (refine RunH ?_; intro w hL hB; try clear w) | (refine Both.mk ?_ ?_ <;> conv => whnf) | fail)
  all_goals
    clear hk hle
    refine V.loop (α := Nat) (fun m => [(0, .slice (some ⟨g, 0, none⟩) n cap), (1, .int .i64 (a : Int)), (10, .int .i64 (k : Int)), (11, .int .i64 (m : Int))])
      (fun m w' => m ≤ b - 1 ∧ k ≤ m + 1 ∧ Sort.scanDown (fun z => !ltN z x[a]!) x k m = Sort.scanDown (fun z => !ltN z x[a]!) x k (b - 1) ∧ Sep Tryz.prog B w0 w' (Dat g cap n x :: F) ∧ B ≤ w'.heap.size) (fun m => m) (b - 1) ⟨rfl, rfl, rfl, rfl, trivial⟩ ⟨Nat.le_refl _, by omega, rfl, hL, hB⟩ ?_
    clear hL hB
    rintro m w ⟨hmj, hkm, hm, hL, hB⟩
    by_cases hkm2 : k ≤ m
    case neg =>
      have hm' : Sort.scanDown (fun z => !ltN z x[a]!) x k m = m := by
        cases m with
        | zero => rfl
        | succ m => rw [Sort.scanDown, if_neg (by simp; omega)]
      rw [hm'] at hm
      rw [← hm, if_pos (by omega)] at hT
      subst hT
      repeat (first | (refine RunK ?_; intro w hL hB; try clear w) | (refine V.treeA ttOk hL (.q 0 (.q 1 (.q 2 (.q 3 (.q 4 (.q 5 (.q 6 (.q 7 (.q 8 (.q 9 (.q 10 (.q 11 (.alt 12 (.q 13 (.q 14 .nil)) .stop))))))))))))) mixed (by decide +kernel) ?_; replace hL := hL.drew; conv => whnf) | (refine V.treeP ttOk hL 0 (.q 0 (.q 1 (.q 2 (.q 3 (.q 4 (.q 5 (.q 6 (.q 8 (.q 9 (.q 10 (.alt 7 (.alt 11 (.q 12 (.alt 13 (.q 14 (.alt 15 .nil .stop)) .stop)) .stop) (.alt 11 (.alt 7 (.q 12 (.alt 13 (.q 14 (.alt 15 .nil .stop)) .stop)) .stop) .stop)))))))))))) mixed (by decide +kernel) ?_; replace hL := hL.drew; conv => whnf) | (refine V.tailA ttOk mixed (by decide +kernel) ?_; replace hL := hL.drew; conv => whnf) | (refine Both.mk ?_ ?_ <;> conv => whnf) | (intro o9 ho9; first | (refine (fun (hq : a = o9) => ?_) (by omega); subst hq) | (refine (fun (hq : m = o9) => ?_) (by omega); subst hq) | fail; conv => whnf) | (refine Ld.dat hL 0 _ rfl (by omega) ?_; conv => whnf) | (refine St.dat hL hB 0 _ rfl (by omega) (fun w hL hB => ?_); dsimp only [List.set] at hL; conv => whnf) | (refine Lq.dat hL.cls 0 _ rfl (by omega) ?_; conv => whnf) | (refine Lq.dat (fun _ h => h) 0 _ rfl (by omega) ?_; conv => whnf) | (refine (lessQ_fn _ _ _).mono fun r w1 hr => ?_; obtain ⟨hr, hw⟩ := hr; subst hr; subst hw; conv => whnf) | fail)
      all_goals
        repeat (first | (refine RunH ?_; intro w hL hB; try clear w) | (refine Both.mk ?_ ?_ <;> conv => whnf) | (intro o9 ho9; first | (refine (fun (hq : a = o9) => ?_) (by omega); subst hq) | (refine (fun (hq : m = o9) => ?_) (by omega); subst hq) | fail; conv => whnf) | (refine Ld.dat hL 0 _ rfl (by omega) ?_; conv => whnf) | (refine St.dat hL hB 0 _ rfl (by omega) (fun w hL hB => ?_); dsimp only [List.set] at hL; conv => whnf) | (refine Lq.dat hL.cls 0 _ rfl (by omega) ?_; conv => whnf) | (refine Lq.dat (fun _ h => h) 0 _ rfl (by omega) ?_; conv => whnf) | (refine (lessQ_fn _ _ _).mono fun r w1 hr => ?_; obtain ⟨hr, hw⟩ := hr; subst hr; subst hw; conv => whnf) | fail)
        exact ⟨rfl, hL, hB⟩
    obtain ⟨m, rfl⟩ : ∃ q, m = q + 1 := ⟨m - 1, by omega⟩
    rw [Sort.scanDown] at hm
    try dsimp only at hm
    repeat (first | (refine RunK ?_; intro w hL hB; try clear w) | (refine V.treeA ttOk hL (.q 0 (.q 1 (.q 2 (.q 3 (.q 4 (.q 5 (.q 6 (.q 7 (.q 8 (.q 9 (.q 10 (.q 11 (.alt 12 (.q 13 (.q 14 .nil)) .stop))))))))))))) mixed (by decide +kernel) ?_; replace hL := hL.drew; conv => whnf) | (refine V.tailA ttOk mixed (by decide +kernel) ?_; replace hL := hL.drew; conv => whnf) | (refine Both.mk ?_ ?_ <;> conv => whnf) | (intro o9 ho9; first | (refine (fun (hq : a = o9) => ?_) (by omega); subst hq) | (refine (fun (hq : m + 1 = o9) => ?_) (by omega); subst hq) | fail; conv => whnf) | (refine Ld.dat hL 0 _ rfl (by omega) ?_; conv => whnf) | (refine St.dat hL hB 0 _ rfl (by omega) (fun w hL hB => ?_); dsimp only [List.set] at hL; conv => whnf) | (refine Lq.dat hL.cls 0 _ rfl (by omega) ?_; conv => whnf) | (refine Lq.dat (fun _ h => h) 0 _ rfl (by omega) ?_; conv => whnf) | (refine (lessQ_fn _ _ _).mono fun r w1 hr => ?_; obtain ⟨hr, hw⟩ := hr; subst hr; subst hw; conv => whnf) | fail)
    by_cases hc2 : ltN x[m + 1]! x[a]! = true
    case neg =>
      obtain hc2 : ltN x[m + 1]! x[a]! = false := by simpa using hc2
      rw [hc2] at hm ⊢
      rw [if_pos (by simp; omega)] at hm
      repeat (first | (refine RunH ?_; intro w hL hB; try clear w) | (refine Both.mk ?_ ?_ <;> conv => whnf) | fail)
      exact ⟨m, ⟨rfl, rfl, rfl, vint (by push_cast; omega), trivial⟩, ⟨by omega, by omega, hm, hL, hB⟩, (by first | omega | (dsimp only; omega))⟩
    rw [hc2] at hm ⊢
    rw [if_neg (by simp)] at hm
    rw [← hm, if_neg (by omega)] at hT
    clear hm
    repeat (first | (refine RunK ?_; intro w hL hB; try clear w) | (refine V.treeP ttOk hL 0 (.q 0 (.q 1 (.q 2 (.q 3 (.q 4 (.q 5 (.q 6 (.q 8 (.q 9 (.q 10 (.alt 7 (.alt 11 (.q 12 (.alt 13 (.q 14 (.alt 15 .nil .stop)) .stop)) .stop) (.alt 11 (.alt 7 (.q 12 (.alt 13 (.q 14 (.alt 15 .nil .stop)) .stop)) .stop) .stop)))))))))))) mixed (by decide +kernel) ?_; replace hL := hL.drew; conv => whnf) | (refine V.tailA ttOk mixed (by decide +kernel) ?_; replace hL := hL.drew; conv => whnf) | (refine Both.mk ?_ ?_ <;> conv => whnf) | (intro o9 ho9; first | (refine (fun (hq : k = o9) => ?_) (by omega); subst hq) | (refine (fun (hq : m + 1 = o9) => ?_) (by omega); subst hq) | fail; conv => whnf) | (refine Ld.dat hL 0 _ rfl (by omega) ?_; conv => whnf) | (refine St.dat hL hB 0 _ rfl (by omega) (fun w hL hB => ?_); dsimp only [List.set] at hL; conv => whnf) | (refine Lq.dat hL.cls 0 _ rfl (by omega) ?_; conv => whnf) | (refine Lq.dat (fun _ h => h) 0 _ rfl (by omega) ?_; conv => whnf) | (refine (lessQ_fn _ _ _).mono fun r w1 hr => ?_; obtain ⟨hr, hw⟩ := hr; subst hr; subst hw; conv => whnf) | fail)
  all_goals
    repeat (first | (refine RunH ?_; intro w hL hB; try clear w) | (refine Both.mk ?_ ?_ <;> conv => whnf) | (intro o9 ho9; first | (refine (fun (hq : k = o9) => ?_) (by omega); subst hq) | (refine (fun (hq : m + 1 = o9) => ?_) (by omega); subst hq) | fail; conv => whnf) | (refine Ld.dat hL 0 _ rfl (by omega) ?_; conv => whnf) | (refine St.dat hL hB 0 _ rfl (by omega) (fun w hL hB => ?_); dsimp only [List.set] at hL; conv => whnf) | (refine Lq.dat hL.cls 0 _ rfl (by omega) ?_; conv => whnf) | (refine Lq.dat (fun _ h => h) 0 _ rfl (by omega) ?_; conv => whnf) | (refine (lessQ_fn _ _ _).mono fun r w1 hr => ?_; obtain ⟨hr, hw⟩ := hr; subst hr; subst hw; conv => whnf) | fail)
    replace hL : Sep Tryz.prog B w0 w (Dat g cap n (Sort.swp x k (m + 1)) :: F) := hL
    clear hc2
    try clear hc
    generalize Sort.swp x k (m + 1) = x1 at *
    generalize hr : Sort.partLoop ltN a (k + 1) (m + 1 - 1) x1 = r at hT
    refine V.loop (α := Nat × Nat × Array Nat) (fun z => [(0, .slice (some ⟨g, 0, none⟩) n cap), (1, .int .i64 (a : Int)), (10, .int .i64 (z.1 : Int)), (11, .int .i64 (z.2.1 : Int))])
      (fun z w' => a + 1 ≤ z.1 ∧ z.1 ≤ b ∧ z.2.1 < b ∧ z.1 ≤ z.2.1 + 2 ∧ Sort.partLoop ltN a z.1 z.2.1 z.2.2 = r ∧ Sep Tryz.prog B w0 w' (Dat g cap n z.2.2 :: F) ∧ B ≤ w'.heap.size) (fun z => z.2.1 + 1 - z.1) (k + 1, m, x1) ⟨rfl, rfl, vint (by push_cast; omega), vint (by push_cast; omega), trivial⟩ ⟨by dsimp only; omega, by dsimp only; omega, by dsimp only; omega, by dsimp only; omega, hr, hL, hB⟩ ?_
    clear hL hB hr
    rintro ⟨i, j, x⟩ w ⟨hi, hib, hj, hij, he, hL, hB⟩
    dsimp only at hi hib hj hij he hL ⊢
    rw [Sort.partLoop] at he
    try dsimp only at he
    repeat (first | (refine RunH ?_; intro w hL hB; try clear w) | (refine Both.mk ?_ ?_ <;> conv => whnf) | fail)
    refine V.loop (α := Nat) (fun k => [(0, .slice (some ⟨g, 0, none⟩) n cap), (1, .int .i64 (a : Int)), (10, .int .i64 (k : Int)), (11, .int .i64 (j : Int))])
      (fun k w' => i ≤ k ∧ k ≤ j + 2 ∧ Sort.scanUp (fun z => ltN z x[a]!) x j k = Sort.scanUp (fun z => ltN z x[a]!) x j i ∧ Sep Tryz.prog B w0 w' (Dat g cap n x :: F) ∧ B ≤ w'.heap.size) (fun k => j + 1 - k) i ⟨rfl, rfl, rfl, rfl, trivial⟩ ⟨Nat.le_refl _, hij, rfl, hL, hB⟩ ?_
    clear hL hB
    rintro k w ⟨hik, hkj, hk, hL, hB⟩
    rw [Sort.scanUp] at hk
    try dsimp only at hk
    by_cases hle : k ≤ j
    case' neg =>
      rw [if_neg (by simp; omega)] at hk
      rw [← hk] at he
      repeat (first | (refine RunK ?_; intro w hL hB; try clear w) | (refine V.treeA ttOk hL (.q 0 (.q 1 (.q 2 (.q 3 (.q 4 (.q 5 (.q 6 (.q 7 (.q 8 (.q 9 (.q 10 (.q 11 (.alt 12 (.q 13 .nil) .stop))))))))))))) mixed (by decide +kernel) ?_; replace hL := hL.drew; conv => whnf) | (refine V.tailA ttOk mixed (by decide +kernel) ?_; replace hL := hL.drew; conv => whnf) | (refine Both.mk ?_ ?_ <;> conv => whnf) | fail)
    case' pos =>
      repeat (first | (refine RunK ?_; intro w hL hB; try clear w) | (refine V.treeA ttOk hL (.q 0 (.q 1 (.q 2 (.q 3 (.q 4 (.q 5 (.q 6 (.q 7 (.q 8 (.q 9 (.q 10 (.q 11 (.alt 12 (.q 13 .nil) .stop))))))))))))) mixed (by decide +kernel) ?_; replace hL := hL.drew; conv => whnf) | (refine V.tailA ttOk mixed (by decide +kernel) ?_; replace hL := hL.drew; conv => whnf) | (refine Both.mk ?_ ?_ <;> conv => whnf) | (intro o9 ho9; first | (refine (fun (hq : a = o9) => ?_) (by omega); subst hq) | (refine (fun (hq : k = o9) => ?_) (by omega); subst hq) | fail; conv => whnf) | (refine Ld.dat hL 0 _ rfl (by omega) ?_; conv => whnf) | (refine St.dat hL hB 0 _ rfl (by omega) (fun w hL hB => ?_); dsimp only [List.set] at hL; conv => whnf) | (refine Lq.dat hL.cls 0 _ rfl (by omega) ?_; conv => whnf) | (refine Lq.dat (fun _ h => h) 0 _ rfl (by omega) ?_; conv => whnf) | (refine (lessQ_fn _ _ _).mono fun r w1 hr => ?_; obtain ⟨hr, hw⟩ := hr; subst hr; subst hw; conv => whnf) | fail)
      by_cases hc : ltN x[k]! x[a]! = true
      case pos =>
        rw [hc] at hk ⊢
        rw [if_pos (by simp; omega)] at hk
        repeat (first | (refine RunH ?_; intro w hL hB; try clear w) | (refine Both.mk ?_ ?_ <;> conv => whnf) | fail)
        exact ⟨k + 1, ⟨rfl, rfl, vint (by push_cast; omega), rfl, trivial⟩, ⟨by omega, by omega, hk, hL, hB⟩, (by first | omega | (dsimp only; omega))⟩
      obtain hc : ltN x[k]! x[a]! = false := by simpa using hc
      rw [hc] at hk ⊢
      rw [if_neg (by simp)] at hk
      rw [← hk] at he
      repeat (first | (refine RunH ?_; intro w hL hB; try clear w) | (refine Both.mk ?_ ?_ <;> conv => whnf) | fail)
  all_goals
    clear hk hle
    refine V.loop (α := Nat) (fun m => [(0, .slice (some ⟨g, 0, none⟩) n cap), (1, .int .i64 (a : Int)), (10, .int .i64 (k : Int)), (11, .int .i64 (m : Int))])
      (fun m w' => m ≤ j ∧ k ≤ m + 2 ∧ Sort.scanDown (fun z => !ltN z x[a]!) x k m = Sort.scanDown (fun z => !ltN z x[a]!) x k j ∧ Sep Tryz.prog B w0 w' (Dat g cap n x :: F) ∧ B ≤ w'.heap.size) (fun m => m) j ⟨rfl, rfl, rfl, rfl, trivial⟩ ⟨Nat.le_refl _, hkj, rfl, hL, hB⟩ ?_
    clear hL hB
    rintro m w ⟨hmj, hkm, hm, hL, hB⟩
    by_cases hkm2 : k ≤ m
    case neg =>
      have hm' : Sort.scanDown (fun z => !ltN z x[a]!) x k m = m := by
        cases m with
        | zero => rfl
        | succ m => rw [Sort.scanDown, if_neg (by simp; omega)]
      rw [hm'] at hm
      rw [← hm, if_pos (by omega)] at he
      subst he
      dsimp only at hT
      subst hT
      repeat (first | (refine RunK ?_; intro w hL hB; try clear w) | (refine V.treeA ttOk hL (.q 0 (.q 1 (.q 2 (.q 3 (.q 4 (.q 5 (.q 6 (.q 7 (.q 8 (.q 9 (.q 10 (.q 11 (.alt 12 (.q 13 (.q 14 .nil)) .stop))))))))))))) mixed (by decide +kernel) ?_; replace hL := hL.drew; conv => whnf) | (refine V.treeP ttOk hL 0 (.q 0 (.q 1 (.q 2 (.q 3 (.q 4 (.q 5 (.q 6 (.q 8 (.q 9 (.q 10 (.alt 7 (.alt 11 (.q 12 (.alt 13 (.q 14 (.alt 15 .nil .stop)) .stop)) .stop) (.alt 11 (.alt 7 (.q 12 (.alt 13 (.q 14 (.alt 15 .nil .stop)) .stop)) .stop) .stop)))))))))))) mixed (by decide +kernel) ?_; replace hL := hL.drew; conv => whnf) | (refine V.tailA ttOk mixed (by decide +kernel) ?_; replace hL := hL.drew; conv => whnf) | (refine Both.mk ?_ ?_ <;> conv => whnf) | (intro o9 ho9; first | (refine (fun (hq : a = o9) => ?_) (by omega); subst hq) | (refine (fun (hq : m = o9) => ?_) (by omega); subst hq) | fail; conv => whnf) | (refine Ld.dat hL 0 _ rfl (by omega) ?_; conv => whnf) | (refine St.dat hL hB 0 _ rfl (by omega) (fun w hL hB => ?_); dsimp only [List.set] at hL; conv => whnf) | (refine Lq.dat hL.cls 0 _ rfl (by omega) ?_; conv => whnf) | (refine Lq.dat (fun _ h => h) 0 _ rfl (by omega) ?_; conv => whnf) | (refine (lessQ_fn _ _ _).mono fun r w1 hr => ?_; obtain ⟨hr, hw⟩ := hr; subst hr; subst hw; conv => whnf) | fail)
      all_goals
        repeat (first | (refine RunH ?_; intro w hL hB; try clear w) | (refine Both.mk ?_ ?_ <;> conv => whnf) | (intro o9 ho9; first | (refine (fun (hq : a = o9) => ?_) (by omega); subst hq) | (refine (fun (hq : m = o9) => ?_) (by omega); subst hq) | fail; conv => whnf) | (refine Ld.dat hL 0 _ rfl (by omega) ?_; conv => whnf) | (refine St.dat hL hB 0 _ rfl (by omega) (fun w hL hB => ?_); dsimp only [List.set] at hL; conv => whnf) | (refine Lq.dat hL.cls 0 _ rfl (by omega) ?_; conv => whnf) | (refine Lq.dat (fun _ h => h) 0 _ rfl (by omega) ?_; conv => whnf) | (refine (lessQ_fn _ _ _).mono fun r w1 hr => ?_; obtain ⟨hr, hw⟩ := hr; subst hr; subst hw; conv => whnf) | fail)
        exact ⟨rfl, hL, hB⟩
    rcases Nat.lt_or_ge j k with hcon | hcon
    · exfalso; omega
    obtain ⟨m, rfl⟩ : ∃ q, m = q + 1 := ⟨m - 1, by omega⟩
    rw [Sort.scanDown] at hm
    try dsimp only at hm
    repeat (first | (refine RunK ?_; intro w hL hB; try clear w) | (refine V.treeA ttOk hL (.q 0 (.q 1 (.q 2 (.q 3 (.q 4 (.q 5 (.q 6 (.q 7 (.q 8 (.q 9 (.q 10 (.q 11 (.alt 12 (.q 13 (.q 14 .nil)) .stop))))))))))))) mixed (by decide +kernel) ?_; replace hL := hL.drew; conv => whnf) | (refine V.tailA ttOk mixed (by decide +kernel) ?_; replace hL := hL.drew; conv => whnf) | (refine Both.mk ?_ ?_ <;> conv => whnf) | (intro o9 ho9; first | (refine (fun (hq : a = o9) => ?_) (by omega); subst hq) | (refine (fun (hq : m + 1 = o9) => ?_) (by omega); subst hq) | fail; conv => whnf) | (refine Ld.dat hL 0 _ rfl (by omega) ?_; conv => whnf) | (refine St.dat hL hB 0 _ rfl (by omega) (fun w hL hB => ?_); dsimp only [List.set] at hL; conv => whnf) | (refine Lq.dat hL.cls 0 _ rfl (by omega) ?_; conv => whnf) | (refine Lq.dat (fun _ h => h) 0 _ rfl (by omega) ?_; conv => whnf) | (refine (lessQ_fn _ _ _).mono fun r w1 hr => ?_; obtain ⟨hr, hw⟩ := hr; subst hr; subst hw; conv => whnf) | fail)
    by_cases hc2 : ltN x[m + 1]! x[a]! = true
    case neg =>
      obtain hc2 : ltN x[m + 1]! x[a]! = false := by simpa using hc2
      rw [hc2] at hm ⊢
      rw [if_pos (by simp; omega)] at hm
      repeat (first | (refine RunH ?_; intro w hL hB; try clear w) | (refine Both.mk ?_ ?_ <;> conv => whnf) | fail)
      exact ⟨m, ⟨rfl, rfl, rfl, vint (by push_cast; omega), trivial⟩, ⟨by omega, by omega, hm, hL, hB⟩, (by first | omega | (dsimp only; omega))⟩
    rw [hc2] at hm ⊢
    rw [if_neg (by simp)] at hm
    rw [← hm, if_neg (by omega), dif_pos (by omega)] at he
    repeat (first | (refine RunK ?_; intro w hL hB; try clear w) | (refine V.treeP ttOk hL 0 (.q 0 (.q 1 (.q 2 (.q 3 (.q 4 (.q 5 (.q 6 (.q 8 (.q 9 (.q 10 (.alt 7 (.alt 11 (.q 12 (.alt 13 (.q 14 (.alt 15 .nil .stop)) .stop)) .stop) (.alt 11 (.alt 7 (.q 12 (.alt 13 (.q 14 (.alt 15 .nil .stop)) .stop)) .stop) .stop)))))))))))) mixed (by decide +kernel) ?_; replace hL := hL.drew; conv => whnf) | (refine V.tailA ttOk mixed (by decide +kernel) ?_; replace hL := hL.drew; conv => whnf) | (refine Both.mk ?_ ?_ <;> conv => whnf) | (intro o9 ho9; first | (refine (fun (hq : k = o9) => ?_) (by omega); subst hq) | (refine (fun (hq : m + 1 = o9) => ?_) (by omega); subst hq) | fail; conv => whnf) | (refine Ld.dat hL 0 _ rfl (by omega) ?_; conv => whnf) | (refine St.dat hL hB 0 _ rfl (by omega) (fun w hL hB => ?_); dsimp only [List.set] at hL; conv => whnf) | (refine Lq.dat hL.cls 0 _ rfl (by omega) ?_; conv => whnf) | (refine Lq.dat (fun _ h => h) 0 _ rfl (by omega) ?_; conv => whnf) | (refine (lessQ_fn _ _ _).mono fun r w1 hr => ?_; obtain ⟨hr, hw⟩ := hr; subst hr; subst hw; conv => whnf) | fail)
    all_goals
      repeat (first | (refine RunH ?_; intro w hL hB; try clear w) | (refine Both.mk ?_ ?_ <;> conv => whnf) | (intro o9 ho9; first | (refine (fun (hq : k = o9) => ?_) (by omega); subst hq) | (refine (fun (hq : m + 1 = o9) => ?_) (by omega); subst hq) | fail; conv => whnf) | (refine Ld.dat hL 0 _ rfl (by omega) ?_; conv => whnf) | (refine St.dat hL hB 0 _ rfl (by omega) (fun w hL hB => ?_); dsimp only [List.set] at hL; conv => whnf) | (refine Lq.dat hL.cls 0 _ rfl (by omega) ?_; conv => whnf) | (refine Lq.dat (fun _ h => h) 0 _ rfl (by omega) ?_; conv => whnf) | (refine (lessQ_fn _ _ _).mono fun r w1 hr => ?_; obtain ⟨hr, hw⟩ := hr; subst hr; subst hw; conv => whnf) | fail)
      exact ⟨(k + 1, m, Sort.swp x k (m + 1)), ⟨rfl, rfl, vint (by push_cast; omega), vint (by push_cast; omega), trivial⟩, ⟨by dsimp only; omega, by dsimp only; omega, by dsimp only; omega, by dsimp only; omega, he, hL, hB⟩, (by first | omega | (dsimp only; omega))⟩
end
end Go.Proofs.YtladfadcgfdbfaaGreatDoor
namespace Go.Proofs.YtladfadcgfdbfaaGreatDoor
open Go.RowKit
set_option linter.unusedVariables false
set_option linter.unusedSimpArgs false
set_option maxRecDepth 100000
theorem boolE {a b : Bool} (h : a = b) : some (Value.bool a) = some (Value.bool b) := by rw [h]
theorem swoN : Sort.SWO ltN where
  irrefl x := by simp [ltN]
  trans x y z h1 h2 := by simp only [ltN, decide_eq_true_eq] at *; omega
  ntrans x y z h1 h2 := by simp only [ltN, decide_eq_false_iff_not] at *; omega
theorem parteq_range {d : Array Nat} {a b p : Nat} (hab : a < b) (hb : b ≤ d.size) : a < (Sort.partitionEqual ltN d a b p).1 ∧ (Sort.partitionEqual ltN d a b p).1 ≤ b := by
  unfold Sort.partitionEqual
  have hb0 : b ≤ (Sort.swp d a p).size := by rw [Sort.size_swp]; exact hb
  obtain ⟨r1, r2, _⟩ := Sort.partEqLoop_spec ltN a b _ (a + 1) (b - 1) (Sort.swp d a p) (Nat.le_refl _) (Nat.lt_succ_self a) (by omega) (by omega) hb0 (fun t h1 h2 => by omega) (fun t h1 h2 => by omega)
  exact ⟨r1, r2⟩
section
variable {B g cap n : Nat} {w0 : World} {F : List Res}
set_option maxHeartbeats 16000000 in
theorem pdq_fn (hn : n ≤ 2305843009213693951) : ∀ (N a b limit : Nat) (d : Array Nat) (w : World), b - a ≤ N → a ≤ b → b ≤ n → limit ≤ 100 → Sep Tryz.prog B w0 w (Dat g cap n d :: F) → B ≤ w.heap.size →
    Fn Tryz.prog 142 #[.slice (some ⟨g, 0, none⟩) n cap, .int .i64 (a : Int), .int .i64 (b : Int), .int .i64 (limit : Int)] w fun r w' => Owns B w0 w' (Dat g cap n (Sort.pdq ltN d a b limit true true) :: F) := by
  intro N
  induction N using Nat.strongRecOn with
  | _ N ih =>
  intro a b limit d w hN hab hb hlim hL hB
  generalize hT : Sort.pdq ltN d a b limit true true = T
  refine Fn.mk Tryz.func142 rfl (by kernel_rfl) Tryz.ntmps142 rfl (by rw [Tryz.results142]) ?_
  repeat (first | (refine RunH ?_; intro w hL hB; try clear w) | (refine Both.mk ?_ ?_ <;> conv => whnf) | fail)
  refine V.loop (α := Nat × Nat × Nat × Bool × Bool × Array Nat) (fun z => [(0, .slice (some ⟨g, 0, none⟩) n cap), (1, .int .i64 (z.1 : Int)), (2, .int .i64 (z.2.1 : Int)), (3, .int .i64 (z.2.2.1 : Int)), (8, .bool z.2.2.2.1), (9, .bool z.2.2.2.2.1)])
    (fun z w' => z.1 ≤ z.2.1 ∧ z.2.1 ≤ n ∧ z.2.1 - z.1 ≤ N ∧ z.2.2.1 ≤ 100 ∧ Sort.pdq ltN z.2.2.2.2.2 z.1 z.2.1 z.2.2.1 z.2.2.2.1 z.2.2.2.2.1 = T ∧ Sep Tryz.prog B w0 w' (Dat g cap n z.2.2.2.2.2 :: F) ∧ B ≤ w'.heap.size) (fun z => z.2.1 - z.1) (a, b, limit, true, true, d) ⟨rfl, rfl, rfl, rfl, rfl, rfl, trivial⟩ ⟨hab, hb, hN, hlim, hT, hL, hB⟩ ?_
  clear hL hB hT hlim hb hab hN a b limit
  rintro ⟨a, b, limit, wb, wp, x⟩ w ⟨hab, hb, hN, hlim, he, hL, hB⟩
  dsimp only at hab hb hN hlim he hL ⊢
  rw [Sort.pdq] at he
  by_cases h12 : b - a ≤ 12
  · rw [if_pos h12] at he
    subst he
    repeat (first | (refine RunH ?_; intro w hL hB; try clear w) | (refine Both.mk ?_ ?_ <;> conv => whnf) | fail)
    refine (ins_fn a b hab hb (by omega) hL hB).mono fun r w ⟨hL, hB⟩ => ?_
    conv => whnf
    repeat (first | (refine RunH ?_; intro w hL hB; try clear w) | (refine Both.mk ?_ ?_ <;> conv => whnf) | fail)
    exact ⟨hL, hB⟩
  rw [if_neg h12] at he
  by_cases hl0 : limit = 0
  · rw [if_pos hl0] at he
    subst he
    subst hl0
    repeat (first | (refine RunH ?_; intro w hL hB; try clear w) | (refine Both.mk ?_ ?_ <;> conv => whnf) | fail)
    refine (heap_fn a b (by omega) hb (by omega) hL hB).mono fun r w ⟨hL, hB⟩ => ?_
    conv => whnf
    repeat (first | (refine RunH ?_; intro w hL hB; try clear w) | (refine Both.mk ?_ ?_ <;> conv => whnf) | fail)
    exact ⟨hL, hB⟩
  rw [if_neg hl0] at he
  dsimp only at he
  generalize hd1 : (if (!wb) = true then Sort.breakPatterns x a b else x) = x1 at he
  generalize hl1 : (if (!wb) = true then limit - 1 else limit) = l1 at he
  have hcp := Sort.choosePivot_holds ltN x1 a b (by omega)
  generalize hc : Sort.choosePivot ltN x1 a b = c at he hcp
  obtain ⟨piv, hint⟩ := c
  dsimp only at he hcp
  cases wb
  case' true =>
    simp only [Bool.not_true, Bool.false_eq_true, if_false] at hd1 hl1
    subst hd1
    subst hl1
    repeat (first | (refine RunH ?_; intro w hL hB; try clear w) | (refine Both.mk ?_ ?_ <;> conv => whnf) | fail)
  case' false =>
    simp only [Bool.not_false, if_true] at hd1 hl1
    subst hd1
    repeat (first | (refine RunH ?_; intro w hL hB; try clear w) | (refine Both.mk ?_ ?_ <;> conv => whnf) | fail)
    refine (break_fn a b (by omega) hb hn hL hB).mono fun r w ⟨hL, hB⟩ => ?_
    generalize Sort.breakPatterns x a b = x1 at *
    conv => whnf
    repeat (first | (refine RunH ?_; intro w hL hB; try clear w) | (refine Both.mk ?_ ?_ <;> conv => whnf) | fail)
    rw [show ((limit : Int) - 1) = (l1 : Int) from by omega]
    replace hlim : l1 ≤ 100 := by omega
    clear hl1 hl0
    obtain ⟨limit, rfl⟩ : ∃ q, q = l1 := ⟨_, rfl⟩
    obtain ⟨x, rfl⟩ : ∃ q, q = x1 := ⟨_, rfl⟩
  all_goals
    refine (choose_fn a b (by omega) hb hn hL hB).mono fun r w ⟨hr, hL, hB⟩ => ?_
    rw [hc] at hr
    subst hr
    dsimp only
    clear hc
    cases hint
    case' decreasing =>
      simp only [reduceCtorEq, if_true, if_false, decide_true, decide_false, Bool.and_true, Bool.and_false, Bool.false_eq_true] at he
      simp only [hintV]
      conv => whnf
      repeat (first | (refine RunH ?_; intro w hL hB; try clear w) | (refine Both.mk ?_ ?_ <;> conv => whnf) | fail)
      refine (reverse_fn a b hb (by omega) (by omega) (by omega) hL hB).mono fun r w ⟨hL, hB⟩ => ?_
      obtain ⟨x2, hx2⟩ : ∃ q, q = Sort.reverseRange x a b := ⟨_, rfl⟩
      rw [← hx2] at he hL
      clear hx2
      conv => whnf
      repeat (first | (refine RunK ?_; intro w hL hB; try clear w) | (refine V.treeA ttOk hL (.q 0 (.q 1 (.q 2 (.q 3 (.q 4 (.q 5 (.q 6 (.q 7 (.q 8 (.q 9 (.q 10 (.q 11 (.alt 12 (.q 13 (.q 14 .nil)) .stop))))))))))))) mixed (by decide +kernel) ?_; replace hL := hL.drew; conv => whnf) | (refine V.tailA ttOk mixed (by decide +kernel) ?_; replace hL := hL.drew; conv => whnf) | (refine Both.mk ?_ ?_ <;> conv => whnf) | fail)
      rw [show ((b : Int) - 1 - ((piv : Int) - (a : Int))) = ((b - 1 - (piv - a) : Nat) : Int) from by omega]
      have hp : a ≤ b - 1 - (piv - a) ∧ b - 1 - (piv - a) < b := by omega
      generalize b - 1 - (piv - a) = p at *
    case' increasing =>
      simp only [reduceCtorEq, if_true, if_false, decide_true, decide_false, Bool.and_true, Bool.and_false, Bool.false_eq_true] at he
      simp only [hintV]
      obtain ⟨x2, rfl⟩ : ∃ q, q = x := ⟨_, rfl⟩
      obtain ⟨p, rfl⟩ : ∃ q, q = piv := ⟨_, rfl⟩
      have hp := hcp
      conv => whnf
      repeat (first | (refine RunK ?_; intro w hL hB; try clear w) | (refine V.treeA ttOk hL (.q 0 (.q 1 (.q 2 (.q 3 (.q 4 (.q 5 (.q 6 (.q 7 (.q 8 (.q 9 (.q 10 (.q 11 (.alt 12 (.q 13 (.q 14 .nil)) .stop))))))))))))) mixed (by decide +kernel) ?_; replace hL := hL.drew; conv => whnf) | (refine V.tailA ttOk mixed (by decide +kernel) ?_; replace hL := hL.drew; conv => whnf) | (refine Both.mk ?_ ?_ <;> conv => whnf) | fail)
    case' unknown =>
      simp only [reduceCtorEq, if_true, if_false, decide_true, decide_false, Bool.and_true, Bool.and_false, Bool.false_eq_true] at he
      simp only [hintV]
      obtain ⟨x2, rfl⟩ : ∃ q, q = x := ⟨_, rfl⟩
      obtain ⟨p, rfl⟩ : ∃ q, q = piv := ⟨_, rfl⟩
      have hp := hcp
      conv => whnf
      repeat (first | (refine RunK ?_; intro w hL hB; try clear w) | (refine V.treeA ttOk hL (.q 0 (.q 1 (.q 2 (.q 3 (.q 4 (.q 5 (.q 6 (.q 7 (.q 8 (.q 9 (.q 10 (.q 11 (.alt 12 (.q 13 (.q 14 .nil)) .stop))))))))))))) mixed (by decide +kernel) ?_; replace hL := hL.drew; conv => whnf) | (refine V.tailA ttOk mixed (by decide +kernel) ?_; replace hL := hL.drew; conv => whnf) | (refine Both.mk ?_ ?_ <;> conv => whnf) | fail)
  all_goals
    cases wp
  all_goals
    try simp only [Bool.and_self, Bool.and_true, Bool.true_and, Bool.false_and, Bool.and_false, if_true, if_false, Bool.false_eq_true] at he
    repeat (first | (refine RunK ?_; intro w hL hB; try clear w) | (refine V.treeA ttOk hL (.q 0 (.q 1 (.q 2 (.q 3 (.q 4 (.q 5 (.q 6 (.q 7 (.q 8 (.q 9 (.q 10 (.q 11 (.alt 12 (.q 13 (.q 14 .nil)) .stop))))))))))))) mixed (by decide +kernel) ?_; replace hL := hL.drew; conv => whnf) | (refine V.tailA ttOk mixed (by decide +kernel) ?_; replace hL := hL.drew; conv => whnf) | (refine Both.mk ?_ ?_ <;> conv => whnf) | fail)
    first
    | (refine (pins_fn a b (by omega) hb hn hL hB).mono fun r w ⟨hr, hL, hB⟩ => ?_
       subst hr
       generalize Sort.partialInsertionSort ltN x2 a b = pi at he hL
       obtain ⟨x3, fl⟩ := pi
       dsimp only at he hL
       cases fl
       case true =>
         simp only [if_true] at he
         subst he
         conv => whnf
         repeat (first | (refine RunH ?_; intro w hL hB; try clear w) | (refine Both.mk ?_ ?_ <;> conv => whnf) | fail)
         exact ⟨hL, hB⟩
       simp only [if_false, Bool.false_eq_true] at he
       obtain ⟨x2, rfl⟩ : ∃ q, q = x3 := ⟨_, rfl⟩
       conv => whnf
       repeat (first | (refine RunK ?_; intro w hL hB; try clear w) | (refine V.treeA ttOk hL (.q 0 (.q 1 (.q 2 (.q 3 (.q 4 (.q 5 (.q 6 (.q 7 (.q 8 (.q 9 (.q 10 (.q 11 (.alt 12 (.q 13 (.q 14 .nil)) .stop))))))))))))) mixed (by decide +kernel) ?_; replace hL := hL.drew; conv => whnf) | (refine V.tailA ttOk mixed (by decide +kernel) ?_; replace hL := hL.drew; conv => whnf) | (refine Both.mk ?_ ?_ <;> conv => whnf) | fail))
    | skip
  all_goals
    have hsz := datLen hL 0 rfl
    by_cases ha0 : 0 < a
    case' pos =>
      repeat (first | (refine RunH ?_; intro w hL hB; try clear w) | (refine Both.mk ?_ ?_ <;> conv => whnf) | (intro o9 ho9; first | (refine (fun (hq : a - 1 = o9) => ?_) (by omega); subst hq) | (refine (fun (hq : p = o9) => ?_) (by omega); subst hq) | fail; conv => whnf) | (refine Ld.dat hL 0 _ rfl (by omega) ?_; conv => whnf) | (refine St.dat hL hB 0 _ rfl (by omega) (fun w hL hB => ?_); dsimp only [List.set] at hL; conv => whnf) | (refine Lq.dat hL.cls 0 _ rfl (by omega) ?_; conv => whnf) | (refine Lq.dat (fun _ h => h) 0 _ rfl (by omega) ?_; conv => whnf) | (refine (lessQ_fn _ _ _).mono fun r w1 hr => ?_; obtain ⟨hr, hw⟩ := hr; subst hr; subst hw; conv => whnf) | fail)
      by_cases hq : ltN x2[a - 1]! x2[p]! = true
      case neg =>
        obtain hq : ltN x2[a - 1]! x2[p]! = false := by simpa using hq
        rw [hq] at he ⊢
        rw [if_pos (by simp; omega)] at he
        have hr := parteq_range (d := x2) (a := a) (b := b) (p := p) (by omega) (by omega)
        rw [dif_pos hr] at he
        repeat (first | (refine RunH ?_; intro w hL hB; try clear w) | (refine Both.mk ?_ ?_ <;> conv => whnf) | fail)
        refine (parteq_fn a b p (by omega) hb (by omega) hn hL hB).mono fun r w ⟨hr', hL, hB⟩ => ?_
        subst hr'
        conv => whnf
        repeat (first | (refine RunH ?_; intro w hL hB; try clear w) | (refine Both.mk ?_ ?_ <;> conv => whnf) | fail)
        exact ⟨((Sort.partitionEqual ltN x2 a b p).1, b, limit, _, _, (Sort.partitionEqual ltN x2 a b p).2), ⟨rfl, rfl, rfl, rfl, rfl, rfl, trivial⟩, ⟨by dsimp only; omega, hb, by dsimp only; omega, hlim, he, hL, hB⟩, (by first | omega | (dsimp only; omega))⟩
      rw [hq] at he ⊢
      rw [if_neg (by simp)] at he
    case' neg =>
      rw [if_neg (by simp; omega)] at he
  all_goals
    have hr := Sort.partition_holds ltN swoN x2 a b p (by omega) (by omega) (by omega)
    rw [dif_pos ⟨hr.1, hr.2.1⟩] at he
    have h1 := hr.1
    have h2 := hr.2.1
    clear hr
    repeat (first | (refine RunH ?_; intro w hL hB; try clear w) | (refine Both.mk ?_ ?_ <;> conv => whnf) | fail)
    refine (part_fn a b p (by omega) hb (by omega) hn hL hB).mono fun r w ⟨hr', hL, hB⟩ => ?_
    generalize Sort.partition ltN x2 a b p = P at *
    obtain ⟨mid, ap, x4⟩ := P
    subst hr'
    dsimp only at he hL h1 h2 ⊢
    by_cases hlt : mid - a < b - mid
    · rw [if_pos hlt] at he
      conv => whnf
      repeat (first | (refine RunH ?_; intro w hL hB; try clear w) | (refine Both.mk ?_ ?_ <;> conv => whnf) | (refine Quo.at (b - a) 8 (by omega) rfl (by decide) ?_; conv => whnf) | fail)
      refine (ih (mid - a) (by omega) a mid limit x4 _ (Nat.le_refl _) h1 (by omega) hlim hL hB).mono fun r w ⟨hL, hB⟩ => ?_
      conv => whnf
      repeat (first | (refine RunH ?_; intro w hL hB; try clear w) | (refine Both.mk ?_ ?_ <;> conv => whnf) | fail)
      exact ⟨(mid + 1, b, limit, decide (mid - a ≥ (b - a) / 8), ap, Sort.pdq ltN x4 a mid limit true true), ⟨rfl, vint (by push_cast; omega), rfl, rfl, boolE (decide_eq_decide.2 (by omega)), rfl, trivial⟩, ⟨by dsimp only; omega, hb, by dsimp only; omega, hlim, he, hL, hB⟩, (by first | omega | (dsimp only; omega))⟩
    · rw [if_neg hlt] at he
      conv => whnf
      repeat (first | (refine RunH ?_; intro w hL hB; try clear w) | (refine Both.mk ?_ ?_ <;> conv => whnf) | (refine Quo.at (b - a) 8 (by omega) rfl (by decide) ?_; conv => whnf) | fail)
      rw [show ((mid : Int) + 1) = ((mid + 1 : Nat) : Int) from by omega]
      refine (ih (b - (mid + 1)) (by omega) (mid + 1) b limit x4 _ (Nat.le_refl _) (by omega) hb hlim hL hB).mono fun r w ⟨hL, hB⟩ => ?_
      conv => whnf
      repeat (first | (refine RunH ?_; intro w hL hB; try clear w) | (refine Both.mk ?_ ?_ <;> conv => whnf) | fail)
      exact ⟨(a, mid, limit, decide (b - mid ≥ (b - a) / 8), ap, Sort.pdq ltN x4 (mid + 1) b limit true true), ⟨rfl, rfl, rfl, rfl, boolE (decide_eq_decide.2 (by omega)), rfl, trivial⟩, ⟨h1, by dsimp only; omega, by dsimp only; omega, hlim, he, hL, hB⟩, (by first | omega | (dsimp only; omega))⟩
end
end Go.Proofs.YtladfadcgfdbfaaGreatDoor
