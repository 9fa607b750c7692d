/- slices.choosePivotOrdered at uint64. Nothing is claimed here. -/
import Derived.Test.YtpkealgeigpjpaaDoorQe
namespace Go.Proofs.YtpkealgeigpjpaaDoor
open Go.RowKit
set_option linter.unusedVariables false
set_option linter.unusedSimpArgs false
set_option maxRecDepth 100000

def hintV : Sort.Hint → Int
  | .unknown => 0
  | .increasing => 1
  | .decreasing => 2
section
variable {B g cap n : Nat} {d : Array Nat} {w0 w : World} {F : List Res}
theorem adjacent_fn' (a p s : Nat) {A : Int} (hA : A = (a : Int)) (ha : a + 1 < n) (ha0 : 0 < a) (hn : n ≤ 2305843009213693952) (hs : s < 900) (hL : Sep Tryd.prog B w0 w (Dat g cap n d :: Cnt p s :: F)) (hB : B ≤ w.heap.size) :
    Fn Tryd.prog 106 #[.slice (some ⟨g, 0, none⟩) n cap, .int .i64 A, .pointer (some ⟨p, 0, none⟩)] w fun r w' => r = .int .i64 ((Sort.medianAdjacent ltN d a s).1 : Int) ∧ Owns B w0 w' (Dat g cap n d :: Cnt p (Sort.medianAdjacent ltN d a s).2 :: F) := by
  subst hA; exact adjacent_fn a p s ha ha0 hn hs hL hB
theorem median_fn' (a b c p s : Nat) {A A' A'' : Int} (hA : A = (a : Int)) (hA' : A' = (b : Int)) (hA'' : A'' = (c : Int)) (ha : a < n) (hb : b < n) (hc : c < n) (hn : n ≤ 2305843009213693952) (hs : s < 900) (hL : Sep Tryd.prog B w0 w (Dat g cap n d :: Cnt p s :: F)) (hB : B ≤ w.heap.size) :
    Fn Tryd.prog 107 #[.slice (some ⟨g, 0, none⟩) n cap, .int .i64 A, .int .i64 A', .int .i64 A'', .pointer (some ⟨p, 0, none⟩)] w fun r w' => r = .int .i64 ((Sort.median ltN d a b c s).1 : Int) ∧ Owns B w0 w' (Dat g cap n d :: Cnt p (Sort.median ltN d a b c s).2 :: F) := by
  subst hA; subst hA'; subst hA''; exact median_fn a b c p s ha hb hc hn hs hL hB
theorem adjacent_lt {a s : Nat} (d : Array Nat) (ha : a + 1 < n) : (Sort.medianAdjacent ltN d a s).1 < n ∧ (Sort.medianAdjacent ltN d a s).2 ≤ s + 3 := median_lt d (by omega) (by omega) ha
set_option maxHeartbeats 4000000 in
theorem choose_fn (a b : Nat) (hab : a + 12 < b) (hb : b ≤ n) (hn : n ≤ 2305843009213693951) (hL : Sep Tryd.prog B w0 w (Dat g cap n d :: F)) (hB : B ≤ w.heap.size) :
    Fn Tryd.prog 89 #[.slice (some ⟨g, 0, none⟩) n cap, .int .i64 (a : Int), .int .i64 (b : Int)] w fun r w' => r = .tuple #[.int .i64 ((Sort.choosePivot ltN d a b).1 : Int), .int .i64 (hintV (Sort.choosePivot ltN d a b).2)] ∧ Owns B w0 w' (Dat g cap n d :: F) := by
  unfold Sort.choosePivot
  dsimp only
  rw [if_pos (by omega)]
  refine Fn.mk Tryd.func89 rfl (by kernel_rfl) Tryd.ntmps89 rfl (by rw [Tryd.results89]) ?_
  repeat (first | (refine RunH ?_; intro w hL hB; try clear w) | (refine Both.mk ?_ ?_ <;> conv => whnf) | fail)
  (refine Nw.sep hL hB (fun c w hL hB hc => ?_); conv => whnf)
  replace hL := hL.perm (List.Perm.swap _ _ _)
  have hL : Sep Tryd.prog B w0 w (Dat g cap n d :: Cnt c 0 :: F) := hL
  by_cases h50 : b - a ≥ 50
  case' pos =>
    rw [if_pos h50]
    have q1 := adjacent_lt (n := n) (s := 0) (a := a + (b - a) / 4 * 1) d (by omega)
    have q2 := adjacent_lt (n := n) (s := (Sort.medianAdjacent ltN d (a + (b - a) / 4 * 1) 0).2) (a := a + (b - a) / 4 * 2) d (by omega)
    have q3 := adjacent_lt (n := n) (s := (Sort.medianAdjacent ltN d (a + (b - a) / 4 * 2) (Sort.medianAdjacent ltN d (a + (b - a) / 4 * 1) 0).2).2) (a := a + (b - a) / 4 * 3) d (by omega)
    repeat (first | (refine RunH ?_; intro w hL hB; try clear w) | (refine Both.mk ?_ ?_ <;> conv => whnf) | (refine Quo.at (b - a) 4 (by omega) rfl (by decide) ?_; conv => whnf) | fail)
    refine (adjacent_fn' (a + (b - a) / 4 * 1) c 0 (by omega) (by omega) (by omega) (by omega) (by omega) hL hB).mono fun r w ⟨hr, hL, hB⟩ => ?_
    subst hr
    conv => whnf
    repeat (first | (refine RunH ?_; intro w hL hB; try clear w) | (refine Both.mk ?_ ?_ <;> conv => whnf) | fail)
    refine (adjacent_fn' (a + (b - a) / 4 * 2) c _ (by omega) (by omega) (by omega) (by omega) (by omega) hL hB).mono fun r w ⟨hr, hL, hB⟩ => ?_
    subst hr
    conv => whnf
    repeat (first | (refine RunH ?_; intro w hL hB; try clear w) | (refine Both.mk ?_ ?_ <;> conv => whnf) | fail)
    refine (adjacent_fn' (a + (b - a) / 4 * 3) c _ (by omega) (by omega) (by omega) (by omega) (by omega) hL hB).mono fun r w ⟨hr, hL, hB⟩ => ?_
    subst hr
    generalize Sort.medianAdjacent ltN d (a + (b - a) / 4 * 1) 0 = r1 at *
    generalize Sort.medianAdjacent ltN d (a + (b - a) / 4 * 2) r1.2 = r2 at *
    generalize Sort.medianAdjacent ltN d (a + (b - a) / 4 * 3) r2.2 = r3 at *
    conv => whnf
    repeat (first | (refine RunH ?_; intro w hL hB; try clear w) | (refine Both.mk ?_ ?_ <;> conv => whnf) | fail)
    refine (median_fn' r1.1 r2.1 r3.1 c r3.2 rfl rfl rfl (by omega) (by omega) (by omega) (by omega) (by omega) hL hB).mono fun r w ⟨hr, hL, hB⟩ => ?_
    subst hr
    generalize Sort.median ltN d r1.1 r2.1 r3.1 r3.2 = z at *
  case' neg =>
    rw [if_neg h50]
    repeat (first | (refine RunH ?_; intro w hL hB; try clear w) | (refine Both.mk ?_ ?_ <;> conv => whnf) | (refine Quo.at (b - a) 4 (by omega) rfl (by decide) ?_; conv => whnf) | fail)
    refine (median_fn' (a + (b - a) / 4 * 1) (a + (b - a) / 4 * 2) (a + (b - a) / 4 * 3) c 0 (by omega) (by omega) (by omega) (by omega) (by omega) (by omega) (by omega) (by omega) hL hB).mono fun r w ⟨hr, hL, hB⟩ => ?_
    subst hr
    generalize Sort.median ltN d (a + (b - a) / 4 * 1) (a + (b - a) / 4 * 2) (a + (b - a) / 4 * 3) 0 = z at *
  all_goals
    obtain ⟨p, s⟩ := z
    dsimp only at hL ⊢
    unfold Cnt at hL
    by_cases h0 : s = 0
    · rw [if_pos h0]
      conv => whnf
      repeat (first | (refine RunH ?_; intro w hL hB; try clear w) | (refine Both.mk ?_ ?_ <;> conv => whnf) | fail)
      exact ⟨rfl, hL.sub (.cons_cons _ (.cons _ (.refl _))), hB⟩
    by_cases h12 : s = 12
    · rw [if_neg h0, if_pos h12]
      conv => whnf
      repeat (first | (refine RunH ?_; intro w hL hB; try clear w) | (refine Both.mk ?_ ?_ <;> conv => whnf) | fail)
      exact ⟨rfl, hL.sub (.cons_cons _ (.cons _ (.refl _))), hB⟩
    · rw [if_neg h0, if_neg h12]
      conv => whnf
      repeat (first | (refine RunH ?_; intro w hL hB; try clear w) | (refine Both.mk ?_ ?_ <;> conv => whnf) | fail)
      exact ⟨rfl, hL.sub (.cons_cons _ (.cons _ (.refl _))), hB⟩
end
end Go.Proofs.YtpkealgeigpjpaaDoor
