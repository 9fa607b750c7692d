/- bits.Len, slices.nextPowerOfTwo, xorshift.Next, breakPatternsOrdered, choosePivotOrdered at uint64. slices.choosePivotOrdered at uint64. Nothing is claimed here. -/
import Derived.Test.YtladfadcgfdbfaaGreatDoorD05
import Derived.Test.YtladfadcgfdbfaaGreatDoorD08
namespace Go.Proofs.YtladfadcgfdbfaaGreatDoor
open Go.RowKit
set_option linter.unusedVariables false
set_option linter.unusedSimpArgs false
set_option maxRecDepth 100000
theorem lenQ_fn (x : Nat) (hx : x < 18446744073709551616) (w : World) : Fn Tryz.prog 75 #[.int .u64 (x : Int)] w fun r w' => r = .int .i64 (Sort.bitsLen x : Int) ∧ w' = w := by
  refine Fn.of_calls Tryz.func75 (by decide +kernel) rfl fun cs => ?_
  obtain ⟨e, w', fr, ⟨r1, r2⟩, s, y⟩ := (AnySM.bits_LenInS (ρ := Tryz.sort107_ren) { Tryz.sort107 with } (cs.length + 2) (x : Int) w (by omega) (by omega)).2 cs (fun d hd => by cases hd; exact Nat.le_refl _)
  refine ⟨e, w', fr, ⟨_, r1, ?_, r2⟩, s.comes, y⟩
  rw [Int.toNat_natCast, Go.Proofs.bitLen_eq x hx]
theorem Shl.q13 (x : UInt64) {K : Int → Prop} (h : K ((x <<< 13).toNat : Int)) : Shl .u64 (x.toNat : Int) 13 K := by
  refine Shl.mk (by decide) ?_
  have e : IntKind.u64.wrap ((x.toNat : Int) * 2 ^ (min (13 : Int).toNat IntKind.u64.bits)) = ((x <<< 13).toNat : Int) := by
    rw [UInt64.toNat_shiftLeft, Nat.shiftLeft_eq]
    simp [IntKind.wrap, IntKind.bits, IntKind.signed]
  rw [e]; exact h
theorem Shl.q17 (x : UInt64) {K : Int → Prop} (h : K ((x <<< 17).toNat : Int)) : Shl .u64 (x.toNat : Int) 17 K := by
  refine Shl.mk (by decide) ?_
  have e : IntKind.u64.wrap ((x.toNat : Int) * 2 ^ (min (17 : Int).toNat IntKind.u64.bits)) = ((x <<< 17).toNat : Int) := by
    rw [UInt64.toNat_shiftLeft, Nat.shiftLeft_eq]
    simp [IntKind.wrap, IntKind.bits, IntKind.signed]
  rw [e]; exact h
theorem Shr.q7 (x : UInt64) {K : Int → Prop} (h : K ((x >>> 7).toNat : Int)) : Shr .u64 (x.toNat : Int) 7 K := by
  refine Shr.at x.toNat 7 128 rfl rfl (by decide) rfl ?_
  have e : x.toNat / 128 = (x >>> 7).toNat := by
    rw [UInt64.toNat_shiftRight, Nat.shiftRight_eq_div_pow]; rfl
  rw [e]; exact h
theorem Bt.q (x y : UInt64) {K : Int → Prop} (h : K ((x ^^^ y).toNat : Int)) : Bt .xor .u64 (x.toNat : Int) (y.toNat : Int) K := by
  refine Bt.xor64 x.toNat y.toNat rfl rfl x.toNat_lt y.toNat_lt ?_
  rw [← UInt64.toNat_xor]; exact h
theorem bitsLen_le {x : Nat} (hx : x < 2305843009213693952) : Sort.bitsLen x ≤ 61 := by
  unfold Sort.bitsLen
  split
  · omega
  · rename_i h
    have := (Nat.log2_lt h (k := 61)).2 (by simpa using hx)
    omega
theorem pow_le61 {x : Nat} (hx : x < 2305843009213693952) : 2 ^ Sort.bitsLen x ≤ 2305843009213693952 := Nat.le_trans (Nat.pow_le_pow_right (by decide) (bitsLen_le hx)) (by decide)
theorem npow_fn (x : Nat) (hx : x < 2305843009213693952) (w : World) : Fn Tryz.prog 144 #[.int .i64 (x : Int)] w fun r w' => r = .int .u64 ((1 <<< Sort.bitsLen x : Nat) : Int) ∧ w' = w := by
  have hL := Sep.start Tryz.prog w
  have hB := Nat.le_refl w.heap.size
  have hl := lenQ_fn x (by omega)
  have h61 := bitsLen_le hx
  have hp := pow_le61 hx
  refine Fn.mk Tryz.func144 rfl (by kernel_rfl) Tryz.ntmps144 rfl (by rw [Tryz.results144]) ?_
  repeat (first | (refine RunH ?_; intro w hL hB; try clear w) | (refine Both.mk ?_ ?_ <;> conv => whnf) | (refine (hl _).mono fun r w1 hr => ?_; obtain ⟨hr, hw⟩ := hr; subst hr; subst hw; conv => whnf) | fail)
  rw [Nat.one_shiftLeft]
  generalize hP : 2 ^ Sort.bitsLen x = P at *
  refine Shl.u64 (Sort.bitsLen x) P rfl (by show _ ≤ 64; omega) hP ?_
  refine Ar.u64 (by omega) (by omega) ?_
  conv => whnf
  repeat (first | (refine RunH ?_; intro w hL hB; try clear w) | (refine Both.mk ?_ ?_ <;> conv => whnf) | fail)
  exact ⟨vintv (by omega), rfl⟩
section
variable {B g cap n : Nat} {d : Array Nat} {w0 w : World} {F : List Res}
set_option maxHeartbeats 2000000 in
theorem xorN_fn (c : Nat) (x : UInt64) (hL : Sep Tryz.prog B w0 w (.blk c [.int .u64 (x.toNat : Int)] 207 :: F)) (hB : B ≤ w.heap.size) :
    Fn Tryz.prog 145 #[.pointer (some ⟨c, 0, none⟩)] w fun r w' => r = .int .u64 ((Sort.xorNext x).toNat : Int) ∧ Owns B w0 w' (.blk c [.int .u64 ((Sort.xorNext x).toNat : Int)] 207 :: F) := by
  unfold Sort.xorNext
  refine Fn.mk Tryz.func145 rfl (by kernel_rfl) Tryz.ntmps145 rfl (by rw [Tryz.results145]) ?_
  repeat (first | (refine RunK ?_; intro w hL hB; try clear w) | (refine V.treeP ttOk hL 0 (.q 0 (.q 1 (.q 3 (.q 4 (.alt 2 (.alt 5 (.q 6 (.q 7 (.q 8 (.alt 9 .nil .stop)))) .stop) (.alt 5 (.q 6 (.alt 2 (.q 7 (.q 8 (.alt 9 .nil .stop))) .stop)) .stop)))))) mixed (by decide +kernel) ?_; replace hL := hL.drew; conv => whnf) | (refine V.tailA ttOk mixed (by decide +kernel) ?_; replace hL := hL.drew; conv => whnf) | (refine Both.mk ?_ ?_ <;> conv => whnf) | (refine Shl.q13 _ ?_; conv => whnf) | (refine Bt.q _ _ ?_; conv => whnf) | fail)
  all_goals
    repeat (first | (refine RunK ?_; intro w hL hB; try clear w) | (refine V.treeP ttOk hL 0 (.q 0 (.q 1 (.q 3 (.q 4 (.alt 2 (.alt 5 (.q 6 (.q 7 (.q 8 (.alt 9 .nil .stop)))) .stop) (.alt 5 (.q 6 (.alt 2 (.q 7 (.q 8 (.alt 9 .nil .stop))) .stop)) .stop)))))) mixed (by decide +kernel) ?_; replace hL := hL.drew; conv => whnf) | (refine V.tailA ttOk mixed (by decide +kernel) ?_; replace hL := hL.drew; conv => whnf) | (refine Both.mk ?_ ?_ <;> conv => whnf) | (refine Shl.q13 _ ?_; conv => whnf) | (refine Shr.q7 _ ?_; conv => whnf) | (refine Bt.q _ _ ?_; conv => whnf) | fail)
  all_goals
    repeat (first | (refine RunK ?_; intro w hL hB; try clear w) | (refine V.treeP ttOk hL 0 (.q 0 (.q 1 (.q 3 (.q 4 (.alt 2 (.alt 5 (.q 6 (.q 7 (.q 8 (.alt 9 .nil .stop)))) .stop) (.alt 5 (.q 6 (.alt 2 (.q 7 (.q 8 (.alt 9 .nil .stop))) .stop)) .stop)))))) mixed (by decide +kernel) ?_; replace hL := hL.drew; conv => whnf) | (refine V.tailA ttOk mixed (by decide +kernel) ?_; replace hL := hL.drew; conv => whnf) | (refine Both.mk ?_ ?_ <;> conv => whnf) | (refine Shl.q17 _ ?_; conv => whnf) | (refine Shr.q7 _ ?_; conv => whnf) | (refine Bt.q _ _ ?_; conv => whnf) | fail)
  all_goals
    repeat (first | (refine RunH ?_; intro w hL hB; try clear w) | (refine Both.mk ?_ ?_ <;> conv => whnf) | (refine Shl.q17 _ ?_; conv => whnf) | (refine Shr.q7 _ ?_; conv => whnf) | (refine Bt.q _ _ ?_; conv => whnf) | fail)
    exact ⟨rfl, hL, hB⟩
/-- rounds of breakPatterns -/
def brk (a l M I : Nat) (st : UInt64 × Array Nat) : Nat → UInt64 × Array Nat
  | 0 => st
  | k + 1 => Sort.breakStep a l M (brk a l M I st k) (I + k)
set_option maxHeartbeats 4000000 in
theorem break_fn (a b : Nat) (hab : a + 12 < b) (hb : b ≤ n) (hn : n ≤ 2305843009213693951) (hL : Sep Tryz.prog B w0 w (Dat g cap n d :: F)) (hB : B ≤ w.heap.size) :
    Fn Tryz.prog 170 #[.slice (some ⟨g, 0, none⟩) n cap, .int .i64 (a : Int), .int .i64 (b : Int)] w fun r w' => Owns B w0 w' (Dat g cap n (Sort.breakPatterns d a b) :: F) := by
  unfold Sort.breakPatterns
  rw [if_pos (by omega)]
  dsimp only
  have hnp := npow_fn (b - a) (by omega)
  rw [show (((b - a : Nat)) : Int) = (b : Int) - (a : Int) from by omega] at hnp
  have hpl := pow_le61 (x := b - a) (by omega)
  have hpp : 0 < 2 ^ Sort.bitsLen (b - a) := Nat.pow_pos (by decide)
  have hbl : b - a < 2 ^ Sort.bitsLen (b - a) := by
    unfold Sort.bitsLen
    rw [if_neg (by omega)]
    exact Nat.lt_log2_self
  have hbl2 : 2 ^ Sort.bitsLen (b - a) ≤ 2 * (b - a) := by
    unfold Sort.bitsLen
    rw [if_neg (by omega), Nat.pow_succ]
    have := Nat.log2_self_le (n := b - a) (by omega)
    omega
  simp only [Nat.one_shiftLeft] at *
  generalize 2 ^ Sort.bitsLen (b - a) = M at *
  have hgoal : (Sort.breakStep a (b - a) M (Sort.breakStep a (b - a) M (Sort.breakStep a (b - a) M (UInt64.ofNat (b - a), d) (a + (b - a) / 4 * 2 - 1)) (a + (b - a) / 4 * 2 - 1 + 1)) (a + (b - a) / 4 * 2 - 1 + 2)).2 = (brk a (b - a) M (a + (b - a) / 4 * 2 - 1) (UInt64.ofNat (b - a), d) 3).2 := rfl
  rw [hgoal]
  clear hgoal
  refine Fn.mk Tryz.func170 rfl (by kernel_rfl) Tryz.ntmps170 rfl (by rw [Tryz.results170]) ?_
  repeat (first | (refine RunH ?_; intro w hL hB; try clear w) | (refine Both.mk ?_ ?_ <;> conv => whnf) | fail)
  (refine Nw.sep hL hB (fun t7 w hL hB ht7 => ?_); conv => whnf)
  repeat (first | (refine RunH ?_; intro w hL hB; try clear w) | (refine Both.mk ?_ ?_ <;> conv => whnf) | (refine (hnp _).mono fun r w1 hr => ?_; obtain ⟨hr, hw⟩ := hr; subst hr; subst hw; conv => whnf) | (refine Quo.at (b - a) 4 (by omega) rfl (by decide) ?_; conv => whnf) | fail)
  have hof : (UInt64.ofNat (b - a)).toNat = b - a := by rw [UInt64.toNat_ofNat']; omega
  rw [show ((b : Int) - (a : Int)) = ((UInt64.ofNat (b - a)).toNat : Int) from by rw [hof]; omega] at hL
  refine V.loop (α := Nat) (fun k => [(0, .slice (some ⟨g, 0, none⟩) n cap), (1, .int .i64 (a : Int)), (6, .int .i64 ((b - a : Nat) : Int)), (7, .pointer (some ⟨t7, 0, none⟩)), (8, .int .u64 (M : Int)), (9, .int .i64 ((a + (b - a) / 4 * 2 - 1 + k : Nat) : Int))])
    (fun k w' => k ≤ 3 ∧ Sep Tryz.prog B w0 w' (Dat g cap n (brk a (b - a) M (a + (b - a) / 4 * 2 - 1) (UInt64.ofNat (b - a), d) k).2 :: .blk t7 [.int .u64 ((brk a (b - a) M (a + (b - a) / 4 * 2 - 1) (UInt64.ofNat (b - a), d) k).1.toNat : Int)] 207 :: F) ∧ B ≤ w'.heap.size) (fun k => 3 - k) 0 ⟨rfl, rfl, vint (by omega), rfl, rfl, vint (by omega), trivial⟩ ⟨by omega, hL.perm (List.Perm.swap _ _ _), hB⟩ ?_
  clear hL hB
  rintro k w ⟨hk, hL, hB⟩
  dsimp only
  by_cases h3 : k < 3
  · have hnx : brk a (b - a) M (a + (b - a) / 4 * 2 - 1) (UInt64.ofNat (b - a), d) (k + 1) = Sort.breakStep a (b - a) M (brk a (b - a) M (a + (b - a) / 4 * 2 - 1) (UInt64.ofNat (b - a), d) k) (a + (b - a) / 4 * 2 - 1 + k) := rfl
    generalize brk a (b - a) M (a + (b - a) / 4 * 2 - 1) (UInt64.ofNat (b - a), d) k = st at hL hnx
    obtain ⟨r, y⟩ := st
    dsimp only at hL
    repeat (first | (refine RunH ?_; intro w hL hB; try clear w) | (refine Both.mk ?_ ?_ <;> conv => whnf) | (refine Quo.at (b - a) 4 (by omega) rfl (by decide) ?_; conv => whnf) | fail)
    refine (xorN_fn t7 r (hL.perm (List.Perm.swap _ _ _)) hB).mono fun v w ⟨hr, hL, hB⟩ => ?_
    subst hr
    replace hL := hL.perm (List.Perm.swap _ _ _)
    unfold Sort.breakStep at hnx
    dsimp only at hnx
    generalize Sort.xorNext r = r' at *
    have hr64 := r'.toNat_lt
    have hand : r'.toNat &&& (M - 1) ≤ M - 1 := Nat.and_le_right
    conv => whnf
    repeat (first | (refine RunH ?_; intro w hL hB; try clear w) | (refine Both.mk ?_ ?_ <;> conv => whnf) | (refine Bt.and64 r'.toNat (M - 1) rfl (by omega) (by omega) (by omega) ?_; conv => whnf) | fail)
    generalize r'.toNat &&& (M - 1) = o at *
    by_cases ho : o ≥ b - a
    · rw [if_pos ho] at hnx
      repeat (first | (refine RunK ?_; intro w hL hB; try clear w) | (refine V.treeP ttOk hL 0 (.q 0 (.q 1 (.q 2 (.q 3 (.q 4 (.q 5 (.q 6 (.q 7 (.q 8 (.q 9 (.q 10 (.q 12 (.q 13 (.q 14 (.alt 11 (.alt 15 (.q 16 (.alt 17 (.q 18 (.alt 19 .nil .stop)) .stop)) .stop) (.alt 15 (.alt 11 (.q 16 (.alt 17 (.q 18 (.alt 19 .nil .stop)) .stop)) .stop) .stop)))))))))))))))) mixed (by decide +kernel) ?_; replace hL := hL.drew; conv => whnf) | (refine V.tailA ttOk mixed (by decide +kernel) ?_; replace hL := hL.drew; conv => whnf) | (refine Both.mk ?_ ?_ <;> conv => whnf) | (intro o9 ho9; first | (refine (fun (hq : a + (b - a) / 4 * 2 - 1 + k = o9) => ?_) (by omega); subst hq) | (refine (fun (hq : a + (o - (b - a)) = o9) => ?_) (by omega); subst hq) | fail; conv => whnf) | (refine Ld.dat hL 0 _ rfl (by omega) ?_; conv => whnf) | (refine St.dat hL hB 0 _ rfl (by omega) (fun w hL hB => ?_); dsimp only [List.set] at hL; conv => whnf) | (refine Lq.dat hL.cls 0 _ rfl (by omega) ?_; conv => whnf) | (refine Lq.dat (fun _ h => h) 0 _ rfl (by omega) ?_; conv => whnf) | (refine (lessQ_fn _ _ _).mono fun r w1 hr => ?_; obtain ⟨hr, hw⟩ := hr; subst hr; subst hw; conv => whnf) | fail)
      all_goals
        repeat (first | (refine RunH ?_; intro w hL hB; try clear w) | (refine Both.mk ?_ ?_ <;> conv => whnf) | (intro o9 ho9; first | (refine (fun (hq : a + (b - a) / 4 * 2 - 1 + k = o9) => ?_) (by omega); subst hq) | (refine (fun (hq : a + (o - (b - a)) = o9) => ?_) (by omega); subst hq) | fail; conv => whnf) | (refine Ld.dat hL 0 _ rfl (by omega) ?_; conv => whnf) | (refine St.dat hL hB 0 _ rfl (by omega) (fun w hL hB => ?_); dsimp only [List.set] at hL; conv => whnf) | (refine Lq.dat hL.cls 0 _ rfl (by omega) ?_; conv => whnf) | (refine Lq.dat (fun _ h => h) 0 _ rfl (by omega) ?_; conv => whnf) | (refine (lessQ_fn _ _ _).mono fun r w1 hr => ?_; obtain ⟨hr, hw⟩ := hr; subst hr; subst hw; conv => whnf) | fail)
        exact ⟨k + 1, ⟨rfl, rfl, rfl, rfl, rfl, vint (by push_cast; omega), trivial⟩, ⟨by omega, by rw [hnx]; exact hL, hB⟩, (by first | omega | (dsimp only; omega))⟩
    · rw [if_neg ho] at hnx
      repeat (first | (refine RunK ?_; intro w hL hB; try clear w) | (refine V.treeP ttOk hL 0 (.q 0 (.q 1 (.q 2 (.q 3 (.q 4 (.q 5 (.q 6 (.q 7 (.q 8 (.q 9 (.q 10 (.q 12 (.q 13 (.q 14 (.alt 11 (.alt 15 (.q 16 (.alt 17 (.q 18 (.alt 19 .nil .stop)) .stop)) .stop) (.alt 15 (.alt 11 (.q 16 (.alt 17 (.q 18 (.alt 19 .nil .stop)) .stop)) .stop) .stop)))))))))))))))) mixed (by decide +kernel) ?_; replace hL := hL.drew; conv => whnf) | (refine V.tailA ttOk mixed (by decide +kernel) ?_; replace hL := hL.drew; conv => whnf) | (refine Both.mk ?_ ?_ <;> conv => whnf) | (intro o9 ho9; first | (refine (fun (hq : a + (b - a) / 4 * 2 - 1 + k = o9) => ?_) (by omega); subst hq) | (refine (fun (hq : a + o = o9) => ?_) (by omega); subst hq) | fail; conv => whnf) | (refine Ld.dat hL 0 _ rfl (by omega) ?_; conv => whnf) | (refine St.dat hL hB 0 _ rfl (by omega) (fun w hL hB => ?_); dsimp only [List.set] at hL; conv => whnf) | (refine Lq.dat hL.cls 0 _ rfl (by omega) ?_; conv => whnf) | (refine Lq.dat (fun _ h => h) 0 _ rfl (by omega) ?_; conv => whnf) | (refine (lessQ_fn _ _ _).mono fun r w1 hr => ?_; obtain ⟨hr, hw⟩ := hr; subst hr; subst hw; conv => whnf) | fail)
      all_goals
        repeat (first | (refine RunH ?_; intro w hL hB; try clear w) | (refine Both.mk ?_ ?_ <;> conv => whnf) | (intro o9 ho9; first | (refine (fun (hq : a + (b - a) / 4 * 2 - 1 + k = o9) => ?_) (by omega); subst hq) | (refine (fun (hq : a + o = o9) => ?_) (by omega); subst hq) | fail; conv => whnf) | (refine Ld.dat hL 0 _ rfl (by omega) ?_; conv => whnf) | (refine St.dat hL hB 0 _ rfl (by omega) (fun w hL hB => ?_); dsimp only [List.set] at hL; conv => whnf) | (refine Lq.dat hL.cls 0 _ rfl (by omega) ?_; conv => whnf) | (refine Lq.dat (fun _ h => h) 0 _ rfl (by omega) ?_; conv => whnf) | (refine (lessQ_fn _ _ _).mono fun r w1 hr => ?_; obtain ⟨hr, hw⟩ := hr; subst hr; subst hw; conv => whnf) | fail)
        exact ⟨k + 1, ⟨rfl, rfl, rfl, rfl, rfl, vint (by push_cast; omega), trivial⟩, ⟨by omega, by rw [hnx]; exact hL, hB⟩, (by first | omega | (dsimp only; omega))⟩
  · obtain rfl : k = 3 := by omega
    repeat (first | (refine RunH ?_; intro w hL hB; try clear w) | (refine Both.mk ?_ ?_ <;> conv => whnf) | (refine Quo.at (b - a) 4 (by omega) rfl (by decide) ?_; conv => whnf) | fail)
    exact ⟨hL.sub (.cons_cons _ (.cons _ (.refl _))), hB⟩
end
end Go.Proofs.YtladfadcgfdbfaaGreatDoor
namespace Go.Proofs.YtladfadcgfdbfaaGreatDoor
open Go.RowKit
set_option linter.unusedVariables false
set_option linter.unusedSimpArgs false
set_option maxRecDepth 100000
def hintV : Sort.Hint → Int
  | .unknown => 0
  | .increasing => 1
  | .decreasing => 2
section
variable {B g cap n : Nat} {d : Array Nat} {w0 w : World} {F : List Res}
theorem adjacent_fn' (a p s : Nat) {A : Int} (hA : A = (a : Int)) (ha : a + 1 < n) (ha0 : 0 < a) (hn : n ≤ 2305843009213693952) (hs : s < 900) (hL : Sep Tryz.prog B w0 w (Dat g cap n d :: Cnt p s :: F)) (hB : B ≤ w.heap.size) :
    Fn Tryz.prog 187 #[.slice (some ⟨g, 0, none⟩) n cap, .int .i64 A, .pointer (some ⟨p, 0, none⟩)] w fun r w' => r = .int .i64 ((Sort.medianAdjacent ltN d a s).1 : Int) ∧ Owns B w0 w' (Dat g cap n d :: Cnt p (Sort.medianAdjacent ltN d a s).2 :: F) := by
  subst hA; exact adjacent_fn a p s ha ha0 hn hs hL hB
theorem median_fn' (a b c p s : Nat) {A A' A'' : Int} (hA : A = (a : Int)) (hA' : A' = (b : Int)) (hA'' : A'' = (c : Int)) (ha : a < n) (hb : b < n) (hc : c < n) (hn : n ≤ 2305843009213693952) (hs : s < 900) (hL : Sep Tryz.prog B w0 w (Dat g cap n d :: Cnt p s :: F)) (hB : B ≤ w.heap.size) :
    Fn Tryz.prog 188 #[.slice (some ⟨g, 0, none⟩) n cap, .int .i64 A, .int .i64 A', .int .i64 A'', .pointer (some ⟨p, 0, none⟩)] w fun r w' => r = .int .i64 ((Sort.median ltN d a b c s).1 : Int) ∧ Owns B w0 w' (Dat g cap n d :: Cnt p (Sort.median ltN d a b c s).2 :: F) := by
  subst hA; subst hA'; subst hA''; exact median_fn a b c p s ha hb hc hn hs hL hB
theorem adjacent_lt {a s : Nat} (d : Array Nat) (ha : a + 1 < n) : (Sort.medianAdjacent ltN d a s).1 < n ∧ (Sort.medianAdjacent ltN d a s).2 ≤ s + 3 := median_lt d (by omega) (by omega) ha
set_option maxHeartbeats 4000000 in
theorem choose_fn (a b : Nat) (hab : a + 12 < b) (hb : b ≤ n) (hn : n ≤ 2305843009213693951) (hL : Sep Tryz.prog B w0 w (Dat g cap n d :: F)) (hB : B ≤ w.heap.size) :
    Fn Tryz.prog 171 #[.slice (some ⟨g, 0, none⟩) n cap, .int .i64 (a : Int), .int .i64 (b : Int)] w fun r w' => r = .tuple #[.int .i64 ((Sort.choosePivot ltN d a b).1 : Int), .int .i64 (hintV (Sort.choosePivot ltN d a b).2)] ∧ Owns B w0 w' (Dat g cap n d :: F) := by
  unfold Sort.choosePivot
  dsimp only
  rw [if_pos (by omega)]
  refine Fn.mk Tryz.func171 rfl (by kernel_rfl) Tryz.ntmps171 rfl (by rw [Tryz.results171]) ?_
  repeat (first | (refine RunH ?_; intro w hL hB; try clear w) | (refine Both.mk ?_ ?_ <;> conv => whnf) | fail)
  (refine Nw.sep hL hB (fun c w hL hB hc => ?_); conv => whnf)
  replace hL := hL.perm (List.Perm.swap _ _ _)
  have hL : Sep Tryz.prog B w0 w (Dat g cap n d :: Cnt c 0 :: F) := hL
  by_cases h50 : b - a ≥ 50
  case' pos =>
    rw [if_pos h50]
    have q1 := adjacent_lt (n := n) (s := 0) (a := a + (b - a) / 4 * 1) d (by omega)
    have q2 := adjacent_lt (n := n) (s := (Sort.medianAdjacent ltN d (a + (b - a) / 4 * 1) 0).2) (a := a + (b - a) / 4 * 2) d (by omega)
    have q3 := adjacent_lt (n := n) (s := (Sort.medianAdjacent ltN d (a + (b - a) / 4 * 2) (Sort.medianAdjacent ltN d (a + (b - a) / 4 * 1) 0).2).2) (a := a + (b - a) / 4 * 3) d (by omega)
    repeat (first | (refine RunH ?_; intro w hL hB; try clear w) | (refine Both.mk ?_ ?_ <;> conv => whnf) | (refine Quo.at (b - a) 4 (by omega) rfl (by decide) ?_; conv => whnf) | fail)
    refine (adjacent_fn' (a + (b - a) / 4 * 1) c 0 (by omega) (by omega) (by omega) (by omega) (by omega) hL hB).mono fun r w ⟨hr, hL, hB⟩ => ?_
    subst hr
    conv => whnf
    repeat (first | (refine RunH ?_; intro w hL hB; try clear w) | (refine Both.mk ?_ ?_ <;> conv => whnf) | fail)
    refine (adjacent_fn' (a + (b - a) / 4 * 2) c _ (by omega) (by omega) (by omega) (by omega) (by omega) hL hB).mono fun r w ⟨hr, hL, hB⟩ => ?_
    subst hr
    conv => whnf
    repeat (first | (refine RunH ?_; intro w hL hB; try clear w) | (refine Both.mk ?_ ?_ <;> conv => whnf) | fail)
    refine (adjacent_fn' (a + (b - a) / 4 * 3) c _ (by omega) (by omega) (by omega) (by omega) (by omega) hL hB).mono fun r w ⟨hr, hL, hB⟩ => ?_
    subst hr
    generalize Sort.medianAdjacent ltN d (a + (b - a) / 4 * 1) 0 = r1 at *
    generalize Sort.medianAdjacent ltN d (a + (b - a) / 4 * 2) r1.2 = r2 at *
    generalize Sort.medianAdjacent ltN d (a + (b - a) / 4 * 3) r2.2 = r3 at *
    conv => whnf
    repeat (first | (refine RunH ?_; intro w hL hB; try clear w) | (refine Both.mk ?_ ?_ <;> conv => whnf) | fail)
    refine (median_fn' r1.1 r2.1 r3.1 c r3.2 rfl rfl rfl (by omega) (by omega) (by omega) (by omega) (by omega) hL hB).mono fun r w ⟨hr, hL, hB⟩ => ?_
    subst hr
    generalize Sort.median ltN d r1.1 r2.1 r3.1 r3.2 = z at *
  case' neg =>
    rw [if_neg h50]
    repeat (first | (refine RunH ?_; intro w hL hB; try clear w) | (refine Both.mk ?_ ?_ <;> conv => whnf) | (refine Quo.at (b - a) 4 (by omega) rfl (by decide) ?_; conv => whnf) | fail)
    refine (median_fn' (a + (b - a) / 4 * 1) (a + (b - a) / 4 * 2) (a + (b - a) / 4 * 3) c 0 (by omega) (by omega) (by omega) (by omega) (by omega) (by omega) (by omega) (by omega) hL hB).mono fun r w ⟨hr, hL, hB⟩ => ?_
    subst hr
    generalize Sort.median ltN d (a + (b - a) / 4 * 1) (a + (b - a) / 4 * 2) (a + (b - a) / 4 * 3) 0 = z at *
  all_goals
    obtain ⟨p, s⟩ := z
    dsimp only at hL ⊢
    unfold Cnt at hL
    by_cases h0 : s = 0
    · rw [if_pos h0]
      conv => whnf
      repeat (first | (refine RunH ?_; intro w hL hB; try clear w) | (refine Both.mk ?_ ?_ <;> conv => whnf) | fail)
      exact ⟨rfl, hL.sub (.cons_cons _ (.cons _ (.refl _))), hB⟩
    by_cases h12 : s = 12
    · rw [if_neg h0, if_pos h12]
      conv => whnf
      repeat (first | (refine RunH ?_; intro w hL hB; try clear w) | (refine Both.mk ?_ ?_ <;> conv => whnf) | fail)
      exact ⟨rfl, hL.sub (.cons_cons _ (.cons _ (.refl _))), hB⟩
    · rw [if_neg h0, if_neg h12]
      conv => whnf
      repeat (first | (refine RunH ?_; intro w hL hB; try clear w) | (refine Both.mk ?_ ?_ <;> conv => whnf) | fail)
      exact ⟨rfl, hL.sub (.cons_cons _ (.cons _ (.refl _))), hB⟩
end
end Go.Proofs.YtladfadcgfdbfaaGreatDoor
