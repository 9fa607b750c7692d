/- slices.Sort at []uint64: the parts. slices.insertionSortOrdered[uint64]. Nothing is claimed here. -/
import Derived.Test.YtladfadcgfdbfaaGreatDoorD03
import Derived.Sort.AssemblyPlain
namespace Go.Proofs.YtladfadcgfdbfaaGreatDoor
open Go.RowKit
set_option linter.unusedVariables false
set_option linter.unusedSimpArgs false
set_option maxRecDepth 100000
def q64 (k : Nat) : Value := .int .u64 (k : Int)
def ltN (x y : Nat) : Bool := decide (x < y)
/-- a slice of numbers that is sorted -/
def Dat (g cap n : Nat) (d : Array Nat) : Res := .row 38 1 (.slice (some ⟨g, 0, none⟩) n cap) n (d.toList.map q64)
theorem splice_one {xs : List Value} {k : Nat} {v : Value} (h : k < xs.length) : splice xs k [v] = xs.set k v := by
  rw [splice_eq _ _ _ (by simp; omega), List.set_eq_take_append_cons_drop, if_pos h]
  simp
/-- what a call owns behind it -/
structure Owns (B : Nat) (w0 w : World) (L : List Res) : Prop where
  sep : Sep Tryz.prog B w0 w L
  le : B ≤ w.heap.size
section
variable {B g cap n : Nat} {d : Array Nat} {w0 w : World} {L F : List Res}
theorem datRow (h : Sep Tryz.prog B w0 w L) (i : Nat) (hi : L[i]? = some (Dat g cap n d)) (h0 : 0 < n) : Row w g 0 (d.toList.map q64) := by
  have h1 : Sl w (.slice (some ⟨g, 0, none⟩) n cap) (d.toList.map q64) := h.row hi
  obtain ⟨b, o, he, hr⟩ := h1.addr h0
  cases he
  exact hr
theorem datLen (h : Sep Tryz.prog B w0 w L) (i : Nat) (hi : L[i]? = some (Dat g cap n d)) : d.size = n := by
  have h1 : Sl w (.slice (some ⟨g, 0, none⟩) n cap) (d.toList.map q64) := h.row hi
  obtain ⟨a, c, he⟩ := h1.shape
  injection he with e1 e2
  simpa using e2.symm
theorem get_q {k : Nat} (h : k < d.size) : (d.toList.map q64)[k]? = some (q64 d[k]!) := by
  rw [List.getElem?_map, Array.getElem?_toList, Array.getElem?_eq_getElem h, getElem!_pos d k h]
  rfl
theorem Ld.dat (hL : Sep Tryz.prog B w0 w L) (i k : Nat) {K : Value → Prop} (hi : L[i]? = some (Dat g cap n d)) (hk : k < n) (h : K (q64 d[k]!)) : Ld Tryz.prog w 38 ⟨g, k, none⟩ K :=
  Ld.row1 ttOk (datRow hL i hi (by omega)) (k := k) tl38 rfl (get_q (by rw [datLen hL i hi]; exact hk)) (by omega) h
theorem Lq.dat {C : World → Prop} (hc : ∀ x, C x → Sep Tryz.prog B w0 x L) (i k : Nat) {K : Value → Prop} (hi : L[i]? = some (Dat g cap n d)) (hk : k < n) (h : K (q64 d[k]!)) : Lq Tryz.prog C 38 ⟨g, k, none⟩ K :=
  Lq.of_class (fun x hx => Ld.dat (hc x hx) i k hi hk rfl) h
theorem St.dat (hL : Sep Tryz.prog B w0 w L) (hB : B ≤ w.heap.size) (i k : Nat) {x : Nat} {K : World → Prop} (hi : L[i]? = some (Dat g cap n d)) (hk : k < n) (h : ∀ w, Sep Tryz.prog B w0 w (L.set i (Dat g cap n (d.setIfInBounds k x))) → B ≤ w.heap.size → K w) : St Tryz.prog w 38 ⟨g, k, none⟩ (q64 x) K := by
  have hl := datLen hL i hi
  refine St.rowS ttOk hL i tl38 rfl rfl hi (by simp; show k + 1 ≤ _; omega) hB fun w' h1 hB' => h w' ?_ hB'
  have e : splice (d.toList.map q64) k (cellsL (q64 x)) = (d.setIfInBounds k x).toList.map q64 := by
    rw [Array.toList_setIfInBounds, List.map_set]
    exact splice_one (by simp; omega)
  rw [e] at h1
  exact h1
end
theorem isNaNQ_fn (x : Nat) (w : World) : Fn Tryz.prog 77 #[q64 x] w fun r w' => r = .bool false ∧ w' = w := by
  have hL := Sep.start Tryz.prog w
  have hB := Nat.le_refl w.heap.size
  unfold q64
  refine Fn.mk Tryz.func77 rfl (by kernel_rfl) Tryz.ntmps77 rfl (by rw [Tryz.results77]) ?_
  repeat (first | (refine RunH ?_; intro w hL hB; try clear w) | (refine Both.mk ?_ ?_ <;> conv => whnf) | fail)
  exact ⟨by simp, rfl⟩
theorem lessQ_fn (x y : Nat) (w : World) : Fn Tryz.prog 174 #[q64 x, q64 y] w fun r w' => r = .bool (ltN x y) ∧ w' = w := by
  have hL := Sep.start Tryz.prog w
  have hB := Nat.le_refl w.heap.size
  have h1 := isNaNQ_fn x
  unfold q64 at *
  refine Fn.mk Tryz.func174 rfl (by kernel_rfl) Tryz.ntmps174 rfl (by rw [Tryz.results174]) ?_
  repeat (first | (refine RunH ?_; intro w hL hB; try clear w) | (refine Both.mk ?_ ?_ <;> conv => whnf) | (refine (h1 _).mono fun r w1 hr => ?_; obtain ⟨hr, hw⟩ := hr; subst hr; subst hw; conv => whnf) | fail)
  exact ⟨by simp [ltN], rfl⟩
end Go.Proofs.YtladfadcgfdbfaaGreatDoor
namespace Go.Proofs.YtladfadcgfdbfaaGreatDoor
open Go.RowKit
set_option linter.unusedVariables false
set_option linter.unusedSimpArgs false
set_option maxRecDepth 100000
section
variable {B g cap n : Nat} {d : Array Nat} {w0 w : World} {F : List Res}
set_option maxHeartbeats 2000000 in
theorem ins_fn (a b : Nat) (hab : a ≤ b) (hb : b ≤ n) (hn : n ≤ 4611686018427387904) (hL : Sep Tryz.prog B w0 w (Dat g cap n d :: F)) (hB : B ≤ w.heap.size) :
    Fn Tryz.prog 168 #[.slice (some ⟨g, 0, none⟩) n cap, .int .i64 (a : Int), .int .i64 (b : Int)] w fun r w' => Owns B w0 w' (Dat g cap n (Sort.insertionSort ltN d a b) :: F) := by
  unfold Sort.insertionSort
  refine Fn.mk Tryz.func168 rfl (by kernel_rfl) Tryz.ntmps168 rfl (by rw [Tryz.results168]) ?_
  repeat (first | (refine RunH ?_; intro w hL hB; try clear w) | (refine Both.mk ?_ ?_ <;> conv => whnf) | fail)
  refine V.loop (α := Nat × Array Nat) (fun z => [(0, .slice (some ⟨g, 0, none⟩) n cap), (1, .int .i64 (a : Int)), (2, .int .i64 (b : Int)), (6, .int .i64 (z.1 : Int))])
    (fun z w' => a + 1 ≤ z.1 ∧ (z.1 ≤ b ∨ z.1 = a + 1) ∧ Sort.insOuter ltN a b z.1 z.2 = Sort.insOuter ltN a b (a + 1) d ∧ Sep Tryz.prog B w0 w' (Dat g cap n z.2 :: F) ∧ B ≤ w'.heap.size) (fun z => b + 1 - z.1) (a + 1, d) ⟨rfl, rfl, rfl, vint (by push_cast; omega), trivial⟩ ⟨Nat.le_refl _, .inr rfl, rfl, hL, hB⟩ ?_
  clear hL hB
  rintro ⟨i, e⟩ w ⟨hi, hi2, he, hL, hB⟩
  dsimp only at hi hi2 he hL ⊢
  rw [Sort.insOuter] at he
  by_cases hlt : i < b
  · rw [if_pos hlt] at he
    repeat (first | (refine RunH ?_; intro w hL hB; try clear w) | (refine Both.mk ?_ ?_ <;> conv => whnf) | fail)
    refine V.loop (α := Nat × Array Nat) (fun z => [(0, .slice (some ⟨g, 0, none⟩) n cap), (1, .int .i64 (a : Int)), (2, .int .i64 (b : Int)), (6, .int .i64 (i : Int)), (7, .int .i64 (z.1 : Int))])
      (fun z w' => z.1 ≤ i ∧ Sort.insInner ltN a z.1 z.2 = Sort.insInner ltN a i e ∧ Sep Tryz.prog B w0 w' (Dat g cap n z.2 :: F) ∧ B ≤ w'.heap.size) (fun z => z.1) (i, e) ⟨rfl, rfl, rfl, rfl, rfl, trivial⟩ ⟨Nat.le_refl _, rfl, hL, hB⟩ ?_
    clear hL hB
    rintro ⟨j, x⟩ w ⟨hj, hx, hL, hB⟩
    dsimp only at hj hx hL ⊢
    by_cases hja : a < j
    · obtain ⟨j, rfl⟩ : ∃ k, j = k + 1 := ⟨j - 1, by omega⟩
      rw [Sort.insInner] at hx
      repeat (first | (refine RunK ?_; intro w hL hB; try clear w) | (refine V.treeA ttOk hL (.q 0 (.q 1 (.q 2 (.q 3 (.q 4 (.q 5 (.q 6 (.q 7 (.q 8 (.q 9 (.q 10 (.q 11 (.q 12 (.alt 13 (.q 14 .nil) .stop)))))))))))))) mixed (by decide +kernel) ?_; replace hL := hL.drew; conv => whnf) | (refine V.tailA ttOk mixed (by decide +kernel) ?_; replace hL := hL.drew; conv => whnf) | (refine Both.mk ?_ ?_ <;> conv => whnf) | (intro o9 ho9; first | (refine (fun (hq : j + 1 = o9) => ?_) (by omega); subst hq) | (refine (fun (hq : j = o9) => ?_) (by omega); subst hq) | fail; conv => whnf) | (refine Ld.dat hL 0 _ rfl (by omega) ?_; conv => whnf) | (refine St.dat hL hB 0 _ rfl (by omega) (fun w hL hB => ?_); dsimp only [List.set] at hL; conv => whnf) | (refine Lq.dat hL.cls 0 _ rfl (by omega) ?_; conv => whnf) | (refine Lq.dat (fun _ h => h) 0 _ rfl (by omega) ?_; conv => whnf) | (refine (lessQ_fn _ _ _).mono fun r w1 hr => ?_; obtain ⟨hr, hw⟩ := hr; subst hr; subst hw; conv => whnf) | fail)
      by_cases hc : ltN x[j + 1]! x[j]! = true
      · rw [hc] at hx ⊢
        rw [if_pos (by simp; omega)] at hx
        repeat (first | (refine RunK ?_; intro w hL hB; try clear w) | (refine V.treeP ttOk hL 0 (.q 0 (.q 1 (.q 2 (.q 3 (.q 4 (.q 5 (.q 6 (.q 7 (.q 8 (.q 10 (.q 11 (.q 12 (.alt 9 (.alt 13 (.q 14 (.alt 15 (.q 16 (.alt 17 .nil .stop)) .stop)) .stop) (.alt 13 (.alt 9 (.q 14 (.alt 15 (.q 16 (.alt 17 .nil .stop)) .stop)) .stop) .stop)))))))))))))) mixed (by decide +kernel) ?_; replace hL := hL.drew; conv => whnf) | (refine V.tailA ttOk mixed (by decide +kernel) ?_; replace hL := hL.drew; conv => whnf) | (refine Both.mk ?_ ?_ <;> conv => whnf) | (intro o9 ho9; first | (refine (fun (hq : j + 1 = o9) => ?_) (by omega); subst hq) | (refine (fun (hq : j = o9) => ?_) (by omega); subst hq) | fail; conv => whnf) | (refine Ld.dat hL 0 _ rfl (by omega) ?_; conv => whnf) | (refine St.dat hL hB 0 _ rfl (by omega) (fun w hL hB => ?_); dsimp only [List.set] at hL; conv => whnf) | (refine Lq.dat hL.cls 0 _ rfl (by omega) ?_; conv => whnf) | (refine Lq.dat (fun _ h => h) 0 _ rfl (by omega) ?_; conv => whnf) | (refine (lessQ_fn _ _ _).mono fun r w1 hr => ?_; obtain ⟨hr, hw⟩ := hr; subst hr; subst hw; conv => whnf) | fail)
        all_goals
          repeat (first | (refine RunH ?_; intro w hL hB; try clear w) | (refine Both.mk ?_ ?_ <;> conv => whnf) | (intro o9 ho9; first | (refine (fun (hq : j + 1 = o9) => ?_) (by omega); subst hq) | (refine (fun (hq : j = o9) => ?_) (by omega); subst hq) | fail; conv => whnf) | (refine Ld.dat hL 0 _ rfl (by omega) ?_; conv => whnf) | (refine St.dat hL hB 0 _ rfl (by omega) (fun w hL hB => ?_); dsimp only [List.set] at hL; conv => whnf) | (refine Lq.dat hL.cls 0 _ rfl (by omega) ?_; conv => whnf) | (refine Lq.dat (fun _ h => h) 0 _ rfl (by omega) ?_; conv => whnf) | (refine (lessQ_fn _ _ _).mono fun r w1 hr => ?_; obtain ⟨hr, hw⟩ := hr; subst hr; subst hw; conv => whnf) | fail)
          exact ⟨(j, Sort.swp x (j + 1) j), ⟨rfl, rfl, rfl, rfl, vint (by push_cast; omega), trivial⟩, ⟨by dsimp only; omega, hx, hL, hB⟩, (by first | omega | (dsimp only; omega))⟩
      · obtain hc : ltN x[j + 1]! x[j]! = false := by simpa using hc
        rw [hc] at hx ⊢
        rw [if_neg (by simp)] at hx
        repeat (first | (refine RunH ?_; intro w hL hB; try clear w) | (refine Both.mk ?_ ?_ <;> conv => whnf) | fail)
        subst hx
        exact ⟨(i + 1, _), ⟨rfl, rfl, rfl, vint (by push_cast; omega), trivial⟩, ⟨by dsimp only; omega, by dsimp only; omega, he, hL, hB⟩, (by first | omega | (dsimp only; omega))⟩
    · have hx' : Sort.insInner ltN a j x = x := by
        cases j with
        | zero => rfl
        | succ j => rw [Sort.insInner, if_neg (by simp; omega)]
      rw [hx'] at hx
      repeat (first | (refine RunK ?_; intro w hL hB; try clear w) | (refine V.treeA ttOk hL (.q 0 (.q 1 (.q 2 (.q 3 (.q 4 (.q 5 (.q 6 (.q 7 (.q 8 (.q 9 (.q 10 (.q 11 (.q 12 (.alt 13 (.q 14 .nil) .stop)))))))))))))) mixed (by decide +kernel) ?_; replace hL := hL.drew; conv => whnf) | (refine V.tailA ttOk mixed (by decide +kernel) ?_; replace hL := hL.drew; conv => whnf) | (refine Both.mk ?_ ?_ <;> conv => whnf) | fail)
      subst hx
      exact ⟨(i + 1, _), ⟨rfl, rfl, rfl, vint (by push_cast; omega), trivial⟩, ⟨by dsimp only; omega, by dsimp only; omega, he, hL, hB⟩, (by first | omega | (dsimp only; omega))⟩
  · rw [if_neg hlt] at he
    subst he
    repeat (first | (refine RunH ?_; intro w hL hB; try clear w) | (refine Both.mk ?_ ?_ <;> conv => whnf) | fail)
    exact ⟨hL, hB⟩
end
end Go.Proofs.YtladfadcgfdbfaaGreatDoor
