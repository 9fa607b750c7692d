/- Rows of slices in their order: one is lost, or one place of one. Rows that change places ahead of a step; bytes of the whole, one by one: plain. Nothing is claimed here. -/
import Derived.Test.YtlldgodjfpgbcaaDoorK23
namespace Go.Proofs.YtlldgodjfpgbcaaDoor
open Go.RowKit
set_option linter.unusedVariables false
set_option linter.unusedSimpArgs false
set_option maxRecDepth 100000

theorem set_perm' {α : Type} : ∀ (l : List α) (j : Nat) (x : α), j < l.length → (x :: l.eraseIdx j).Perm (l.set j x)
  | [], j, x, h => by simp at h
  | a :: l, 0, x, _ => by simp
  | a :: l, j + 1, x, h => by
    simp only [List.eraseIdx_cons_succ, List.set_cons_succ]
    exact (List.Perm.swap _ _ _).trans ((set_perm' l j x (by simpa using h)).cons _)
theorem Sep.nilAt {P : Program} {B : Nat} {w0 w : World} {R : Res} {us : List Value} {ps : List (List (List UInt8) × List Value)} {j : Nat} (h : Sep P B w0 w (R :: List.zipWith xR us ps)) (hj : j < us.length) (hl : us.length = ps.length) :
    Sep P B w0 w (R :: List.zipWith xR (us.set j (.slice none 0 0)) (ps.set j ([], []))) := by
  rw [← zipWith_set']
  refine ((h.pop (j + 1)).nilRow 22 1).perm ?_
  rw [List.eraseIdx_cons_succ]
  refine (List.Perm.swap _ _ _).trans (List.Perm.cons _ ?_)
  exact set_perm' _ j _ (by rw [List.length_zipWith]; omega)
theorem InsP.nil {w1 : World} {us : List Value} {ps : List (List (List UInt8) × List Value)} {lss : List (List (List UInt8))} (h : InsP w1 us ps lss) (j : Nat) : InsP w1 (us.set j (.slice none 0 0)) (ps.set j ([], [])) (lss.set j []) := by
  refine ⟨by simp [h.len], by rw [List.map_set, h.map], fun p hp => ?_⟩
  rcases List.mem_or_eq_of_mem_set hp with h9 | h9
  · exact h.ins p h9
  · rw [h9]; exact Ins.nil w1
theorem InsP.one {w1 : World} {us : List Value} {ps : List (List (List UInt8) × List Value)} {lss : List (List (List UInt8))} (h : InsP w1 us ps lss) {j : Nat} {p : List (List UInt8) × List Value} (hp : ps[j]? = some p) (r : Nat) :
    InsP w1 us (ps.set j (p.1.set r [], p.2.set r (.slice none 0 0))) (lss.set j ((rw3 lss j).set r [])) := by
  have hj := (List.getElem?_eq_some_iff.1 hp).1
  have e : rw3 lss j = p.1 := by
    unfold rw3
    rw [← h.map]
    exact getD_get (by rw [List.getElem?_map, hp]; rfl)
  refine ⟨by rw [List.length_set, h.len], by rw [List.map_set, h.map, e], fun q hq => ?_⟩
  rcases List.mem_or_eq_of_mem_set hq with h9 | h9
  · exact h.ins q h9
  · rw [h9]
    exact (h.ins p (List.mem_of_getElem? hp)).set r (Sl.nil w1)
theorem zip_one {us : List Value} {ps : List (List (List UInt8) × List Value)} {j : Nat} {u : Value} {p : List (List UInt8) × List Value} (hu : us[j]? = some u) (r : Nat) :
    (List.zipWith xR us ps).set j (.row 22 1 u p.1.length (p.2.set r (.slice none 0 0))) = List.zipWith xR us (ps.set j (p.1.set r [], p.2.set r (.slice none 0 0))) := by
  have e : xR u (p.1.set r [], p.2.set r (.slice none 0 0)) = .row 22 1 u p.1.length (p.2.set r (.slice none 0 0)) := by unfold xR; rw [List.length_set]
  rw [← e, zipWith_set']
  congr 1
  obtain ⟨h1, rfl⟩ := List.getElem?_eq_some_iff.1 hu
  exact List.set_getElem_self h1
/-- Part of no bytes -/
theorem part_zero (v : Value) (ls : List (List (List UInt8))) (k m size at_ : Nat) (hg : goodP ls k m size) (hsz : size ≤ 1000000) (hfit : at_ ≤ size) (w0 : World) (hs : S3 w0 v ls) :
    Fn Tryd.prog 9 #[v, .int .i64 (k : Int), .int .i64 (m : Int), .int .i64 (size : Int), .int .i64 (at_ : Int), .int .i64 0] w0 fun r w' => r = .tuple #[.slice none 0 0, .int .i64 0] ∧ Below w0.heap.size w0 w' := by
  have hG := good_fn v ls k m size ⟨by omega, by have := hg.1; unfold codeOk at this; omega⟩ ⟨by omega, by have := hg.1; unfold codeOk at this; omega⟩ (by omega) w0 hs
  rw [decide_eq_true hg] at hG
  refine Fn.mk Tryd.func9 rfl (by kernel_rfl) Tryd.ntmps9 rfl (by rw [Tryd.results9]) ?_
  refine RunR ?_
  refine hG.mono fun r w ⟨hr', hbl⟩ => ?_
  subst hr'
  conv => whnf
  refine RunR ?_
  exact ⟨rfl, hbl⟩
end Go.Proofs.YtlldgodjfpgbcaaDoor
namespace Go.Proofs.YtlldgodjfpgbcaaDoor
set_option linter.unusedVariables false
set_option linter.unusedSimpArgs false
set_option maxRecDepth 100000

def swapR (rows : List (List UInt8)) (p q : Nat) : List (List UInt8) := (rows.set p (rw_ rows q)).set q (rw_ rows p)
theorem swapR_len (rows : List (List UInt8)) (p q : Nat) : (swapR rows p q).length = rows.length := by simp [swapR]
theorem swapR_rw {rows : List (List UInt8)} {p q i : Nat} (hp : p < rows.length) (hq : q < rows.length) : rw_ (swapR rows p q) i = if i = q then rw_ rows p else if i = p then rw_ rows q else rw_ rows i := by
  unfold swapR
  rw [rw_set (by rw [List.length_set]; exact hq), rw_set hp]
theorem GInv.swap {n : Nat} {A rows : List (List UInt8)} {j p q : Nat} {tk : List Nat} (h : GInv n A j rows tk) (hp : p < n) (hq : q < n) (hpt : p ∉ tk) (hqt : q ∉ tk) : GInv n A j (swapR rows p q) tk := by
  have hr : ∀ i, rw_ (swapR rows p q) i = if i = q then rw_ rows p else if i = p then rw_ rows q else rw_ rows i := fun i => swapR_rw (by rw [h.len]; exact hp) (by rw [h.len]; exact hq)
  have hsol : ∀ z, Sol n (swapR rows p q) z ↔ Sol n rows z := fun z => by
    constructor
    · intro hs i hi
      by_cases h1 : i = p
      · have := hs q hq
        rw [hr, if_pos rfl] at this
        rw [h1]; exact this
      · by_cases h2 : i = q
        · have := hs p hp
          rw [hr, if_neg (fun e => h1 (h2.trans e.symm)), if_pos rfl] at this
          rw [h2]; exact this
        · have := hs i hi
          rwa [hr, if_neg h2, if_neg h1] at this
    · intro hs i hi
      rw [hr]
      split
      · exact hs p hp
      · split
        · exact hs q hq
        · exact hs i hi
  refine ⟨by rw [swapR_len, h.len], fun i hi => ?_, h.cnt, h.nd, h.lt, fun x y hx hy => (hsol _).trans (h.sol x y hx hy), fun c hc i hi => ?_⟩
  · rw [hr]
    split
    · exact h.row p hp
    · split
      · exact h.row q hq
      · exact h.row i hi
  · have hnp : tk[c]? ≠ some p := fun e => hpt (List.mem_of_getElem? e)
    have hnq : tk[c]? ≠ some q := fun e => hqt (List.mem_of_getElem? e)
    rw [hr]
    split
    · rename_i e; subst e
      rw [h.one c hc p hp, if_neg hnp, if_neg hnq]
    · split
      · rename_i e; subst e
        rw [h.one c hc q hq, if_neg hnp, if_neg hnq]
      · exact h.one c hc i hi
/-- rows taken in their order -/
theorem GInv.pickR {n : Nat} {A rows : List (List UInt8)} {j : Nat} (h : GInv n A j rows (List.range j)) (hA : Inj n A) (hj : j < n) : ∃ p, j ≤ p ∧ p < n ∧ (rw_ rows p).getD j 0 ≠ 0 := by
  obtain ⟨p, h1, h2, h3⟩ := h.pick hA hj
  exact ⟨p, by simpa using h2, h1, h3⟩
theorem GInv.stepR {n : Nat} {A rows rows' : List (List UInt8)} {j p : Nat} (h : GInv n A j rows (List.range j)) (hjp : j ≤ p) (hp : p < n) (hne : (rw_ rows p).getD j 0 ≠ 0)
    (hl : rows'.length = n) (hr : ∀ i, i < n → rw_ rows' i = elimR (swapR rows p j) j j i) : GInv n A (j + 1) rows' (List.range (j + 1)) := by
  have hs := h.swap hp (show j < n by omega) (by simp; omega) (by simp)
  rw [List.range_succ]
  refine hs.step (p := j) (by omega) (by simp) ?_ hl hr
  rw [swapR_rw (by rw [h.len]; exact hp) (by rw [h.len]; omega), if_pos rfl]
  exact hne

/-! ### bytes of the whole -/
noncomputable def byteJ (ls : List (List (List UInt8))) (k m x : Nat) : UInt8 := (rowJ ls k m (x / 16)).getD (x % 16) 0
theorem dataJ_len {ls : List (List (List UInt8))} {k m a : Nat} : ∀ c, (∀ i, i < c → (rowJ ls k m (a + i)).length = 16) → (dataJ ls k m a c).length = 16 * c
  | 0, _ => rfl
  | c + 1, h => by
    rw [dataJ_succ, List.length_append, dataJ_len c (fun i hi => h i (by omega)), h c (by omega)]
    omega
theorem dataJ_get {ls : List (List (List UInt8))} {k m a : Nat} : ∀ c, (∀ i, i < c → (rowJ ls k m (a + i)).length = 16) → ∀ t, t < 16 * c → (dataJ ls k m a c).getD t 0 = byteJ ls k m (16 * a + t)
  | 0, _, t, ht => by omega
  | c + 1, h, t, ht => by
    have hl := dataJ_len (ls := ls) (k := k) (m := m) (a := a) c (fun i hi => h i (by omega))
    rw [dataJ_succ]
    by_cases h1 : t < 16 * c
    · rw [← dataJ_get c (fun i hi => h i (by omega)) t h1]
      simp only [List.getD]
      rw [List.getElem?_append_left (by omega)]
    · simp only [List.getD]
      rw [List.getElem?_append_right (by omega), hl]
      unfold byteJ
      rw [show (16 * a + t) / 16 = a + c by omega, show (16 * a + t) % 16 = t - 16 * c by omega]
      rfl
theorem list_mapR {l : List UInt8} {n : Nat} {f : Nat → UInt8} (hl : l.length = n) (h : ∀ t, t < n → l.getD t 0 = f t) : l = (List.range n).map f := by
  refine list_ext_getD hl (by simp) fun t ht => ?_
  rw [h t ht]
  simp [List.getD, ht]
theorem getD_cut (l : List UInt8) (i n t : Nat) (h : t < n) : ((l.drop i).take n).getD t 0 = l.getD (i + t) 0 := by
  simp only [List.getD, List.getElem?_take, List.getElem?_drop]
  rw [if_pos h]
theorem part_bytes {ls : List (List (List UInt8))} {k m at_ n : Nat} (hn : 1 ≤ n) (h : ∀ i, i < (at_ + n - 1) / 16 - at_ / 16 + 1 → (rowJ ls k m (at_ / 16 + i)).length = 16) :
    ((dataJ ls k m (at_ / 16) ((at_ + n - 1) / 16 - at_ / 16 + 1)).drop (at_ % 16)).take n = (List.range n).map fun i => byteJ ls k m (at_ + i) := by
  have hl := dataJ_len _ h
  have hg := dataJ_get _ h
  generalize hc : (at_ + n - 1) / 16 - at_ / 16 + 1 = c at *
  refine list_mapR (by rw [List.length_take, List.length_drop, hl]; omega) fun t ht => ?_
  rw [getD_cut _ _ _ _ ht, hg _ (by omega)]
  congr 1
  omega
/-- some bytes of one row, behind those ahead of them -/
theorem bytes_more {ls : List (List (List UInt8))} {k m at_ s c : Nat} (hr : (rowJ ls k m ((at_ + s) / 16)).length = 16) (hc : (at_ + s) % 16 + c ≤ 16) :
    ((List.range s).map fun i => byteJ ls k m (at_ + i)) ++ ((rowJ ls k m ((at_ + s) / 16)).drop ((at_ + s) % 16)).take c = (List.range (s + c)).map fun i => byteJ ls k m (at_ + i) := by
  refine list_mapR (by simp [hr]; omega) fun t ht => ?_
  by_cases h1 : t < s
  · simp [List.getD, List.getElem?_append, h1]
  · simp only [List.getD]
    rw [List.getElem?_append_right (by simp; omega)]
    have := getD_cut (rowJ ls k m ((at_ + s) / 16)) ((at_ + s) % 16) c (t - s) (by omega)
    simp only [List.getD] at this
    rw [List.length_map, List.length_range, this]
    unfold byteJ
    rw [show (at_ + t) / 16 = (at_ + s) / 16 by omega, show (at_ + t) % 16 = (at_ + s) % 16 + (t - s) by omega]
    rfl
end Go.Proofs.YtlldgodjfpgbcaaDoor
