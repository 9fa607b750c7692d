/- Rows of slices in their order: one is lost, or one place of one. Nothing is claimed here. -/
import Derived.Test.YtlldgodjfpgbcaaDoorGr
namespace Go.Proofs.YtlldgodjfpgbcaaDoor
open Go.RowKit
set_option linter.unusedVariables false
set_option linter.unusedSimpArgs false
set_option maxRecDepth 100000

theorem set_perm' {α : Type} : ∀ (l : List α) (j : Nat) (x : α), j < l.length → (x :: l.eraseIdx j).Perm (l.set j x)
  | [], j, x, h => by simp at h
  | a :: l, 0, x, _ => by simp
  | a :: l, j + 1, x, h => by
    simp only [List.eraseIdx_cons_succ, List.set_cons_succ]
    exact (List.Perm.swap _ _ _).trans ((set_perm' l j x (by simpa using h)).cons _)
theorem Sep.nilAt {P : Program} {B : Nat} {w0 w : World} {R : Res} {us : List Value} {ps : List (List (List UInt8) × List Value)} {j : Nat} (h : Sep P B w0 w (R :: List.zipWith xR us ps)) (hj : j < us.length) (hl : us.length = ps.length) :
    Sep P B w0 w (R :: List.zipWith xR (us.set j (.slice none 0 0)) (ps.set j ([], []))) := by
  rw [← zipWith_set']
  refine ((h.pop (j + 1)).nilRow 22 1).perm ?_
  rw [List.eraseIdx_cons_succ]
  refine (List.Perm.swap _ _ _).trans (List.Perm.cons _ ?_)
  exact set_perm' _ j _ (by rw [List.length_zipWith]; omega)
theorem InsP.nil {w1 : World} {us : List Value} {ps : List (List (List UInt8) × List Value)} {lss : List (List (List UInt8))} (h : InsP w1 us ps lss) (j : Nat) : InsP w1 (us.set j (.slice none 0 0)) (ps.set j ([], [])) (lss.set j []) := by
  refine ⟨by simp [h.len], by rw [List.map_set, h.map], fun p hp => ?_⟩
  rcases List.mem_or_eq_of_mem_set hp with h9 | h9
  · exact h.ins p h9
  · rw [h9]; exact Ins.nil w1
theorem InsP.one {w1 : World} {us : List Value} {ps : List (List (List UInt8) × List Value)} {lss : List (List (List UInt8))} (h : InsP w1 us ps lss) {j : Nat} {p : List (List UInt8) × List Value} (hp : ps[j]? = some p) (r : Nat) :
    InsP w1 us (ps.set j (p.1.set r [], p.2.set r (.slice none 0 0))) (lss.set j ((rw3 lss j).set r [])) := by
  have hj := (List.getElem?_eq_some_iff.1 hp).1
  have e : rw3 lss j = p.1 := by
    unfold rw3
    rw [← h.map]
    exact getD_get (by rw [List.getElem?_map, hp]; rfl)
  refine ⟨by rw [List.length_set, h.len], by rw [List.map_set, h.map, e], fun q hq => ?_⟩
  rcases List.mem_or_eq_of_mem_set hq with h9 | h9
  · exact h.ins q h9
  · rw [h9]
    exact (h.ins p (List.mem_of_getElem? hp)).set r (Sl.nil w1)
theorem zip_one {us : List Value} {ps : List (List (List UInt8) × List Value)} {j : Nat} {u : Value} {p : List (List UInt8) × List Value} (hu : us[j]? = some u) (r : Nat) :
    (List.zipWith xR us ps).set j (.row 22 1 u p.1.length (p.2.set r (.slice none 0 0))) = List.zipWith xR us (ps.set j (p.1.set r [], p.2.set r (.slice none 0 0))) := by
  have e : xR u (p.1.set r [], p.2.set r (.slice none 0 0)) = .row 22 1 u p.1.length (p.2.set r (.slice none 0 0)) := by unfold xR; rw [List.length_set]
  rw [← e, zipWith_set']
  congr 1
  obtain ⟨h1, rfl⟩ := List.getElem?_eq_some_iff.1 hu
  exact List.set_getElem_self h1
/-- Part of no bytes -/
theorem part_zero (v : Value) (ls : List (List (List UInt8))) (k m size at_ : Nat) (hg : goodP ls k m size) (hsz : size ≤ 1000000) (hfit : at_ ≤ size) (w0 : World) (hs : S3 w0 v ls) :
    Fn Tryd.prog 9 #[v, .int .i64 (k : Int), .int .i64 (m : Int), .int .i64 (size : Int), .int .i64 (at_ : Int), .int .i64 0] w0 fun r w' => r = .tuple #[.slice none 0 0, .int .i64 0] ∧ Below w0.heap.size w0 w' := by
  have hG := good_fn v ls k m size ⟨by omega, by have := hg.1; unfold codeOk at this; omega⟩ ⟨by omega, by have := hg.1; unfold codeOk at this; omega⟩ (by omega) w0 hs
  rw [decide_eq_true hg] at hG
  refine Fn.mk Tryd.func9 rfl (by kernel_rfl) Tryd.ntmps9 rfl (by rw [Tryd.results9]) ?_
  refine RunR ?_
  refine hG.mono fun r w ⟨hr', hbl⟩ => ?_
  subst hr'
  conv => whnf
  refine RunR ?_
  exact ⟨rfl, hbl⟩
end Go.Proofs.YtlldgodjfpgbcaaDoor
