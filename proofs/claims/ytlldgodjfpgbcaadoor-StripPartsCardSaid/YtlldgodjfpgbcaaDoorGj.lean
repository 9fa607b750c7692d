/- strip.Mend. Nothing is claimed here. -/
import Derived.Test.YtlldgodjfpgbcaaDoorGi
namespace Go.Proofs.YtlldgodjfpgbcaaDoor
open Go.RowKit
set_option linter.unusedVariables false
set_option linter.unusedSimpArgs false
set_option maxRecDepth 100000

noncomputable def mendV (k m : Nat) (rows : List (List UInt8)) : List (List UInt8) := Classical.epsilon (MendR k m 16 rows)
theorem MendR.val {k m : Nat} {rows out : List (List UInt8)} (hs : (selS k rows).length = k) (hN : ∀ i, i < rows.length → rw_ rows i ≠ [] → (rw_ rows i).length = 16) (h : MendR k m 16 rows out) : out = mendV k m rows :=
  h.uniq hs hN (Classical.epsilon_spec (p := MendR k m 16 rows) ⟨out, h⟩)
theorem MendR.len {k m N : Nat} {rows out : List (List UInt8)} (h : MendR k m N rows out) : out.length = k + m := by
  obtain ⟨B, _, rfl⟩ := h
  rw [blends_len, codeM_len]
theorem MendR.row {k m N : Nat} {rows out : List (List UInt8)} (h : MendR k m N rows out) (hs : (selS k rows).length = k) (hN : ∀ i, i < rows.length → rw_ rows i ≠ [] → (rw_ rows i).length = N) : ∀ l ∈ out, l.length = N := by
  obtain ⟨B, _, rfl⟩ := h
  refine blends_row (blends_row fun l hl => ?_)
  obtain ⟨i, hi, rfl⟩ := List.mem_map.1 hl
  exact hN _ (selS_mem hi).1 (selS_mem hi).2
/-- all rows of all shards, row by row -/
noncomputable def accM (k m : Nat) (ls : List (List (List UInt8))) : Nat → List (List UInt8)
  | 0 => List.replicate (k + m) []
  | r + 1 => List.zipWith (· ++ ·) (accM k m ls r) (mendV k m (rowsAt ls r))
theorem zipWith_set' {α β γ : Type} (f : α → β → γ) : ∀ (us : List α) (ls : List β) (i : Nat) (u : α) (l : β), (List.zipWith f us ls).set i (f u l) = List.zipWith f (us.set i u) (ls.set i l)
  | [], ls, i, u, l => by simp
  | a :: us, [], i, u, l => by cases i <;> simp
  | a :: us, b :: ls, 0, u, l => by simp
  | a :: us, b :: ls, i + 1, u, l => by simp [zipWith_set' f us ls i u l]
theorem Sep.nils {P : Program} {B : Nat} {w0 w : World} {L : List Res} (h : Sep P B w0 w L) : ∀ n, Sep P B w0 w (List.replicate n (bR (.slice none 0 0) []) ++ L)
  | 0 => h
  | n + 1 => by
    rw [List.replicate_succ]
    exact (Sep.nils h n).nilRow 5 1
/-- a list of rows, the first i of which are longer -/
def upTo (A B : List (List UInt8)) (i : Nat) : List (List UInt8) := (List.range A.length).map fun j => if j < i then rw_ A j ++ rw_ B j else rw_ A j
theorem upTo_len (A B : List (List UInt8)) (i : Nat) : (upTo A B i).length = A.length := by simp [upTo]
theorem upTo_rw {A B : List (List UInt8)} {i j : Nat} (h : j < A.length) : rw_ (upTo A B i) j = if j < i then rw_ A j ++ rw_ B j else rw_ A j := by
  show (upTo A B i).getD j [] = _
  exact getD_get (by unfold upTo; simp [h])
theorem upTo_zero (A B : List (List UInt8)) : upTo A B 0 = A := rows_ext (upTo_len ..) rfl fun j hj => by rw [upTo_rw hj, if_neg (by omega)]
theorem upTo_succ {A B : List (List UInt8)} {i : Nat} (h : i < A.length) : upTo A B (i + 1) = (upTo A B i).set i (rw_ A i ++ rw_ B i) := by
  refine rows_ext (upTo_len ..) (by rw [List.length_set, upTo_len]) fun j hj => ?_
  rw [upTo_rw hj, rw_set (by rw [upTo_len]; exact h), upTo_rw hj]
  by_cases e : j = i
  · subst e; rw [if_pos (by omega), if_pos rfl]
  · rw [if_neg e]
    by_cases h2 : j < i
    · rw [if_pos h2, if_pos (by omega)]
    · rw [if_neg h2, if_neg (by omega)]
theorem upTo_full {A B : List (List UInt8)} (h : B.length = A.length) : upTo A B A.length = List.zipWith (· ++ ·) A B := by
  refine rows_ext (upTo_len ..) (by simp; omega) fun j hj => ?_
  rw [upTo_rw hj, if_pos hj]
  show _ = (List.zipWith (· ++ ·) A B).getD j []
  exact (getD_get (by rw [List.getElem?_zipWith, rw_some hj, rw_some (by omega)])).symm
theorem rowsAt_mem {ls : List (List (List UInt8))} {r : Nat} {H : Int} (h : ∀ l ∈ ls, fitL H l) : ∀ l ∈ rowsAt ls r, l ≠ [] → l.length = 16 := by
  intro l hl hne
  obtain ⟨x, hx, rfl⟩ := List.mem_map.1 hl
  by_cases hr : r < x.length
  · rcases (h x hx).2 _ (rw_mem hr) with h1 | h1
    · exact absurd (List.length_eq_zero_iff.1 h1) hne
    · exact h1
  · exact absurd (by unfold rw_; simp [List.getD, List.getElem?_eq_none (show x.length ≤ r by omega)]) hne
theorem accM_len {k m : Nat} {ls : List (List (List UInt8))} {H : Nat} (hm : ∀ r, r < H → (mendV k m (rowsAt ls r)).length = k + m ∧ ∀ l ∈ mendV k m (rowsAt ls r), l.length = 16) : ∀ r, r ≤ H → (accM k m ls r).length = k + m ∧ ∀ l ∈ accM k m ls r, l.length = 16 * r
  | 0, _ => ⟨by simp [accM], fun l hl => by rw [accM, List.mem_replicate] at hl; rw [hl.2]; rfl⟩
  | r + 1, h => by
    obtain ⟨h1, h2⟩ := accM_len hm r (by omega)
    obtain ⟨h3, h4⟩ := hm r (by omega)
    refine ⟨by rw [accM, List.length_zipWith]; omega, fun l hl => ?_⟩
    rw [accM] at hl
    obtain ⟨i, hi, rfl⟩ := List.mem_iff_getElem.1 hl
    rw [List.getElem_zipWith, List.length_append, h2 _ (List.getElem_mem _), h4 _ (List.getElem_mem _)]
    omega
end Go.Proofs.YtlldgodjfpgbcaaDoor
