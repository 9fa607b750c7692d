/- How many elements a slice has whose reading is small. Nothing is claimed here. -/
import Derived.Test.YtjafamiaahabgaaDoorOg
import Derived.Test.YtjafamiaahabgaaDoorRows
namespace Go.Proofs.YtjafamiaahabgaaDoor
open Go.RowKit
set_option linter.unusedVariables false
set_option linter.unusedSimpArgs false
theorem bulk_pos {H : Type} (d : DataW H) : 1 ≤ Rows.uptoBulk d := by
  cases d with
  | lit l => cases l <;> simp [Rows.uptoBulk]
  | _ => simp [Rows.uptoBulk]
theorem bulk_len {H : Type} : ∀ ds : List (DataW H), ds.length ≤ Rows.uptoBulkAll ds
  | [] => by simp [Rows.uptoBulkAll]
  | d :: ds => by
    have h1 := bulk_pos d
    have h2 := bulk_len ds
    simp only [List.length_cons, Rows.uptoBulkAll]
    omega
theorem bulk_mem {H : Type} : ∀ {ds : List (DataW H)} {d : DataW H}, d ∈ ds → Rows.uptoBulk d ≤ Rows.uptoBulkAll ds
  | e :: ds, d, h => by
    simp only [Rows.uptoBulkAll]
    rcases List.mem_cons.1 h with rfl | h
    · omega
    · have := bulk_mem h; omega
theorem bulk_at {H : Type} {ds gs : List (DataW H)} (h : Rows.uptoSmall H (ds ++ gs) = true) {j : Nat} {d : DataW H} (hj : ds[j]? = some d) : Rows.uptoBulk d ≤ 1048576 := by
  have h1 : Rows.uptoBulkAll (ds ++ gs) ≤ 1048576 := of_decide_eq_true h
  exact Nat.le_trans (bulk_mem (List.mem_append_left _ (List.mem_of_getElem? hj))) h1
theorem slice_bulk {H : Type} {enc : TypeId × Value → H} {P : Program} {w : World} {t e : TypeId} {a : Option Addr} {n c : Nat} {d : DataW H} {ps : List MemPlace} (hu : P.underlying t = some (.slice e))
    (h : DataW.Trod enc P w 0 (fun _ => true) true t (.slice a n c) d ps) : n ≤ Rows.uptoBulk d := by
  obtain ⟨fuel, h⟩ := h
  cases fuel with
  | zero => simp [DataW.trod] at h
  | succ fuel =>
    have hc : (Value.slice a n c).cells.toList = [.slice a n c] := rfl
    rw [hc] at h
    cases a with
    | none =>
      cases n with
      | zero => exact Nat.zero_le _
      | succ n => simp [DataW.trod, hu] at h
    | some a =>
      simp only [DataW.trod, hu] at h
      split at h
      case isFalse => cases h
      cases h1 : (List.range n).mapM (fun i => (w.cells? 0 (a.add (i * P.cellsOf e)) (P.cellsOf e)).bind (DataW.trod enc P w 0 (fun _ => true) true fuel e)) with
      | none => rw [h1] at h; simp at h
      | some elems =>
        rw [h1] at h
        simp only [Option.bind_some, if_true] at h
        cases h2 : (List.range (c - n)).mapM (fun j => (w.cells? 0 (a.add ((n + j) * P.cellsOf e)) (P.cellsOf e)).bind (DataW.trod enc P w 0 (fun _ => true) true fuel e)) with
        | none => rw [h2] at h; simp at h
        | some rest =>
          rw [h2] at h
          simp only [Option.map_some, Option.some.injEq, Prod.mk.injEq] at h
          obtain ⟨h, _⟩ := h
          subst h
          obtain ⟨l1, _⟩ := mapM_mem h1
          simp only [List.length_range] at l1
          have := bulk_len (elems.map (·.1))
          rw [List.length_map, l1] at this
          simp only [Rows.uptoBulk]
          omega
theorem slice_small {H : Type} {enc : TypeId × Value → H} {P : Program} {w w' : World} {t e : TypeId} {a : Option Addr} {n c sz m : Nat} {xs : List Value} {d : DataW H} {ps : List MemPlace} (hs : SlN w' sz (.slice a n c) m xs) (hu : P.underlying t = some (.slice e))
    (h : DataW.Trod enc P w 0 (fun _ => true) true t (.slice a n c) d ps) (hb : Rows.uptoBulk d ≤ 1048576) : m ≤ 1048576 := by
  obtain ⟨a', c', he⟩ := hs.shape
  injection he with h1 h2 h3
  have := slice_bulk hu h
  omega
end Go.Proofs.YtjafamiaahabgaaDoor
