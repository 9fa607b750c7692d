/- Shards that were cut, of which some rows are lost: they are made again as they were. In plain Lean. Nothing is claimed here. -/
import Derived.Test.YtlldgodjfpgbcaaDoorGk
namespace Go.Proofs.YtlldgodjfpgbcaaDoor
set_option linter.unusedVariables false
set_option linter.unusedSimpArgs false

theorem blendB_one (N k i : Nat) (D : List (List UInt8)) (hD : ∀ l ∈ D, l.length = N) (hk : D.length = k) (hi : i < k) : blendB N (oneRow k i) D = rw_ D i := by
  refine list_ext_getD (blendB_len N _ D hD) (hD _ (rw_mem (by omega))) fun t ht => ?_
  rw [blendB_get N _ D hD t ht, dot_one k i _ (by rw [colN_len, hk]) hi, colN_get]
theorem codeM_blends {k m N : Nat} {D : List (List UInt8)} (hD : ∀ l ∈ D, l.length = N) (hk : D.length = k) : blends N (codeM k m) D = D ++ sumsB N m D := by
  unfold blends codeM sumsB
  rw [List.map_append, List.map_map, hk]
  congr 1
  refine List.ext_getElem (by simp [oneM, hk]) fun i h1 h2 => ?_
  have hik : i < k := by simpa [oneM] using h1
  rw [List.getElem_map]
  have e : (oneM k)[i]'(by simpa [oneM] using h1) = oneRow k i := by simp [oneM]
  rw [e, blendB_one N k i D hD hk hik]
  unfold rw_
  simp [List.getD, h2]
theorem chunk_get {l : List UInt8} {r t : Nat} (ht : t < 16) : (chunk l r).getD t 0 = l.getD (16 * r + t) 0 := by
  unfold chunk
  simp only [List.getD, List.getElem?_take, List.getElem?_drop]
  rw [if_pos ht]
/-- a chunk of a blend is the blend of the chunks -/
theorem chunk_blend {N : Nat} {c : List UInt8} {D : List (List UInt8)} (hD : ∀ l ∈ D, l.length = N) {r : Nat} (hr : 16 * r + 16 ≤ N) : chunk (blendB N c D) r = blendB 16 c (D.map fun l => chunk l r) := by
  have hD2 : ∀ l ∈ D.map (fun l => chunk l r), l.length = 16 := fun l hl => by
    obtain ⟨x, hx, rfl⟩ := List.mem_map.1 hl
    exact chunk_len x r (by rw [hD x hx]; omega)
  refine list_ext_getD (chunk_len _ r (by rw [blendB_len N c D hD]; omega)) (blendB_len 16 _ _ hD2) fun t ht => ?_
  rw [chunk_get ht, blendB_get N c D hD _ (by omega), blendB_get 16 c _ hD2 t ht]
  congr 1
  unfold colN
  rw [List.map_map]
  exact List.map_congr_left fun l _ => (chunk_get ht).symm
def rw3 (ls : List (List (List UInt8))) (i : Nat) : List (List UInt8) := ls.getD i []
theorem rowsAt_rw (ls : List (List (List UInt8))) (r i : Nat) : rw_ (rowsAt ls r) i = rw_ (rw3 ls i) r := by
  unfold rowsAt rw3
  conv => lhs; unfold rw_
  simp only [List.getD, List.getElem?_map]
  cases ls[i]? <;> simp [rw_]
/-- what was cut, torn: of each row m are lost at most -/
def Torn (W : List (List UInt8)) (ls : List (List (List UInt8))) (n m H : Nat) : Prop := ls.length = n ∧ ∀ r, r < H → ∃ lost : List Nat, lost.length ≤ m ∧ ∀ i, i < n → (i ∈ lost ∧ rw_ (rw3 ls i) r = []) ∨ rw_ (rw3 ls i) r = chunk (rw_ W i) r
theorem Torn.sel {W : List (List UInt8)} {ls : List (List (List UInt8))} {k m H : Nat} (h : Torn W ls (k + m) m H) (hW : W.length = k + m) (hl : ∀ l ∈ W, l.length = 16 * H) {r : Nat} (hr : r < H) : (selS k (rowsAt ls r)).length = k := by
  obtain ⟨hlen, h⟩ := h
  obtain ⟨lost, h1, h2⟩ := h r hr
  have hn : (rowsAt ls r).length = k + m := by rw [rowsAt_len, hlen]
  rw [selS_len hn]
  unfold cnt_
  have h3 := filter_len (fun j => decide (rw_ (rowsAt ls r) j ≠ [])) (List.range (k + m))
  rw [List.length_range] at h3
  have h4 : ((List.range (k + m)).filter fun j => !decide (rw_ (rowsAt ls r) j ≠ [])).length ≤ lost.length := nodup_len (List.nodup_range.filter _) fun j hj => by
    obtain ⟨h5, h6⟩ := List.mem_filter.1 hj
    rw [List.mem_range] at h5
    have h7 : rw_ (rowsAt ls r) j = [] := by simpa using h6
    rw [rowsAt_rw] at h7
    rcases h2 j h5 with h8 | h8
    · exact h8.1
    · rw [h7] at h8
      have := congrArg List.length h8
      rw [chunk_len _ r (by rw [hl _ (rw_mem (by omega))]; omega)] at this
      simp at this
  omega
theorem rows_chunks {l : List UInt8} {H : Nat} (hl : l.length = 16 * H) : ∀ r, r ≤ H → l.take (16 * r) ++ (if r < H then chunk l r else []) = l.take (16 * (r + 1)) := fun r hr => by
  split
  · unfold chunk
    rw [show 16 * (r + 1) = 16 * r + 16 by omega, List.take_add]
  · rw [List.append_nil, List.take_of_length_le (by omega), List.take_of_length_le (by omega)]
theorem Torn.all {W D : List (List UInt8)} {ls : List (List (List UInt8))} {k m H : Nat} (hk : 1 ≤ k) (h : Torn W ls (k + m) m H) (hDk : D.length = k) (hD : ∀ l ∈ D, l.length = 16 * H) (hW : W = blends (16 * H) (codeM k m) D) :
    (∀ r, r < H → ∀ out, MendR k m 16 (rowsAt ls r) out → out = W.map fun l => chunk l r) := by
  have hWl : W.length = k + m := by rw [hW, blends_len, codeM_len]
  have hWr : ∀ l ∈ W, l.length = 16 * H := by rw [hW]; exact blends_row hD
  intro r hr out hm
  have hs := h.sel hWl hWr hr
  have hn : (rowsAt ls r).length = k + m := by rw [rowsAt_len, h.1]
  obtain ⟨lost, h1, h2⟩ := h.2 r hr
  have hDr : ∀ l ∈ D.map (fun l => chunk l r), l.length = 16 := fun l hl => by
    obtain ⟨x, hx, rfl⟩ := List.mem_map.1 hl
    exact chunk_len x r (by rw [hD x hx]; omega)
  rw [hm.back (D := D.map fun l => chunk l r) (by decide) hn hs hDr (by rw [List.length_map, hDk]) fun i hi hne => ?_]
  · rw [hW]
    unfold blends
    rw [List.map_map]
    exact List.map_congr_left fun c _ => (chunk_blend hD (by omega)).symm
  · rw [rowsAt_rw] at hne ⊢
    rcases h2 i (by omega) with h8 | h8
    · exact absurd h8.2 hne
    · rw [h8, hW]
      have e : rw_ (blends (16 * H) (codeM k m) D) i = blendB (16 * H) (rw_ (codeM k m) i) D := rw_map _ _ (by rw [codeM_len]; omega)
      rw [e, chunk_blend hD (by omega)]
theorem Torn.acc {W D : List (List UInt8)} {ls : List (List (List UInt8))} {k m H : Nat} (hk : 1 ≤ k) (h : Torn W ls (k + m) m H) (hDk : D.length = k) (hD : ∀ l ∈ D, l.length = 16 * H) (hW : W = blends (16 * H) (codeM k m) D)
    (hx : ∀ r, r < H → MendR k m 16 (rowsAt ls r) (mendV k m (rowsAt ls r))) : accM k m ls H = W := by
  have hWl : W.length = k + m := by rw [hW, blends_len, codeM_len]
  have hWr : ∀ l ∈ W, l.length = 16 * H := by rw [hW]; exact blends_row hD
  have key : ∀ r, r ≤ H → accM k m ls r = W.map fun l => l.take (16 * r) := by
    intro r
    induction r with
    | zero =>
      intro _
      rw [accM]
      refine List.ext_getElem (by simp [hWl]) fun i h1 h2 => by simp
    | succ r ih =>
      intro hr
      rw [accM, ih (by omega), h.all hk hDk hD hW r (by omega) _ (hx r (by omega))]
      refine List.ext_getElem (by simp) fun i h1 h2 => ?_
      rw [List.getElem_zipWith, List.getElem_map, List.getElem_map, List.getElem_map]
      exact (List.take_add (i := 16 * r) (j := 16)).symm
  rw [key H (Nat.le_refl _)]
  refine List.ext_getElem (by simp) fun i h1 h2 => ?_
  rw [List.getElem_map, List.take_of_length_le (by rw [hWr _ (List.getElem_mem _)]; exact Nat.le_refl _)]
theorem cutB_blends (b : List UInt8) (k m : Nat) (hk : 0 < k) (hb : 0 < b.length) : cutB b k m = blends (16 * hgt b.length k) (codeM k m) (cutD b k) := by
  rw [codeM_blends (cutD_len b k hk hb) (colsB_len ..)]
  rfl
end Go.Proofs.YtlldgodjfpgbcaaDoor
