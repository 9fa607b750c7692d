/- How shards are lost, one by one, in plain Lean. Nothing is claimed here. -/
import Derived.Test.YtlldgodjfpgbcaaDoorGq
import Derived.Test.YtlldgodjfpgbcaaDoorGn
namespace Go.Proofs.YtlldgodjfpgbcaaDoor
set_option linter.unusedVariables false
set_option linter.unusedSimpArgs false

theorem rw3_set {ls : List (List (List UInt8))} {j j' : Nat} {l : List (List UInt8)} (h : j < ls.length) : rw3 (ls.set j l) j' = if j' = j then l else rw3 ls j' := by
  unfold rw3
  simp only [List.getD, List.getElem?_set]
  by_cases e : j' = j
  · subst e; simp [h]
  · rw [if_neg (fun x => e x.symm), if_neg e]
/-- what was cut, of which i have been lost of each row, one more of the first rr rows -/
structure TornI (W : List (List UInt8)) (ls : List (List (List UInt8))) (n H rr i : Nat) : Prop where
  len : ls.length = n
  fit : ∀ l ∈ ls, fitL (H : Nat) l
  row : ∀ r, r < H → ∃ lost : List Nat, lost.length ≤ i + (if r < rr then 1 else 0) ∧ ∀ j, j < n → (j ∈ lost ∧ rw_ (rw3 ls j) r = []) ∨ rw_ (rw3 ls j) r = chunk (rw_ W j) r
theorem TornI.start (b : List UInt8) (k m : Nat) (hk : 0 < k) (hb : 0 < b.length) : TornI (cutB b k m) (cut3 b k m) (k + m) (hgt b.length k) 0 0 where
  len := cut3_len b k m hk hb
  fit := cut3_fit b k m hk hb
  row := fun r hr => ⟨[], by simp, fun j hj => .inr (by
    show rw_ ((cut3 b k m).getD j []) r = _
    rw [getD_get (cut3_get hk hb hj)]
    exact chunks_rw _ hr)⟩
/-- a shard is lost -/
theorem TornI.all {W : List (List UInt8)} {ls : List (List (List UInt8))} {n H i j : Nat} (h : TornI W ls n H 0 i) (hj : j < n) : TornI W (ls.set j []) n H 0 (i + 1) where
  len := by rw [List.length_set, h.len]
  fit := fun l hl => by
    rcases List.mem_or_eq_of_mem_set hl with h9 | h9
    · exact h.fit l h9
    · rw [h9]; exact fit_nil _
  row := fun r hr => by
    obtain ⟨lost, h1, h2⟩ := h.row r hr
    refine ⟨j :: lost, by simp at h1 ⊢; omega, fun j' hj' => ?_⟩
    rw [rw3_set (by rw [h.len]; exact hj)]
    by_cases e : j' = j
    · rw [if_pos e]; exact .inl ⟨by simp [e], by simp [rw_]⟩
    · rw [if_neg e]
      rcases h2 j' hj' with h3 | h3
      · exact .inl ⟨List.mem_cons_of_mem _ h3.1, h3.2⟩
      · exact .inr h3
/-- a row of a shard is lost -/
theorem TornI.one {W : List (List UInt8)} {ls : List (List (List UInt8))} {n H rr i j : Nat} (h : TornI W ls n H rr i) (hj : j < n) : TornI W (ls.set j ((rw3 ls j).set rr [])) n H (rr + 1) i where
  len := by rw [List.length_set, h.len]
  fit := fun l hl => by
    rcases List.mem_or_eq_of_mem_set hl with h9 | h9
    · exact h.fit l h9
    · have hm : rw3 ls j ∈ ls := by
        unfold rw3
        simp [List.getD, show j < ls.length by rw [h.len]; exact hj]
      obtain ⟨f1, f2⟩ := h.fit _ hm
      rw [h9]
      refine ⟨by rw [List.length_set]; exact f1, fun r hr => ?_⟩
      rcases List.mem_or_eq_of_mem_set hr with h8 | h8
      · exact f2 r h8
      · rw [h8]; exact .inl rfl
  row := fun r hr => by
    obtain ⟨lost, h1, h2⟩ := h.row r hr
    by_cases er : r = rr
    · subst er
      rw [if_neg (by omega)] at h1
      refine ⟨j :: lost, by rw [if_pos (by omega), List.length_cons]; omega, fun j' hj' => ?_⟩
      rw [rw3_set (by rw [h.len]; exact hj)]
      by_cases e : j' = j
      · rw [if_pos e]
        refine .inl ⟨by simp [e], ?_⟩
        by_cases hl : r < (rw3 ls j).length
        · rw [rw_set hl, if_pos rfl]
        · unfold rw_
          rw [List.getD, List.getElem?_eq_none (by rw [List.length_set]; omega)]; rfl
      · rw [if_neg e]
        rcases h2 j' hj' with h3 | h3
        · exact .inl ⟨List.mem_cons_of_mem _ h3.1, h3.2⟩
        · exact .inr h3
    · refine ⟨lost, Nat.le_trans h1 (by split <;> split <;> omega), fun j' hj' => ?_⟩
      rw [rw3_set (by rw [h.len]; exact hj)]
      by_cases e : j' = j
      · rw [if_pos e]
        have e2 : rw_ ((rw3 ls j).set rr []) r = rw_ (rw3 ls j) r := by
          unfold rw_
          simp only [List.getD]
          rw [List.getElem?_set_ne (fun x => er x.symm)]
        rw [e2, ← e]
        exact h2 j' hj'
      · rw [if_neg e]
        exact h2 j' hj'
theorem TornI.more {W : List (List UInt8)} {ls : List (List (List UInt8))} {n H rr i rr' i' : Nat} (h : TornI W ls n H rr i) (hle : ∀ r, i + (if r < rr then 1 else 0) ≤ i' + (if r < rr' then 1 else 0)) : TornI W ls n H rr' i' :=
  ⟨h.len, h.fit, fun r hr => by
    obtain ⟨lost, h1, h2⟩ := h.row r hr
    exact ⟨lost, Nat.le_trans h1 (hle r), h2⟩⟩
theorem TornI.skip {W : List (List UInt8)} {ls : List (List (List UInt8))} {n H rr i : Nat} (h : TornI W ls n H rr i) : TornI W ls n H (rr + 1) i := h.more fun r => by split <;> split <;> omega
theorem TornI.next {W : List (List UInt8)} {ls : List (List (List UInt8))} {n H rr i : Nat} (h : TornI W ls n H rr i) : TornI W ls n H 0 (i + 1) := h.more fun r => by split <;> split <;> omega
theorem TornI.torn {W : List (List UInt8)} {ls : List (List (List UInt8))} {n H m : Nat} (h : TornI W ls n H 0 m) : Torn W ls n m H :=
  ⟨h.len, fun r hr => by
    obtain ⟨lost, h1, h2⟩ := h.row r hr
    exact ⟨lost, by simpa using h1, h2⟩⟩
end Go.Proofs.YtlldgodjfpgbcaaDoor
