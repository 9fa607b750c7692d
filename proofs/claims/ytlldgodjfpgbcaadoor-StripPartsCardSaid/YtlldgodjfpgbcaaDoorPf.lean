/- What undoes rows; shards that are lost, in plain Lean; lowest bits. Nothing is claimed here. -/
import Derived.Test.YtlldgodjfpgbcaaDoorPe
import Derived.Lib.TrailingZeros
namespace Go.Proofs.YtlldgodjfpgbcaaDoor
set_option linter.unusedVariables false
set_option linter.unusedSimpArgs false

/-- B undoes A -/
structure InvR (n : Nat) (A B : List (List UInt8)) : Prop where
  len : B.length = n
  row : ∀ l ∈ B, l.length = n
  iff : ∀ x y : List UInt8, x.length = n → y.length = n → ((∀ i, i < n → dot (rw_ A i) x = y.getD i 0) ↔ ∀ j, j < n → x.getD j 0 = dot (rw_ B j) y)
theorem getD_get {α : Type} {l : List α} {i : Nat} {d x : α} (h : l[i]? = some x) : l.getD i d = x := by simp [List.getD, h]
/-- the end of the steps -/
theorem GInv.inv {n : Nat} {A rows : List (List UInt8)} {tk : List Nat} (h : GInv n A n rows tk) : InvR n A (tk.map fun i => (rw_ rows i).drop n) := by
  have hall : ∀ i, i < n → i ∈ tk := fun i hi => by
    refine Classical.byContradiction fun hn => ?_
    have := nodup_len (l := i :: tk) (m := List.range n) (List.nodup_cons.2 ⟨hn, h.nd⟩) fun a ha => by
      rcases List.mem_cons.1 ha with rfl | ha
      · exact List.mem_range.2 hi
      · exact List.mem_range.2 (h.lt a ha)
    rw [List.length_cons, h.cnt, List.length_range] at this
    omega
  have hrow : ∀ c i, tk[c]? = some i → c < n ∧ i < n ∧ rw_ rows i = oneRow n c ++ (rw_ rows i).drop n ∧ rw_ (tk.map fun i => (rw_ rows i).drop n) c = (rw_ rows i).drop n := fun c i hc => by
    have hcn : c < n := by have := (List.getElem?_eq_some_iff.1 hc).1; rwa [h.cnt] at this
    have hin := h.lt i (List.mem_of_getElem? hc)
    refine ⟨hcn, hin, ?_, (getD_get (by rw [List.getElem?_map, hc]; rfl) : ((tk.map fun i => (rw_ rows i).drop n).getD c []) = _)⟩
    conv => lhs; rw [← List.take_append_drop n (rw_ rows i)]
    congr 1
    refine List.ext_getElem (by rw [List.length_take, h.row i hin, oneRow_len]; omega) fun t h1 h2 => ?_
    have ht : t < n := by rw [oneRow_len] at h2; exact h2
    have h3 := h.one t ht i hin
    have hl := h.row i hin
    rw [List.getD, List.getElem?_eq_getElem (by omega), Option.getD_some] at h3
    rw [List.getElem_take, h3]
    simp only [oneRow, List.getElem_set, List.getElem_replicate]
    by_cases htc : c = t
    · rw [if_pos htc, if_pos (by rw [← htc, hc])]
    · rw [if_neg htc, if_neg]
      intro e
      obtain ⟨h5, h6⟩ := List.getElem?_eq_some_iff.1 e
      obtain ⟨h7, h8⟩ := List.getElem?_eq_some_iff.1 hc
      exact htc ((List.getElem_inj (h₀ := h7) (h₁ := h5) h.nd).1 (h8.trans h6.symm))
  refine ⟨by rw [List.length_map, h.cnt], fun l hl => ?_, fun x y hx hy => ?_⟩
  · obtain ⟨i, hi, rfl⟩ := List.mem_map.1 hl
    rw [List.length_drop, h.row i (h.lt i hi)]; omega
  · rw [← h.sol x y hx hy]
    have key : ∀ c i, tk[c]? = some i → (dot (rw_ rows i) (x ++ y) = 0 ↔ x.getD c 0 = dot (rw_ (tk.map fun i => (rw_ rows i).drop n) c) y) := fun c i hc => by
      obtain ⟨h1, h2, h3, h4⟩ := hrow c i hc
      rw [h4, h3, dot_app _ _ _ _ (by rw [oneRow_len, hx]), dot_one n c x hx h1, xor_eq_zero]
      have e : (oneRow n c ++ (rw_ rows i).drop n).drop n = (rw_ rows i).drop n := List.drop_left' (oneRow_len n c)
      rw [e]
    constructor
    · intro hs j hj
      have hj' : tk[j]? = some (tk[j]'(by rw [h.cnt]; exact hj)) := List.getElem?_eq_getElem (by rw [h.cnt]; exact hj)
      exact (key j _ hj').1 (hs _ (hrow j _ hj').2.1)
    · intro hs i hi
      obtain ⟨c, hc⟩ := List.mem_iff_getElem?.1 (hall i hi)
      exact (key c i hc).2 (hs c (hrow c i hc).1)

/-! ### blends, place by place -/
def colN (D : List (List UInt8)) (t : Nat) : List UInt8 := D.map fun r => r.getD t 0
theorem colN_len (D : List (List UInt8)) (t : Nat) : (colN D t).length = D.length := by simp [colN]
theorem blendB_get (N : Nat) (c : List UInt8) (D : List (List UInt8)) (hD : ∀ l ∈ D, l.length = N) (t : Nat) (ht : t < N) : (blendB N c D).getD t 0 = dot c (colN D t) := by
  have gen : ∀ (c : List UInt8) (D : List (List UInt8)) (s : List UInt8), (∀ l ∈ D, l.length = N) → s.length = N → ((c.zip D).foldl (fun s p => List.zipWith (· ^^^ ·) s (p.2.map fun x => gmb x p.1)) s).getD t 0 = s.getD t 0 ^^^ dot c (colN D t) := by
    intro c
    induction c with
    | nil => intro D s _ _; simp [dot]
    | cons a c ih =>
      intro D s hD hs
      cases D with
      | nil => simp [dot, colN]
      | cons r D =>
        have hr := hD r (List.mem_cons_self ..)
        rw [List.zip_cons_cons, List.foldl_cons, ih D _ (fun l hl => hD l (List.mem_cons_of_mem _ hl)) (by simp [hs, hr])]
        have e : (List.zipWith (· ^^^ ·) s (r.map fun x => gmb x a)).getD t 0 = s.getD t 0 ^^^ gmb (r.getD t 0) a := by
          have := getD_addR (r := s) (s := scl r a) (by rw [scl_len]; omega) t
          rw [getD_scl] at this
          exact this
        rw [e, UInt8.xor_assoc]
        congr 1
        rw [gmb_comm]; rfl
  unfold blendB
  rw [gen c D _ hD (by simp), getD_zeros, UInt8.zero_xor]
theorem list_ext_getD {a b : List UInt8} {N : Nat} (ha : a.length = N) (hb : b.length = N) (h : ∀ t, t < N → a.getD t 0 = b.getD t 0) : a = b := by
  refine List.ext_getElem (by omega) fun t h1 h2 => ?_
  have := h t (by omega)
  simpa [List.getD, List.getElem?_eq_getElem h1, List.getElem?_eq_getElem h2] using this
theorem colN_get (D : List (List UInt8)) (t j : Nat) : (colN D t).getD j 0 = (rw_ D j).getD t 0 := by
  unfold colN rw_
  simp only [List.getD, List.getElem?_map]
  cases D[j]? <;> simp
theorem rw_map (f : List UInt8 → List UInt8) (C : List (List UInt8)) {i : Nat} (h : i < C.length) : rw_ (C.map f) i = f (rw_ C i) := by
  unfold rw_
  simp [List.getD, h]
theorem rw_mem {C : List (List UInt8)} {i : Nat} (h : i < C.length) : rw_ C i ∈ C := by
  unfold rw_
  simp [List.getD, h]
theorem rows_ext {A B : List (List UInt8)} {n : Nat} (ha : A.length = n) (hb : B.length = n) (h : ∀ i, i < n → rw_ A i = rw_ B i) : A = B := by
  refine List.ext_getElem (by omega) fun i h1 h2 => ?_
  have := h i (by omega)
  simpa [rw_, List.getD, List.getElem?_eq_getElem h1, List.getElem?_eq_getElem h2] using this
def blends (N : Nat) (C D : List (List UInt8)) : List (List UInt8) := C.map fun c => blendB N c D
theorem blends_len (N : Nat) (C D : List (List UInt8)) : (blends N C D).length = C.length := by simp [blends]
theorem blends_row {N : Nat} {C D : List (List UInt8)} (hD : ∀ l ∈ D, l.length = N) : ∀ l ∈ blends N C D, l.length = N := by
  intro l hl
  obtain ⟨c, _, rfl⟩ := List.mem_map.1 hl
  exact blendB_len N c D hD
/-- what is blended by B out of what A made, is what A was laid on -/
theorem InvR.undo {n N : Nat} {A B D H : List (List UInt8)} (h : InvR n A B) (hA : A.length = n) (hD : ∀ l ∈ D, l.length = N) (hDl : D.length = n) (hH : ∀ l ∈ H, l.length = N) (hHl : H.length = n) (hm : ∀ i, i < n → ∀ t, t < N → dot (rw_ A i) (colN D t) = (rw_ H i).getD t 0) : blends N B H = D := by
  refine rows_ext (n := n) (by rw [blends_len, h.len]) hDl fun j hj => ?_
  have e : rw_ (blends N B H) j = blendB N (rw_ B j) H := rw_map _ B (by rw [h.len]; exact hj)
  rw [e]
  refine list_ext_getD (blendB_len N _ H hH) (hD _ (rw_mem (by omega))) fun t ht => ?_
  rw [blendB_get N _ H hH t ht]
  have h1 := (h.iff (colN D t) (colN H t) (by rw [colN_len, hDl]) (by rw [colN_len, hHl])).1 (fun i hi => by rw [hm i hi t ht, colN_get]) j hj
  rw [← h1, colN_get]
theorem InvR.made {n N : Nat} {A B H : List (List UInt8)} (h : InvR n A B) (hA : A.length = n) (hH : ∀ l ∈ H, l.length = N) (hHl : H.length = n) : ∀ i, i < n → ∀ t, t < N → dot (rw_ A i) (colN (blends N B H) t) = (rw_ H i).getD t 0 := by
  intro i hi t ht
  have h1 := (h.iff (colN (blends N B H) t) (colN H t) (by rw [colN_len, blends_len, h.len]) (by rw [colN_len, hHl])).2 (fun j hj => by
    rw [colN_get]
    have e : rw_ (blends N B H) j = blendB N (rw_ B j) H := rw_map _ B (by rw [h.len]; exact hj)
    rw [e, blendB_get N _ H hH t ht]) i hi
  rw [h1, colN_get]
/-- two that undo the same do it alike -/
theorem InvR.uniq {n N : Nat} {A B B' H : List (List UInt8)} (h : InvR n A B) (h' : InvR n A B') (hA : A.length = n) (hH : ∀ l ∈ H, l.length = N) (hHl : H.length = n) : blends N B H = blends N B' H :=
  h.undo hA (blends_row hH) (by rw [blends_len, h'.len]) hH hHl (h'.made hA hH hHl)

/-! ### which rows are taken -/
def selS (k : Nat) (rows : List (List UInt8)) : List Nat := ((List.range rows.length).filter fun i => decide (rw_ rows i ≠ [])).take k
def codeSel (k m : Nat) (sel : List Nat) : List (List UInt8) := sel.map (rw_ (codeM k m))
def haveS (rows : List (List UInt8)) (sel : List Nat) : List (List UInt8) := sel.map (rw_ rows)
theorem selS_nodup (k : Nat) (rows : List (List UInt8)) : (selS k rows).Nodup := (List.nodup_range.filter _).sublist (List.take_sublist _ _)
theorem selS_mem {k : Nat} {rows : List (List UInt8)} {i : Nat} (h : i ∈ selS k rows) : i < rows.length ∧ rw_ rows i ≠ [] := by
  have := List.mem_of_mem_take h
  rw [List.mem_filter, List.mem_range] at this
  exact ⟨this.1, by simpa using this.2⟩
theorem codeSel_inj {k m : Nat} (hkm : k + m ≤ 14) {rows : List (List UInt8)} (hr : rows.length = k + m) (hs : (selS k rows).length = k) : Inj k (codeSel k m (selS k rows)) := by
  intro x hx h
  refine code_kernel hkm (selS_nodup k rows) hs (fun i hi => by rw [← hr]; exact (selS_mem hi).1) hx fun i hi => ?_
  obtain ⟨c, hc⟩ := List.mem_iff_getElem?.1 hi
  have hcl := (List.getElem?_eq_some_iff.1 hc).1
  have := h c (by omega)
  unfold codeSel rw_ at this
  rw [getD_get (x := (codeM k m).getD i [])] at this
  · exact this
  · rw [List.getElem?_map, hc]; rfl
/-- all rows, out of k of them -/
def MendR (k m N : Nat) (rows out : List (List UInt8)) : Prop := ∃ B, InvR k (codeSel k m (selS k rows)) B ∧ out = blends N (codeM k m) (blends N B (haveS rows (selS k rows)))
theorem MendR.uniq {k m N : Nat} {rows o o' : List (List UInt8)} (hs : (selS k rows).length = k) (hN : ∀ i, i < rows.length → rw_ rows i ≠ [] → (rw_ rows i).length = N) (h : MendR k m N rows o) (h' : MendR k m N rows o') : o = o' := by
  obtain ⟨B, hB, rfl⟩ := h
  obtain ⟨B', hB', rfl⟩ := h'
  rw [hB.uniq (N := N) (H := haveS rows (selS k rows)) hB' (by simp [codeSel, hs]) (fun l hl => by
    obtain ⟨i, hi, rfl⟩ := List.mem_map.1 hl
    have := selS_mem hi
    exact hN i this.1 this.2) (by simp [haveS, hs])]
/-- rows that were made of D are brought back -/
theorem MendR.back {k m N : Nat} {rows o D : List (List UInt8)} (hk : 0 < N) (hr : rows.length = k + m) (hs : (selS k rows).length = k) (hD : ∀ l ∈ D, l.length = N) (hDl : D.length = k) (hrow : ∀ i, i < rows.length → rw_ rows i ≠ [] → rw_ rows i = blendB N (rw_ (codeM k m) i) D)
    (h : MendR k m N rows o) : o = blends N (codeM k m) D := by
  obtain ⟨B, hB, rfl⟩ := h
  have hlen : (codeSel k m (selS k rows)).length = k := by simp [codeSel, hs]
  rw [hB.undo (N := N) (D := D) (H := haveS rows (selS k rows)) hlen hD hDl (fun l hl => by
    obtain ⟨i, hi, rfl⟩ := List.mem_map.1 hl
    have := selS_mem hi
    rw [hrow i this.1 this.2]
    exact blendB_len N _ D hD) (by simp [haveS, hs]) fun i hi t ht => ?_]
  have hi' : i < (selS k rows).length := by omega
  have hg : (selS k rows)[i]? = some (selS k rows)[i] := List.getElem?_eq_getElem hi'
  have hm := selS_mem (List.getElem_mem hi')
  have e1 : rw_ (codeSel k m (selS k rows)) i = rw_ (codeM k m) (selS k rows)[i] := by
    conv => lhs; unfold codeSel rw_
    exact getD_get (by rw [List.getElem?_map, hg]; rfl)
  have e2 : rw_ (haveS rows (selS k rows)) i = rw_ rows (selS k rows)[i] := by
    conv => lhs; unfold haveS rw_
    exact getD_get (by rw [List.getElem?_map, hg]; rfl)
  rw [e1, e2, hrow _ hm.1 hm.2, blendB_get N _ D hD t ht]

/-! ### lowest bits -/
theorem ctz_low {x : Nat} (h0 : 0 < x) (hx : x < 2 ^ 64) : Go.Lib.ctz 64 x < 64 ∧ x.testBit (Go.Lib.ctz 64 x) = true ∧ ∀ j, (x &&& (x - 1)).testBit j = (x.testBit j && decide (j ≠ Go.Lib.ctz 64 x)) := by
  have e : Go.Lib.ctz 64 x = Go.Lib.ctzFrom 64 x := by unfold Go.Lib.ctz; rw [if_neg (by omega)]
  obtain ⟨m, hm, hk⟩ := Go.Lib.ctzFrom_spec 64 x h0 hx
  rw [e]
  generalize Go.Lib.ctzFrom 64 x = c at *
  have h2 : 2 ^ c < 2 ^ (c + 1) := Nat.pow_lt_pow_right (by decide) (by omega)
  have hpos : 0 < 2 ^ c := Nat.pow_pos (by decide)
  have e1 : x = 2 ^ (c + 1) * m + 2 ^ c := by
    rw [hm, Nat.pow_succ, Nat.mul_add, Nat.mul_one, ← Nat.mul_assoc]
  have e2 : x - 1 = 2 ^ (c + 1) * m + (2 ^ c - 1) := by omega
  have t1 : ∀ j, x.testBit j = if j < c + 1 then (2 ^ c).testBit j else m.testBit (j - (c + 1)) := fun j => by
    conv => lhs; rw [e1]
    exact Nat.testBit_two_pow_mul_add m h2 j
  have t2 : ∀ j, (x - 1).testBit j = if j < c + 1 then (2 ^ c - 1).testBit j else m.testBit (j - (c + 1)) := fun j => by
    rw [e2]
    exact Nat.testBit_two_pow_mul_add m (by omega) j
  refine ⟨hk, by rw [t1, if_pos (by omega), Nat.testBit_two_pow_self], fun j => ?_⟩
  rw [Nat.testBit_and, t1, t2]
  by_cases hj : j < c + 1
  · rw [if_pos hj, if_pos hj, Nat.testBit_two_pow_sub_one, Nat.testBit_two_pow]
    by_cases hjc : j = c
    · subst hjc; simp
    · simp [show ¬ c = j by omega]
  · rw [if_neg hj, if_neg hj]
    simp [show ¬ j = c by omega]
end Go.Proofs.YtlldgodjfpgbcaaDoor
