/- The matrix of shards, in plain Lean: any k of its rows can be undone; how rows are undone step by step. What undoes rows; shards that are lost, in plain Lean; lowest bits. Nothing is claimed here. -/
import Derived.Test.YtlldgodjfpgbcaaDoorK07
import Derived.Lib.TrailingZeros
namespace Go.Proofs.YtlldgodjfpgbcaaDoor
set_option linter.unusedVariables false
set_option linter.unusedSimpArgs false

theorem nodup_len : ∀ {l m : List Nat}, l.Nodup → (∀ a ∈ l, a ∈ m) → l.length ≤ m.length
  | [], m, _, _ => by simp
  | a :: l, m, hn, h => by
    rw [List.nodup_cons] at hn
    obtain ⟨A, B, rfl⟩ := List.append_of_mem (h a (List.mem_cons_self ..))
    have := nodup_len (m := A ++ B) hn.2 fun b hb => by
      have h1 := h b (List.mem_cons_of_mem _ hb)
      rw [List.mem_append, List.mem_cons] at h1
      rw [List.mem_append]
      rcases h1 with h1 | rfl | h1
      · exact .inl h1
      · exact absurd hb hn.1
      · exact .inr h1
    simp only [List.length_append, List.length_cons] at *
    omega
theorem filter_len {α : Type} (p : α → Bool) : ∀ l : List α, (l.filter p).length + (l.filter fun a => !p a).length = l.length
  | [] => rfl
  | a :: l => by
    have := filter_len p l
    cases h : p a
    · rw [List.filter_cons_of_neg (by simp [h]), List.filter_cons_of_pos (by simp [h]), List.length_cons, List.length_cons]; omega
    · rw [List.filter_cons_of_pos h, List.filter_cons_of_neg (by simp [h]), List.length_cons, List.length_cons]; omega
theorem dot_sum (x : Nat → UInt8) (f : Nat → UInt8) (b : Nat → UInt8) (p : Nat → Bool) (a : UInt8) (hf : ∀ j, f j = gib (a ^^^ b j)) : ∀ js : List Nat, (∀ j ∈ js, p j = false → x j = 0) → dot (js.map f) (js.map x) = sumF a ((js.filter p).map fun j => (x j, b j))
  | [], _ => rfl
  | j :: js, h => by
    have ih := dot_sum x f b p a hf js fun i hi => h i (List.mem_cons_of_mem _ hi)
    cases hp : p j
    · rw [List.filter_cons_of_neg (by simp [hp]), List.map_cons, List.map_cons, dot, ih, h j (List.mem_cons_self ..) hp, gmb_zero, UInt8.zero_xor]
    · rw [List.filter_cons_of_pos hp, List.map_cons, List.map_cons, List.map_cons, dot, ih, sumF, hf, gmb_comm]
theorem codeM_one {k m i : Nat} (h : i < k) : (codeM k m).getD i [] = oneRow k i := by
  simp [codeM, oneM, List.getD, List.getElem?_append, h]
theorem codeM_par {k m i : Nat} (h : i < m) : (codeM k m).getD (k + i) [] = codeRow k i := by
  simp [codeM, oneM, List.getD, List.getElem?_append, h]
theorem ofNat_xor {a b : Nat} (ha : a < 256) (hb : b < 256) : UInt8.ofNat (a ^^^ b) = UInt8.ofNat a ^^^ UInt8.ofNat b := by
  refine u8ext ?_
  rw [UInt8.toNat_xor, UInt8.toNat_ofNat', UInt8.toNat_ofNat', UInt8.toNat_ofNat']
  have := Nat.xor_lt_two_pow (n := 8) ha hb
  rw [Nat.mod_eq_of_lt this, Nat.mod_eq_of_lt ha, Nat.mod_eq_of_lt hb]
theorem ofNat_inj {a b : Nat} (ha : a < 256) (hb : b < 256) (h : UInt8.ofNat a = UInt8.ofNat b) : a = b := by
  have := congrArg UInt8.toNat h
  rwa [UInt8.toNat_ofNat', UInt8.toNat_ofNat', Nat.mod_eq_of_lt ha, Nat.mod_eq_of_lt hb] at this
theorem list_range (x : List UInt8) : (List.range x.length).map (fun j => x.getD j 0) = x := by
  refine List.ext_getElem (by simp) fun i h1 h2 => ?_
  simp [List.getD, List.getElem?_eq_getElem h2]
/-- k rows of the matrix of shards make nought of nought alone -/
theorem code_kernel {k m : Nat} (hkm : k + m ≤ 14) {sel : List Nat} (hs : sel.Nodup) (hlen : sel.length = k) (hlt : ∀ i ∈ sel, i < k + m) {x : List UInt8} (hx : x.length = k)
    (h : ∀ i ∈ sel, dot ((codeM k m).getD i []) x = 0) : ∀ j, j < k → x.getD j 0 = 0 := by
  have hone : ∀ i ∈ sel, i < k → x.getD i 0 = 0 := fun i hi hk => by
    have := h i hi
    rwa [codeM_one hk, dot_one k i x hx hk] at this
  have hmiss : ∀ j, j < k → (decide (j ∈ sel)) = true → x.getD j 0 = 0 := fun j hj hm => hone j (of_decide_eq_true hm) hj
  have key := cauchy (((List.range k).filter fun j => !decide (j ∈ sel)).map fun j => (x.getD j 0, UInt8.ofNat j)) ((sel.filter fun i => decide (k ≤ i)).map UInt8.ofNat) ?_ ?_ ?_ ?_ ?_
  · intro j hj
    by_cases hm : j ∈ sel
    · exact hone j hm hj
    · exact key (x.getD j 0, UInt8.ofNat j) (List.mem_map.2 ⟨j, List.mem_filter.2 ⟨List.mem_range.2 hj, by simpa using hm⟩, rfl⟩)
  · rw [List.map_map]
    refine List.pairwise_map.2 (List.Pairwise.imp_of_mem ?_ (List.nodup_range.filter _))
    intro a b ha hb hab e
    have h1 := List.mem_range.1 (List.mem_filter.1 ha).1
    have h2 := List.mem_range.1 (List.mem_filter.1 hb).1
    exact hab (ofNat_inj (by omega) (by omega) e)
  · refine List.pairwise_map.2 (List.Pairwise.imp_of_mem ?_ (hs.filter _))
    intro a b ha hb hab e
    have h1 := hlt a (List.mem_filter.1 ha).1
    have h2 := hlt b (List.mem_filter.1 hb).1
    exact hab (ofNat_inj (by omega) (by omega) e)
  · rw [List.length_map, List.length_map]
    have h1 := filter_len (fun i => decide (k ≤ i)) sel
    have h2 := filter_len (fun j => decide (j ∈ sel)) (List.range k)
    rw [List.length_range] at h2
    have h3 : (sel.filter fun i => !decide (k ≤ i)).length ≤ ((List.range k).filter fun j => decide (j ∈ sel)).length := by
      refine nodup_len (hs.filter _) fun a ha => ?_
      obtain ⟨h4, h5⟩ := List.mem_filter.1 ha
      exact List.mem_filter.2 ⟨List.mem_range.2 (by simpa using h5), by simpa using h4⟩
    omega
  · intro a ha q hq e
    obtain ⟨i, hi, rfl⟩ := List.mem_map.1 ha
    obtain ⟨j, hj, rfl⟩ := List.mem_map.1 hq
    have h1 := hlt i (List.mem_filter.1 hi).1
    have h2 := List.mem_range.1 (List.mem_filter.1 hj).1
    have h3 : k ≤ i := by simpa using (List.mem_filter.1 hi).2
    have := ofNat_inj (by omega) (by omega) e
    omega
  · intro a ha
    obtain ⟨i, hi, rfl⟩ := List.mem_map.1 ha
    obtain ⟨hi1, hi2⟩ := List.mem_filter.1 hi
    have h1 := hlt i hi1
    have h3 : k ≤ i := by simpa using hi2
    have h4 := h i hi1
    have e := dot_sum (fun j => x.getD j 0) (fun j => gib (UInt8.ofNat i ^^^ UInt8.ofNat j)) UInt8.ofNat (fun j => !decide (j ∈ sel)) (UInt8.ofNat i) (fun j => rfl) (List.range k) (fun j hj hp => hmiss j (List.mem_range.1 hj) (by simpa using hp))
    rw [← e]
    have e2 : (List.range k).map (fun j => x.getD j 0) = x := by
      have := list_range x
      rwa [hx] at this
    rw [e2]
    obtain ⟨i', rfl⟩ := Nat.exists_eq_add_of_le h3
    rw [codeM_par (by omega)] at h4
    rw [← h4, codeRow]
    congr 1
    refine List.map_congr_left fun j hj => ?_
    have := List.mem_range.1 hj
    rw [ofNat_xor (by omega) (by omega)]

/-! ### how rows are undone -/
def rw_ (rows : List (List UInt8)) (i : Nat) : List UInt8 := rows.getD i []
def Sol (n : Nat) (rows : List (List UInt8)) (z : List UInt8) : Prop := ∀ i, i < n → dot (rw_ rows i) z = 0
/-- after j columns: the row of each column -/
structure GInv (n : Nat) (A : List (List UInt8)) (j : Nat) (rows : List (List UInt8)) (tk : List Nat) : Prop where
  len : rows.length = n
  row : ∀ i, i < n → (rw_ rows i).length = 2 * n
  cnt : tk.length = j
  nd : tk.Nodup
  lt : ∀ i ∈ tk, i < n
  sol : ∀ x y : List UInt8, x.length = n → y.length = n → (Sol n rows (x ++ y) ↔ ∀ i, i < n → dot (rw_ A i) x = y.getD i 0)
  one : ∀ c, c < j → ∀ i, i < n → (rw_ rows i).getD c 0 = if tk[c]? = some i then 1 else 0
theorem GInv.zero {n : Nat} {A rows : List (List UInt8)} (hl : rows.length = n) (hA : ∀ i, i < n → (rw_ A i).length = n) (h : ∀ i, i < n → rw_ rows i = rw_ A i ++ oneRow n i) : GInv n A 0 rows [] where
  len := hl
  row := fun i hi => by rw [h i hi, List.length_append, hA i hi, oneRow_len]; omega
  cnt := rfl
  nd := List.nodup_nil
  lt := fun i hi => by cases hi
  sol := fun x y hx hy => by
    refine forall_congr' fun i => forall_congr' fun hi => ?_
    rw [h i hi, dot_app _ _ _ _ (by rw [hA i hi, hx]), dot_one n i y hy hi, xor_eq_zero]
  one := fun c hc => by omega
def scl (r : List UInt8) (c : UInt8) : List UInt8 := r.map fun a => gmb a c
def addR (r s : List UInt8) : List UInt8 := List.zipWith (· ^^^ ·) r s
/-- the row p is made one at the place j, and taken away from all others -/
def elimR (rows : List (List UInt8)) (p j : Nat) (i : Nat) : List UInt8 :=
  if i = p then scl (rw_ rows p) (gib ((rw_ rows p).getD j 0)) else addR (rw_ rows i) (scl (scl (rw_ rows p) (gib ((rw_ rows p).getD j 0))) ((rw_ rows i).getD j 0))
theorem getD_scl (r : List UInt8) (c : UInt8) (j : Nat) : (scl r c).getD j 0 = gmb (r.getD j 0) c := by
  simp only [scl, List.getD, List.getElem?_map]
  cases r[j]? <;> simp [zero_gmb]
theorem getD_addR {r s : List UInt8} (h : r.length = s.length) (j : Nat) : (addR r s).getD j 0 = r.getD j 0 ^^^ s.getD j 0 := by
  simp only [addR, List.getD, List.getElem?_zipWith]
  by_cases hj : j < r.length
  · rw [List.getElem?_eq_getElem hj, List.getElem?_eq_getElem (h ▸ hj)]; rfl
  · rw [List.getElem?_eq_none (by omega), List.getElem?_eq_none (by omega)]; simp
theorem scl_len (r : List UInt8) (c : UInt8) : (scl r c).length = r.length := by simp [scl]
theorem addR_len {r s : List UInt8} (h : r.length = s.length) : (addR r s).length = r.length := by simp [addR, h]
theorem GInv.step {n : Nat} {A rows rows' : List (List UInt8)} {j p : Nat} {tk : List Nat} (h : GInv n A j rows tk) (hp : p < n) (hpt : p ∉ tk) (hne : (rw_ rows p).getD j 0 ≠ 0)
    (hl : rows'.length = n) (hr : ∀ i, i < n → rw_ rows' i = elimR rows p j i) : GInv n A (j + 1) rows' (tk ++ [p]) := by
  have hrl := h.row
  have hPl : (scl (rw_ rows p) (gib ((rw_ rows p).getD j 0))).length = 2 * n := by rw [scl_len, hrl p hp]
  have hpn : ∀ c, c < j → tk[c]? ≠ some p := fun c hc e => hpt (List.mem_of_getElem? e)
  have hsol : ∀ z, Sol n rows' z ↔ Sol n rows z := fun z => by
    have hb : gib ((rw_ rows p).getD j 0) ≠ 0 := fun e => by
      have := gmb_gib _ hne
      rw [e, gmb_zero] at this
      exact absurd this (by decide)
    have e1 : dot (rw_ rows' p) z = gmb (dot (rw_ rows p) z) (gib ((rw_ rows p).getD j 0)) := by rw [hr p hp, elimR, if_pos rfl, scl, dot_scale]
    have e2 : ∀ i, i < n → i ≠ p → dot (rw_ rows' i) z = dot (rw_ rows i) z ^^^ gmb (dot (rw_ rows' p) z) ((rw_ rows i).getD j 0) := fun i hi hip => by
      rw [hr i hi, elimR, if_neg hip, addR, dot_add _ _ _ (by rw [scl_len, hPl, hrl i hi]), hr p hp, elimR, if_pos rfl]
      congr 1
      rw [scl, dot_scale]
    constructor
    · intro hs
      have h0 : dot (rw_ rows p) z = 0 := by
        have := hs p hp
        rw [e1] at this
        exact (gmb_eq_zero this).resolve_right hb
      intro i hi
      by_cases hip : i = p
      · rw [hip]; exact h0
      · have := hs i hi
        rwa [e2 i hi hip, hs p hp, zero_gmb, UInt8.xor_zero] at this
    · intro hs i hi
      have h0 : dot (rw_ rows' p) z = 0 := by rw [e1, hs p hp, zero_gmb]
      by_cases hip : i = p
      · rw [hip]; exact h0
      · rw [e2 i hi hip, hs i hi, h0, zero_gmb, UInt8.xor_zero]
  refine ⟨hl, fun i hi => ?_, by simp [h.cnt], List.nodup_append.2 ⟨h.nd, by simp, fun a ha b hb => by simp at hb; subst hb; exact fun e => hpt (e ▸ ha)⟩, fun i hi => ?_, fun x y hx hy => (hsol _).trans (h.sol x y hx hy), fun c hc i hi => ?_⟩
  · rw [hr i hi, elimR]
    split
    · exact hPl
    · rw [addR_len (by rw [scl_len, hPl, hrl i hi]), hrl i hi]
  · rw [List.mem_append, List.mem_singleton] at hi
    rcases hi with hi | rfl
    · exact h.lt i hi
    · exact hp
  · rw [hr i hi, elimR]
    by_cases hcj : c < j
    · have hc0 : (rw_ rows p).getD c 0 = 0 := by rw [h.one c hcj p hp, if_neg (hpn c hcj)]
      rw [List.getElem?_append_left (by rw [h.cnt]; exact hcj)]
      split
      · rename_i hip
        subst hip
        rw [getD_scl, hc0, zero_gmb, if_neg (hpn c hcj)]
      · rw [getD_addR (by rw [scl_len, hPl, hrl i hi]), getD_scl, getD_scl, hc0, zero_gmb, zero_gmb, UInt8.xor_zero, h.one c hcj i hi]
    · obtain rfl : c = j := by omega
      rw [List.getElem?_append_right (by rw [h.cnt]; exact Nat.le_refl _), h.cnt, Nat.sub_self]
      simp only [List.getElem?_cons_zero, Option.some.injEq]
      split
      · rename_i hip
        rw [if_pos hip.symm, getD_scl, gmb_gib _ hne]
      · rename_i hip
        rw [if_neg (fun e => hip e.symm), getD_addR (by rw [scl_len, hPl, hrl i hi]), getD_scl, getD_scl, gmb_gib _ hne, one_gmb, UInt8.xor_self]
/-- A makes nought of nought alone -/
def Inj (n : Nat) (A : List (List UInt8)) : Prop := ∀ x : List UInt8, x.length = n → (∀ i, i < n → dot (rw_ A i) x = 0) → ∀ j, j < n → x.getD j 0 = 0
theorem getD_zeros (n i : Nat) : (List.replicate n (0 : UInt8)).getD i 0 = 0 := by
  simp only [List.getD, List.getElem?_replicate]
  split <;> rfl
/-- some row that was not taken is not nought at the place j -/
theorem GInv.pick {n : Nat} {A rows : List (List UInt8)} {j : Nat} {tk : List Nat} (h : GInv n A j rows tk) (hA : Inj n A) (hj : j < n) : ∃ p, p < n ∧ p ∉ tk ∧ (rw_ rows p).getD j 0 ≠ 0 := by
  refine Classical.byContradiction fun hno => ?_
  have hno' : ∀ p, p < n → p ∉ tk → (rw_ rows p).getD j 0 = 0 := fun p h1 h2 => Classical.byContradiction fun h3 => hno ⟨p, h1, h2, h3⟩
  have hxs : (tk.map fun i => (rw_ rows i).getD j 0).length = j := by rw [List.length_map, h.cnt]
  generalize hX : (tk.map fun i => (rw_ rows i).getD j 0) = X at hxs
  have hlen : ((X ++ [1]) ++ List.replicate (n - j - 1) (0 : UInt8)).length = n := by simp [hxs]; omega
  have hsolz : Sol n rows (((X ++ [1]) ++ List.replicate (n - j - 1) 0) ++ List.replicate n 0) := fun i hi => by
    have hil := h.row i hi
    have e1 : rw_ rows i = (((rw_ rows i).take j ++ [(rw_ rows i).getD j 0]) ++ ((rw_ rows i).drop (j + 1)).take (n - j - 1)) ++ ((rw_ rows i).drop (j + 1)).drop (n - j - 1) := by
      rw [List.append_assoc, List.take_append_drop]
      have : (rw_ rows i).getD j 0 = (rw_ rows i)[j]'(by omega) := by simp [List.getD, List.getElem?_eq_getElem (show j < (rw_ rows i).length by omega)]
      rw [this, ← List.take_succ_eq_append_getElem, List.take_append_drop]
    have hz : ∀ (B : List UInt8) (t : Nat), dot B (List.replicate t 0) = 0 := fun B => by
      induction B with
      | nil => intro t; rfl
      | cons b B ih =>
        intro t
        cases t with
        | zero => exact dot_nil _
        | succ t => rw [List.replicate_succ, dot, ih, gmb_zero, UInt8.xor_zero]
    rw [e1, dot_app _ _ _ _ (by simp [hxs]; omega), dot_app _ _ _ _ (by simp [hxs]; omega), dot_app _ _ _ _ (by simp [hxs]; omega), hz, hz, UInt8.xor_zero, UInt8.xor_zero]
    have e2 : dot [(rw_ rows i).getD j 0] [1] = (rw_ rows i).getD j 0 := by simp [dot, gmb_one]
    rw [e2]
    by_cases hit : i ∈ tk
    · obtain ⟨c, hc, hci⟩ := List.mem_iff_getElem.1 hit
      rw [h.cnt] at hc
      have e3 : (rw_ rows i).take j = oneRow j c := by
        refine List.ext_getElem (by simp [oneRow_len]; omega) fun t h1 h2 => ?_
        have ht : t < j := by rw [oneRow_len] at h2; exact h2
        have h3 := h.one t ht i hi
        rw [List.getD, List.getElem?_eq_getElem (by omega), Option.getD_some] at h3
        rw [List.getElem_take, h3]
        simp only [oneRow, List.getElem_set, List.getElem_replicate]
        by_cases htc : c = t
        · rw [if_pos htc, if_pos (by rw [← htc, List.getElem?_eq_getElem (by rw [h.cnt]; exact hc), hci])]
        · rw [if_neg htc, if_neg]
          intro e
          obtain ⟨h5, h6⟩ := List.getElem?_eq_some_iff.1 e
          exact htc ((List.getElem_inj (h₀ := by rw [h.cnt]; exact hc) (h₁ := h5) h.nd).1 (hci.trans h6.symm))
      rw [e3, dot_one j c X hxs hc, xor_eq_zero, ← hX]
      simp [List.getD, List.getElem?_eq_getElem (show c < tk.length by rw [h.cnt]; exact hc), hci]
    · have e3 : (rw_ rows i).take j = List.replicate j 0 := by
        refine List.ext_getElem (by simp; omega) fun t h1 h2 => ?_
        have ht : t < j := by simpa using h2
        have h3 := h.one t ht i hi
        rw [List.getD, List.getElem?_eq_getElem (by omega), Option.getD_some, if_neg (fun e => hit (List.mem_of_getElem? e))] at h3
        rw [List.getElem_take, h3, List.getElem_replicate]
      rw [e3, dot_zero, UInt8.zero_xor, hno' i hi hit]
  have h0 := hA _ hlen (fun i hi => by
    have := (h.sol _ (List.replicate n 0) hlen (by simp)).1 hsolz i hi
    rwa [getD_zeros] at this) j hj
  rw [List.getD, List.getElem?_append_left (by simp [hxs]), List.getElem?_append_right (by omega), hxs, Nat.sub_self] at h0
  exact absurd h0 (by decide)
end Go.Proofs.YtlldgodjfpgbcaaDoor
namespace Go.Proofs.YtlldgodjfpgbcaaDoor
set_option linter.unusedVariables false
set_option linter.unusedSimpArgs false

/-- B undoes A -/
structure InvR (n : Nat) (A B : List (List UInt8)) : Prop where
  len : B.length = n
  row : ∀ l ∈ B, l.length = n
  iff : ∀ x y : List UInt8, x.length = n → y.length = n → ((∀ i, i < n → dot (rw_ A i) x = y.getD i 0) ↔ ∀ j, j < n → x.getD j 0 = dot (rw_ B j) y)
theorem getD_get {α : Type} {l : List α} {i : Nat} {d x : α} (h : l[i]? = some x) : l.getD i d = x := by simp [List.getD, h]
/-- the end of the steps -/
theorem GInv.inv {n : Nat} {A rows : List (List UInt8)} {tk : List Nat} (h : GInv n A n rows tk) : InvR n A (tk.map fun i => (rw_ rows i).drop n) := by
  have hall : ∀ i, i < n → i ∈ tk := fun i hi => by
    refine Classical.byContradiction fun hn => ?_
    have := nodup_len (l := i :: tk) (m := List.range n) (List.nodup_cons.2 ⟨hn, h.nd⟩) fun a ha => by
      rcases List.mem_cons.1 ha with rfl | ha
      · exact List.mem_range.2 hi
      · exact List.mem_range.2 (h.lt a ha)
    rw [List.length_cons, h.cnt, List.length_range] at this
    omega
  have hrow : ∀ c i, tk[c]? = some i → c < n ∧ i < n ∧ rw_ rows i = oneRow n c ++ (rw_ rows i).drop n ∧ rw_ (tk.map fun i => (rw_ rows i).drop n) c = (rw_ rows i).drop n := fun c i hc => by
    have hcn : c < n := by have := (List.getElem?_eq_some_iff.1 hc).1; rwa [h.cnt] at this
    have hin := h.lt i (List.mem_of_getElem? hc)
    refine ⟨hcn, hin, ?_, (getD_get (by rw [List.getElem?_map, hc]; rfl) : ((tk.map fun i => (rw_ rows i).drop n).getD c []) = _)⟩
    conv => lhs; rw [← List.take_append_drop n (rw_ rows i)]
    congr 1
    refine List.ext_getElem (by rw [List.length_take, h.row i hin, oneRow_len]; omega) fun t h1 h2 => ?_
    have ht : t < n := by rw [oneRow_len] at h2; exact h2
    have h3 := h.one t ht i hin
    have hl := h.row i hin
    rw [List.getD, List.getElem?_eq_getElem (by omega), Option.getD_some] at h3
    rw [List.getElem_take, h3]
    simp only [oneRow, List.getElem_set, List.getElem_replicate]
    by_cases htc : c = t
    · rw [if_pos htc, if_pos (by rw [← htc, hc])]
    · rw [if_neg htc, if_neg]
      intro e
      obtain ⟨h5, h6⟩ := List.getElem?_eq_some_iff.1 e
      obtain ⟨h7, h8⟩ := List.getElem?_eq_some_iff.1 hc
      exact htc ((List.getElem_inj (h₀ := h7) (h₁ := h5) h.nd).1 (h8.trans h6.symm))
  refine ⟨by rw [List.length_map, h.cnt], fun l hl => ?_, fun x y hx hy => ?_⟩
  · obtain ⟨i, hi, rfl⟩ := List.mem_map.1 hl
    rw [List.length_drop, h.row i (h.lt i hi)]; omega
  · rw [← h.sol x y hx hy]
    have key : ∀ c i, tk[c]? = some i → (dot (rw_ rows i) (x ++ y) = 0 ↔ x.getD c 0 = dot (rw_ (tk.map fun i => (rw_ rows i).drop n) c) y) := fun c i hc => by
      obtain ⟨h1, h2, h3, h4⟩ := hrow c i hc
      rw [h4, h3, dot_app _ _ _ _ (by rw [oneRow_len, hx]), dot_one n c x hx h1, xor_eq_zero]
      have e : (oneRow n c ++ (rw_ rows i).drop n).drop n = (rw_ rows i).drop n := List.drop_left' (oneRow_len n c)
      rw [e]
    constructor
    · intro hs j hj
      have hj' : tk[j]? = some (tk[j]'(by rw [h.cnt]; exact hj)) := List.getElem?_eq_getElem (by rw [h.cnt]; exact hj)
      exact (key j _ hj').1 (hs _ (hrow j _ hj').2.1)
    · intro hs i hi
      obtain ⟨c, hc⟩ := List.mem_iff_getElem?.1 (hall i hi)
      exact (key c i hc).2 (hs c (hrow c i hc).1)

/-! ### blends, place by place -/
def colN (D : List (List UInt8)) (t : Nat) : List UInt8 := D.map fun r => r.getD t 0
theorem colN_len (D : List (List UInt8)) (t : Nat) : (colN D t).length = D.length := by simp [colN]
theorem blendB_get (N : Nat) (c : List UInt8) (D : List (List UInt8)) (hD : ∀ l ∈ D, l.length = N) (t : Nat) (ht : t < N) : (blendB N c D).getD t 0 = dot c (colN D t) := by
  have gen : ∀ (c : List UInt8) (D : List (List UInt8)) (s : List UInt8), (∀ l ∈ D, l.length = N) → s.length = N → ((c.zip D).foldl (fun s p => List.zipWith (· ^^^ ·) s (p.2.map fun x => gmb x p.1)) s).getD t 0 = s.getD t 0 ^^^ dot c (colN D t) := by
    intro c
    induction c with
    | nil => intro D s _ _; simp [dot]
    | cons a c ih =>
      intro D s hD hs
      cases D with
      | nil => simp [dot, colN]
      | cons r D =>
        have hr := hD r (List.mem_cons_self ..)
        rw [List.zip_cons_cons, List.foldl_cons, ih D _ (fun l hl => hD l (List.mem_cons_of_mem _ hl)) (by simp [hs, hr])]
        have e : (List.zipWith (· ^^^ ·) s (r.map fun x => gmb x a)).getD t 0 = s.getD t 0 ^^^ gmb (r.getD t 0) a := by
          have := getD_addR (r := s) (s := scl r a) (by rw [scl_len]; omega) t
          rw [getD_scl] at this
          exact this
        rw [e, UInt8.xor_assoc]
        congr 1
        rw [gmb_comm]; rfl
  unfold blendB
  rw [gen c D _ hD (by simp), getD_zeros, UInt8.zero_xor]
theorem list_ext_getD {a b : List UInt8} {N : Nat} (ha : a.length = N) (hb : b.length = N) (h : ∀ t, t < N → a.getD t 0 = b.getD t 0) : a = b := by
  refine List.ext_getElem (by omega) fun t h1 h2 => ?_
  have := h t (by omega)
  simpa [List.getD, List.getElem?_eq_getElem h1, List.getElem?_eq_getElem h2] using this
theorem colN_get (D : List (List UInt8)) (t j : Nat) : (colN D t).getD j 0 = (rw_ D j).getD t 0 := by
  unfold colN rw_
  simp only [List.getD, List.getElem?_map]
  cases D[j]? <;> simp
theorem rw_map (f : List UInt8 → List UInt8) (C : List (List UInt8)) {i : Nat} (h : i < C.length) : rw_ (C.map f) i = f (rw_ C i) := by
  unfold rw_
  simp [List.getD, h]
theorem rw_mem {C : List (List UInt8)} {i : Nat} (h : i < C.length) : rw_ C i ∈ C := by
  unfold rw_
  simp [List.getD, h]
theorem rows_ext {A B : List (List UInt8)} {n : Nat} (ha : A.length = n) (hb : B.length = n) (h : ∀ i, i < n → rw_ A i = rw_ B i) : A = B := by
  refine List.ext_getElem (by omega) fun i h1 h2 => ?_
  have := h i (by omega)
  simpa [rw_, List.getD, List.getElem?_eq_getElem h1, List.getElem?_eq_getElem h2] using this
def blends (N : Nat) (C D : List (List UInt8)) : List (List UInt8) := C.map fun c => blendB N c D
theorem blends_len (N : Nat) (C D : List (List UInt8)) : (blends N C D).length = C.length := by simp [blends]
theorem blends_row {N : Nat} {C D : List (List UInt8)} (hD : ∀ l ∈ D, l.length = N) : ∀ l ∈ blends N C D, l.length = N := by
  intro l hl
  obtain ⟨c, _, rfl⟩ := List.mem_map.1 hl
  exact blendB_len N c D hD
/-- what is blended by B out of what A made, is what A was laid on -/
theorem InvR.undo {n N : Nat} {A B D H : List (List UInt8)} (h : InvR n A B) (hA : A.length = n) (hD : ∀ l ∈ D, l.length = N) (hDl : D.length = n) (hH : ∀ l ∈ H, l.length = N) (hHl : H.length = n) (hm : ∀ i, i < n → ∀ t, t < N → dot (rw_ A i) (colN D t) = (rw_ H i).getD t 0) : blends N B H = D := by
  refine rows_ext (n := n) (by rw [blends_len, h.len]) hDl fun j hj => ?_
  have e : rw_ (blends N B H) j = blendB N (rw_ B j) H := rw_map _ B (by rw [h.len]; exact hj)
  rw [e]
  refine list_ext_getD (blendB_len N _ H hH) (hD _ (rw_mem (by omega))) fun t ht => ?_
  rw [blendB_get N _ H hH t ht]
  have h1 := (h.iff (colN D t) (colN H t) (by rw [colN_len, hDl]) (by rw [colN_len, hHl])).1 (fun i hi => by rw [hm i hi t ht, colN_get]) j hj
  rw [← h1, colN_get]
theorem InvR.made {n N : Nat} {A B H : List (List UInt8)} (h : InvR n A B) (hA : A.length = n) (hH : ∀ l ∈ H, l.length = N) (hHl : H.length = n) : ∀ i, i < n → ∀ t, t < N → dot (rw_ A i) (colN (blends N B H) t) = (rw_ H i).getD t 0 := by
  intro i hi t ht
  have h1 := (h.iff (colN (blends N B H) t) (colN H t) (by rw [colN_len, blends_len, h.len]) (by rw [colN_len, hHl])).2 (fun j hj => by
    rw [colN_get]
    have e : rw_ (blends N B H) j = blendB N (rw_ B j) H := rw_map _ B (by rw [h.len]; exact hj)
    rw [e, blendB_get N _ H hH t ht]) i hi
  rw [h1, colN_get]
/-- two that undo the same do it alike -/
theorem InvR.uniq {n N : Nat} {A B B' H : List (List UInt8)} (h : InvR n A B) (h' : InvR n A B') (hA : A.length = n) (hH : ∀ l ∈ H, l.length = N) (hHl : H.length = n) : blends N B H = blends N B' H :=
  h.undo hA (blends_row hH) (by rw [blends_len, h'.len]) hH hHl (h'.made hA hH hHl)

/-! ### which rows are taken -/
def selS (k : Nat) (rows : List (List UInt8)) : List Nat := ((List.range rows.length).filter fun i => decide (rw_ rows i ≠ [])).take k
def codeSel (k m : Nat) (sel : List Nat) : List (List UInt8) := sel.map (rw_ (codeM k m))
def haveS (rows : List (List UInt8)) (sel : List Nat) : List (List UInt8) := sel.map (rw_ rows)
theorem selS_nodup (k : Nat) (rows : List (List UInt8)) : (selS k rows).Nodup := (List.nodup_range.filter _).sublist (List.take_sublist _ _)
theorem selS_mem {k : Nat} {rows : List (List UInt8)} {i : Nat} (h : i ∈ selS k rows) : i < rows.length ∧ rw_ rows i ≠ [] := by
  have := List.mem_of_mem_take h
  rw [List.mem_filter, List.mem_range] at this
  exact ⟨this.1, by simpa using this.2⟩
theorem codeSel_inj {k m : Nat} (hkm : k + m ≤ 14) {rows : List (List UInt8)} (hr : rows.length = k + m) (hs : (selS k rows).length = k) : Inj k (codeSel k m (selS k rows)) := by
  intro x hx h
  refine code_kernel hkm (selS_nodup k rows) hs (fun i hi => by rw [← hr]; exact (selS_mem hi).1) hx fun i hi => ?_
  obtain ⟨c, hc⟩ := List.mem_iff_getElem?.1 hi
  have hcl := (List.getElem?_eq_some_iff.1 hc).1
  have := h c (by omega)
  unfold codeSel rw_ at this
  rw [getD_get (x := (codeM k m).getD i [])] at this
  · exact this
  · rw [List.getElem?_map, hc]; rfl
/-- all rows, out of k of them -/
def MendR (k m N : Nat) (rows out : List (List UInt8)) : Prop := ∃ B, InvR k (codeSel k m (selS k rows)) B ∧ out = blends N (codeM k m) (blends N B (haveS rows (selS k rows)))
theorem MendR.uniq {k m N : Nat} {rows o o' : List (List UInt8)} (hs : (selS k rows).length = k) (hN : ∀ i, i < rows.length → rw_ rows i ≠ [] → (rw_ rows i).length = N) (h : MendR k m N rows o) (h' : MendR k m N rows o') : o = o' := by
  obtain ⟨B, hB, rfl⟩ := h
  obtain ⟨B', hB', rfl⟩ := h'
  rw [hB.uniq (N := N) (H := haveS rows (selS k rows)) hB' (by simp [codeSel, hs]) (fun l hl => by
    obtain ⟨i, hi, rfl⟩ := List.mem_map.1 hl
    have := selS_mem hi
    exact hN i this.1 this.2) (by simp [haveS, hs])]
/-- rows that were made of D are brought back -/
theorem MendR.back {k m N : Nat} {rows o D : List (List UInt8)} (hk : 0 < N) (hr : rows.length = k + m) (hs : (selS k rows).length = k) (hD : ∀ l ∈ D, l.length = N) (hDl : D.length = k) (hrow : ∀ i, i < rows.length → rw_ rows i ≠ [] → rw_ rows i = blendB N (rw_ (codeM k m) i) D)
    (h : MendR k m N rows o) : o = blends N (codeM k m) D := by
  obtain ⟨B, hB, rfl⟩ := h
  have hlen : (codeSel k m (selS k rows)).length = k := by simp [codeSel, hs]
  rw [hB.undo (N := N) (D := D) (H := haveS rows (selS k rows)) hlen hD hDl (fun l hl => by
    obtain ⟨i, hi, rfl⟩ := List.mem_map.1 hl
    have := selS_mem hi
    rw [hrow i this.1 this.2]
    exact blendB_len N _ D hD) (by simp [haveS, hs]) fun i hi t ht => ?_]
  have hi' : i < (selS k rows).length := by omega
  have hg : (selS k rows)[i]? = some (selS k rows)[i] := List.getElem?_eq_getElem hi'
  have hm := selS_mem (List.getElem_mem hi')
  have e1 : rw_ (codeSel k m (selS k rows)) i = rw_ (codeM k m) (selS k rows)[i] := by
    conv => lhs; unfold codeSel rw_
    exact getD_get (by rw [List.getElem?_map, hg]; rfl)
  have e2 : rw_ (haveS rows (selS k rows)) i = rw_ rows (selS k rows)[i] := by
    conv => lhs; unfold haveS rw_
    exact getD_get (by rw [List.getElem?_map, hg]; rfl)
  rw [e1, e2, hrow _ hm.1 hm.2, blendB_get N _ D hD t ht]

/-! ### lowest bits -/
theorem ctz_low {x : Nat} (h0 : 0 < x) (hx : x < 2 ^ 64) : Go.Lib.ctz 64 x < 64 ∧ x.testBit (Go.Lib.ctz 64 x) = true ∧ ∀ j, (x &&& (x - 1)).testBit j = (x.testBit j && decide (j ≠ Go.Lib.ctz 64 x)) := by
  have e : Go.Lib.ctz 64 x = Go.Lib.ctzFrom 64 x := by unfold Go.Lib.ctz; rw [if_neg (by omega)]
  obtain ⟨m, hm, hk⟩ := Go.Lib.ctzFrom_spec 64 x h0 hx
  rw [e]
  generalize Go.Lib.ctzFrom 64 x = c at *
  have h2 : 2 ^ c < 2 ^ (c + 1) := Nat.pow_lt_pow_right (by decide) (by omega)
  have hpos : 0 < 2 ^ c := Nat.pow_pos (by decide)
  have e1 : x = 2 ^ (c + 1) * m + 2 ^ c := by
    rw [hm, Nat.pow_succ, Nat.mul_add, Nat.mul_one, ← Nat.mul_assoc]
  have e2 : x - 1 = 2 ^ (c + 1) * m + (2 ^ c - 1) := by omega
  have t1 : ∀ j, x.testBit j = if j < c + 1 then (2 ^ c).testBit j else m.testBit (j - (c + 1)) := fun j => by
    conv => lhs; rw [e1]
    exact Nat.testBit_two_pow_mul_add m h2 j
  have t2 : ∀ j, (x - 1).testBit j = if j < c + 1 then (2 ^ c - 1).testBit j else m.testBit (j - (c + 1)) := fun j => by
    rw [e2]
    exact Nat.testBit_two_pow_mul_add m (by omega) j
  refine ⟨hk, by rw [t1, if_pos (by omega), Nat.testBit_two_pow_self], fun j => ?_⟩
  rw [Nat.testBit_and, t1, t2]
  by_cases hj : j < c + 1
  · rw [if_pos hj, if_pos hj, Nat.testBit_two_pow_sub_one, Nat.testBit_two_pow]
    by_cases hjc : j = c
    · subst hjc; simp
    · simp [show ¬ c = j by omega]
  · rw [if_neg hj, if_neg hj]
    simp [show ¬ j = c by omega]
end Go.Proofs.YtlldgodjfpgbcaaDoor
