/- Rows that are one's own, one by one; steps of an inversion, in plain Lean. Nothing is claimed here. -/
import Derived.Test.YtlldgodjfpgbcaaDoorGa
import Derived.Test.YtlldgodjfpgbcaaDoorSd
namespace Go.Proofs.YtlldgodjfpgbcaaDoor
open Go.RowKit
set_option linter.unusedVariables false
set_option linter.unusedSimpArgs false
set_option maxRecDepth 100000

theorem Sep.adds {P : Program} {B : Nat} {w0 w w' : World} {L L' : List Res} (h : Sep P B w0 w L) (hB : B ≤ w.heap.size) (h' : Sep P w.heap.size w w' L') : Sep P B w0 w' (L' ++ L) := by
  have hc := h.call hB (Turns.of_below h'.below)
  refine ⟨hc.below, fun R hR => ?_, fun R hR => ?_, ?_⟩
  · rcases List.mem_append.1 hR with hR | hR
    · exact h'.hold R hR
    · exact hc.hold R hR
  · rcases List.mem_append.1 hR with hR | hR
    · exact fun b hb => Nat.le_trans hB (h'.own R hR b hb)
    · exact hc.own R hR
  · rw [List.flatMap_append, List.nodup_append]
    refine ⟨h'.apart, h.apart, fun a ha b hb hab => ?_⟩
    subst hab
    obtain ⟨R, hR, hr⟩ := List.mem_flatMap.1 ha
    obtain ⟨Q, hQ, hq⟩ := List.mem_flatMap.1 hb
    have h1 := h'.own R hR a hr
    have h2 := (h.lt hQ hq).2
    omega
theorem splice_one {xs : List Value} {k : Nat} {v : Value} (h : k < xs.length) : splice xs k [v] = xs.set k v := by
  rw [splice_eq _ _ _ (by simp; omega)]
  refine List.ext_getElem? fun i => ?_
  rw [List.getElem?_set]
  simp only [List.length_cons, List.length_nil, List.getElem?_append, List.length_take, List.length_append, List.getElem?_take, List.getElem?_drop]
  rw [Nat.min_eq_left (by omega)]
  by_cases h1 : i < k
  · rw [if_pos (by omega), if_pos h1, if_pos h1, if_neg (by omega)]
  · by_cases h2 : i = k
    · subst h2
      simp [h]
    · rw [if_neg (by omega), if_neg (by omega)]
      congr 1
      omega

theorem own_shape {w : World} {B : Nat} {e : TypeId} {sz n : Nat} {v : Value} {xs : List Value} (h : w.ownsRow B e sz v n xs) : (v = .slice none 0 0 ∧ n = 0) ∨ ∃ g c, v = .slice (some ⟨g, 0, none⟩) n c ∧ n ≤ c := by
  rcases h.2 with h | ⟨g, cap, cur, rfl, _, _, h1, _⟩
  · exact .inl h
  · exact .inr ⟨g, cap, rfl, h1⟩
theorem own_addr {w : World} {base sz n c m : Nat} {e : TypeId} {a : Option Addr} {xs : List Value} (h : w.ownsRow base e sz (.slice a n c) m xs) (hn : 0 < m) : (∃ g, a = some ⟨g, 0, none⟩) ∧ n ≤ c := by
  rcases own_shape h with ⟨e, h0⟩ | ⟨g, c9, e, h1⟩
  · omega
  · injection e with e1 e2 e3
    subst e2; subst e3
    exact ⟨⟨g, e1⟩, h1⟩

/-- a row of bytes of one's own -/
def bR (u : Value) (l : List UInt8) : Res := .row 5 1 u l.length (bv l)
/-- rows of bytes, each among what is one's own -/
structure InsR (us : List Value) (ls : List (List UInt8)) (L : List Res) : Prop where
  len : us.length = ls.length
  mem : ∀ (i : Nat) (u : Value) (l : List UInt8), us[i]? = some u → ls[i]? = some l → bR u l ∈ L
theorem InsR.nil (L : List Res) : InsR [] [] L := ⟨rfl, fun i u l h => by simp at h⟩
theorem InsR.mono {us : List Value} {ls : List (List UInt8)} {L L' : List Res} (h : InsR us ls L) (hs : ∀ R ∈ L, R ∈ L') : InsR us ls L' := ⟨h.len, fun i u l h1 h2 => hs _ (h.mem i u l h1 h2)⟩
theorem InsR.cons {us : List Value} {ls : List (List UInt8)} {L : List Res} (h : InsR us ls L) (R : Res) : InsR us ls (R :: L) := h.mono fun _ hR => List.mem_cons_of_mem _ hR
theorem InsR.snoc {us : List Value} {ls : List (List UInt8)} {L : List Res} {u : Value} {l : List UInt8} (h : InsR us ls L) (hm : bR u l ∈ L) : InsR (us ++ [u]) (ls ++ [l]) L := by
  have hl := h.len
  refine ⟨by simp [h.len], fun i u' l' h1 h2 => ?_⟩
  rw [List.getElem?_append] at h1 h2
  split at h1
  · rw [if_pos (by omega)] at h2
    exact h.mem i u' l' h1 h2
  · rw [if_neg (by omega)] at h2
    have : i = us.length := by
      have := (List.getElem?_eq_some_iff.1 h1).1
      simp at this; omega
    subst this
    simp [hl] at h1 h2
    subst h1; subst h2; exact hm
theorem InsR.set {us : List Value} {ls : List (List UInt8)} {L : List Res} {u : Value} {l : List UInt8} (h : InsR us ls L) (i : Nat) (hm : bR u l ∈ L) : InsR (us.set i u) (ls.set i l) L := by
  refine ⟨by simp [h.len], fun j u' l' h1 h2 => ?_⟩
  rw [List.getElem?_set] at h1 h2
  split at h1
  · rename_i hi; subst hi
    rw [if_pos rfl] at h2
    split at h1
    · rename_i hi
      rw [if_pos (by rw [← h.len]; exact hi)] at h2
      simp at h1 h2; subst h1; subst h2; exact hm
    · simp at h1
  · rename_i hi
    rw [if_neg hi] at h2
    exact h.mem j u' l' h1 h2
theorem InsR.get {us : List Value} {ls : List (List UInt8)} {L : List Res} (h : InsR us ls L) {i : Nat} (hi : i < ls.length) : ∃ u, us[i]? = some u ∧ ls[i]? = some (rw_ ls i) ∧ bR u (rw_ ls i) ∈ L := by
  have : i < us.length := by rw [h.len]; exact hi
  have e : ls[i]? = some (rw_ ls i) := by unfold rw_; simp [List.getD, hi]
  exact ⟨us[i], List.getElem?_eq_getElem this, e, h.mem i _ _ (List.getElem?_eq_getElem this) e⟩
theorem bR_sl {P : Program} {w : World} {u : Value} {l : List UInt8} (h : (bR u l).holds P w) : Sl w u (bv l) := by
  have h1 : w.ownsRow 0 5 1 u l.length (bv l) := h
  exact Sl.of_own h1
theorem InsR.ins {P : Program} {B : Nat} {w0 w : World} {us : List Value} {ls : List (List UInt8)} {L : List Res} (h : InsR us ls L) (hL : Sep P B w0 w L) : Ins w us ls := ⟨h.len, fun i u l h1 h2 => bR_sl (hL.hold _ (h.mem i u l h1 h2))⟩

/-! ### steps -/
def aug (n : Nat) (A : List (List UInt8)) : List (List UInt8) := (List.range n).map fun i => rw_ A i ++ oneRow n i
theorem aug_len (n : Nat) (A : List (List UInt8)) : (aug n A).length = n := by simp [aug]
theorem aug_get {n : Nat} {A : List (List UInt8)} {i : Nat} (h : i < n) : (aug n A)[i]? = some (rw_ A i ++ oneRow n i) := by simp [aug, h]
theorem aug_rw {n : Nat} {A : List (List UInt8)} {i : Nat} (h : i < n) : rw_ (aug n A) i = rw_ A i ++ oneRow n i := by
  unfold rw_
  rw [List.getD, aug_get h]; rfl
theorem aug_take {n : Nat} {A : List (List UInt8)} {i : Nat} (h : i < n) : (aug n A).take (i + 1) = (aug n A).take i ++ [rw_ A i ++ oneRow n i] := by
  rw [List.take_add_one, aug_get h]; rfl
theorem rw_some {A : List (List UInt8)} {i : Nat} (h : i < A.length) : A[i]? = some (rw_ A i) := by unfold rw_; simp [List.getD, h]
theorem rw_set {A : List (List UInt8)} {i k : Nat} {l : List UInt8} (h : i < A.length) : rw_ (A.set i l) k = if k = i then l else rw_ A k := by
  unfold rw_
  simp only [List.getD, List.getElem?_set]
  by_cases hk : k = i
  · subst hk; simp [h]
  · rw [if_neg (fun e => hk e.symm), if_neg hk]
theorem addR_zero {r s : List UInt8} (h : r.length = s.length) : addR r (scl s 0) = r := by
  refine List.ext_getElem (by rw [addR_len (by rw [scl_len]; exact h)]) fun i h1 h2 => ?_
  simp [addR, scl, gmb_zero]
/-- the rows, when i of them are done; the one that was picked is done at once -/
def rowsP (rows : List (List UInt8)) (n p j i : Nat) : List (List UInt8) := (List.range n).map fun k => if k = p ∨ k < i then elimR rows p j k else rw_ rows k
theorem rowsP_len (rows : List (List UInt8)) (n p j i : Nat) : (rowsP rows n p j i).length = n := by simp [rowsP]
theorem rowsP_rw {rows : List (List UInt8)} {n p j i k : Nat} (hk : k < n) : rw_ (rowsP rows n p j i) k = if k = p ∨ k < i then elimR rows p j k else rw_ rows k := by
  show (rowsP rows n p j i).getD k [] = _
  exact getD_get (by unfold rowsP; simp [hk])
theorem rows_eq {A B : List (List UInt8)} {n : Nat} (hA : A.length = n) (hB : B.length = n) (h : ∀ k, k < n → rw_ A k = rw_ B k) : A = B := rows_ext hA hB h
theorem rowsP_zero {rows : List (List UInt8)} {n p j : Nat} (hl : rows.length = n) (hp : p < n) : rowsP rows n p j 0 = rows.set p (scl (rw_ rows p) (gib ((rw_ rows p).getD j 0))) := by
  refine rows_ext (rowsP_len ..) (by simp [hl]) fun k hk => ?_
  rw [rowsP_rw hk, rw_set (by omega)]
  by_cases h : k = p
  · rw [if_pos (.inl h), if_pos h, elimR, if_pos h]
  · rw [if_neg (by omega), if_neg h]
/-- a row that has nought at the place, or is the one that was picked, stays -/
theorem rowsP_stay {rows : List (List UInt8)} {n p j i : Nat} (hr : ∀ k, k < n → (rw_ rows k).length = 2 * n) (hp : p < n) (hi : i < n) (h : i = p ∨ (rw_ rows i).getD j 0 = 0) : rowsP rows n p j (i + 1) = rowsP rows n p j i := by
  refine rows_ext (rowsP_len ..) (rowsP_len ..) fun k hk => ?_
  rw [rowsP_rw hk, rowsP_rw hk]
  by_cases h1 : k = p ∨ k < i
  · rw [if_pos h1, if_pos (by omega)]
  · rw [if_neg h1]
    by_cases h2 : k = i
    · subst h2
      rw [if_pos (by omega), elimR, if_neg (fun e => h1 (.inl e))]
      rcases h with h | h
      · exact absurd (.inl h) h1
      · rw [h, addR_zero (by rw [scl_len, hr _ hk, hr _ hp])]
    · rw [if_neg (by omega)]
theorem rowsP_add {rows : List (List UInt8)} {n p j i : Nat} (hp : p < n) (hi : i < n) (h : i ≠ p) : rowsP rows n p j (i + 1) = (rowsP rows n p j i).set i (addR (rw_ rows i) (scl (scl (rw_ rows p) (gib ((rw_ rows p).getD j 0))) ((rw_ rows i).getD j 0))) := by
  refine rows_ext (rowsP_len ..) (by rw [List.length_set, rowsP_len]) fun k hk => ?_
  rw [rowsP_rw hk, rw_set (by rw [rowsP_len]; exact hi), rowsP_rw hk]
  by_cases h2 : k = i
  · subst h2
    rw [if_pos (by omega), if_pos rfl, elimR, if_neg h]
  · rw [if_neg h2]
    by_cases h1 : k = p ∨ k < i
    · rw [if_pos h1, if_pos (by omega)]
    · rw [if_neg h1, if_neg (by omega)]
theorem rowsP_full {rows : List (List UInt8)} {n p j : Nat} : ∀ i, i < n → rw_ (rowsP rows n p j n) i = elimR rows p j i := fun i hi => by rw [rowsP_rw hi, if_pos (.inr hi)]
theorem elimR_len {rows : List (List UInt8)} {n p j i : Nat} (hr : ∀ k, k < n → (rw_ rows k).length = 2 * n) (hp : p < n) (hi : i < n) : (elimR rows p j i).length = 2 * n := by
  unfold elimR
  split
  · rw [scl_len, hr _ hp]
  · rw [addR_len (by rw [scl_len, scl_len, hr _ hp, hr _ hi]), hr _ hi]
theorem rowsP_row {rows : List (List UInt8)} {n p j i : Nat} (hr : ∀ k, k < n → (rw_ rows k).length = 2 * n) (hp : p < n) : ∀ k, k < n → (rw_ (rowsP rows n p j i) k).length = 2 * n := fun k hk => by
  rw [rowsP_rw hk]
  split
  · exact elimR_len hr hp hk
  · exact hr _ hk

/-! ### sets of 64 bits -/
theorem andNot_u64 (x y : Nat) (hx : x < 18446744073709551616) (hy : y < 18446744073709551616) : ∃ z : Nat, bits .andNot .u64 (x : Int) (y : Int) = (z : Int) ∧ z < 18446744073709551616 ∧ ∀ i, z.testBit i = (x.testBit i && !y.testBit i) := by
  refine ⟨(BitVec.ofNat 64 x &&& ~~~BitVec.ofNat 64 y).toNat, ?_, BitVec.isLt _, fun i => ?_⟩
  · show IntKind.u64.wrap ((BitVec.ofInt 64 (x : Int) &&& ~~~BitVec.ofInt 64 (y : Int)).toNat : Int) = _
    rw [BitVec.ofInt_natCast, BitVec.ofInt_natCast, IntKind.wrap_u64]
    have := (BitVec.ofNat 64 x &&& ~~~BitVec.ofNat 64 y).isLt
    omega
  · rw [BitVec.toNat_and, Nat.testBit_and, BitVec.toNat_ofNat, Nat.mod_eq_of_lt (by simpa using hx)]
    by_cases hi : i < 64
    · congr 1
      rw [BitVec.testBit_toNat, BitVec.getLsbD_not, BitVec.getLsbD_ofNat]
      simp [hi]
    · have h1 : x.testBit i = false := Nat.testBit_lt_two_pow (Nat.lt_of_lt_of_le hx (Nat.pow_le_pow_right (by decide : 0 < 2) (show 64 ≤ i by omega)))
      rw [h1]; simp
theorem all_bits (n i : Nat) (hn : n ≤ 64) : (18446744073709551615 / 2 ^ (64 - n)).testBit i = decide (i < n) := by
  have e : 18446744073709551615 / 2 ^ (64 - n) = 2 ^ n - 1 := by
    have h1 : 18446744073709551615 = 2 ^ 64 - 1 := by decide
    have h2 : (2 : Nat) ^ 64 = 2 ^ n * 2 ^ (64 - n) := by rw [← Nat.pow_add]; congr 1; omega
    have hp : 0 < 2 ^ (64 - n) := Nat.two_pow_pos _
    have hq : 0 < 2 ^ n := Nat.two_pow_pos _
    refine Nat.div_eq_of_lt_le ?_ ?_
    · rw [h1, h2, Nat.sub_mul]; omega
    · rw [h1, h2, Nat.sub_add_cancel hq]
      have := Nat.mul_pos hq hp
      omega
  rw [e, Nat.testBit_two_pow_sub_one]
end Go.Proofs.YtlldgodjfpgbcaaDoor
