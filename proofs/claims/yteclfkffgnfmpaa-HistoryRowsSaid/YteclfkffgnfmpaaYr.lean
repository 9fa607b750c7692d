/- Histories, plain: the search that remembers. Nothing is claimed here. -/
import Derived.Test.YteclfkffgnfmpaaYq
import Derived.Test.YteclfkffgnfmpaaYa
namespace Go.Proofs.Yteclfkffgnfmpaa
set_option linter.unusedVariables false
set_option linter.unusedSimpArgs false

structure okAt (x : Nat × HSt) : Prop where
  done : x.1 < 65536
  st : okSt x.2
/-- what was tried and has that many calls done, or more, leads nowhere -/
def Bad (row : List Cl) (T : List (Nat × HSt)) (c : Nat) : Prop := ∀ x ∈ T, c ≤ popc row.length x.1 → reach row (row.length + 1 - popc row.length x.1) x.1 x.2 = false
def Grew (n : Nat) (T T' : List (Nat × HSt)) (c : Nat) : Prop := ∀ x ∈ T', x ∈ T ∨ c ≤ popc n x.1
structure Tried' (row : List Cl) (T T' : List (Nat × HSt)) (c : Nat) : Prop where
  ok : ∀ x ∈ T', okAt x
  bad : Bad row T' c
  grew : Grew row.length T T' c
theorem Tried'.first {row : List Cl} {T : List (Nat × HSt)} {done : Nat} {s : HSt} (hok : ∀ x ∈ T, okAt x) (hat : okAt (done, s)) (hb : Bad row T (popc row.length done)) : Tried' row (T ++ [(done, s)]) (T ++ [(done, s)]) (popc row.length done + 1) := by
  refine ⟨fun x hx => ?_, fun x hx hc => ?_, fun x hx => .inl hx⟩
  · rcases List.mem_append.1 hx with h | h
    · exact hok x h
    · rw [List.mem_singleton.1 h]; exact hat
  · rcases List.mem_append.1 hx with h | h
    · exact hb x h (by omega)
    · rw [List.mem_singleton.1 h] at hc; dsimp only at hc; omega
theorem Tried'.next {row : List Cl} {T T' T2 : List (Nat × HSt)} {c : Nat} (h : Tried' row T T' c) (h' : Tried' row T' T2 c) : Tried' row T T2 c :=
  ⟨h'.ok, h'.bad, fun x hx => (h'.grew x hx).elim (fun h1 => h.grew x h1) .inr⟩
theorem Tried'.last {row : List Cl} {T T' : List (Nat × HSt)} {done : Nat} {s : HSt} {f : Nat} (hb : Bad row T (popc row.length done)) (h : Tried' row (T ++ [(done, s)]) T' (popc row.length done + 1)) (hf : f + 1 + popc row.length done = row.length + 1)
    (hr : reach row (f + 1) done s = false) : Tried' row T T' (popc row.length done) := by
  refine ⟨h.ok, fun x hx hc => ?_, fun x hx => ?_⟩
  · rcases h.grew x hx with h1 | h1
    · rcases List.mem_append.1 h1 with h2 | h2
      · exact hb x h2 hc
      · rw [List.mem_singleton.1 h2]
        rw [show row.length + 1 - popc row.length done = f + 1 from by omega]
        exact hr
    · exact h.bad x hx h1
  · rcases h.grew x hx with h1 | h1
    · rcases List.mem_append.1 h1 with h2 | h2
      · exact .inl h2
      · rw [List.mem_singleton.1 h2]; exact .inr (Nat.le_refl _)
    · exact .inr (by omega)

/-- none of the first i calls leads on -/
def noneTo (row : List Cl) (f done : Nat) (s : HSt) (i : Nat) : Prop :=
  ∀ j, j < i → freeS row done j = true → ∀ c, row[j]? = some c → ∀ x ∈ goesS c s, reach row f (done ||| 2 ^ j) x = false
theorem reach_none {row : List Cl} {f done : Nat} {s : HSt} (hl : leftS row done row.length = true) (h : noneTo row f done s row.length) : reach row (f + 1) done s = false := by
  simp only [reach, hl, Bool.true_eq_false, if_false]
  rw [List.any_eq_false]
  intro i hi
  have hi' := List.mem_range.1 hi
  simp only [Bool.and_eq_true, not_and, Bool.not_eq_true]
  intro hfree
  rw [List.getElem?_eq_getElem hi']
  simp only [List.any_eq_false, Bool.not_eq_true]
  exact h i hi' hfree _ (List.getElem?_eq_getElem hi')
theorem reach_some {row : List Cl} {f done : Nat} {s : HSt} (hl : leftS row done row.length = true) {i : Nat} {c : Cl} {x : HSt} (hc : row[i]? = some c) (hfree : freeS row done i = true) (hx : x ∈ goesS c s) (hr : reach row f (done ||| 2 ^ i) x = true) : reach row (f + 1) done s = true := by
  simp only [reach, hl, Bool.true_eq_false, if_false]
  rw [List.any_eq_true]
  refine ⟨i, List.mem_range.2 (List.getElem?_eq_some_iff.1 hc).1, ?_⟩
  simp only [hfree, Bool.true_and, hc, List.any_eq_true]
  exact ⟨x, hx, hr⟩
theorem reach_left {row : List Cl} {f done : Nat} {s : HSt} (hl : leftS row done row.length = false) : reach row (f + 1) done s = true := by
  simp only [reach, hl, if_true]
theorem bit_and (done k : Nat) : (done / 2 ^ k) &&& 1 = (done.testBit k).toNat := by
  rw [Nat.and_two_pow_sub_one_eq_mod (n := 1), Nat.testBit_eq_decide_div_mod_eq]
  have : done / 2 ^ k % 2 ^ 1 < 2 := Nat.mod_lt _ (by decide)
  rcases (by omega : done / 2 ^ k % 2 ^ 1 = 0 ∨ done / 2 ^ k % 2 ^ 1 = 1) with h | h <;> simp at h <;> simp [h]
theorem pow_lt {i : Nat} (h : i < 16) : 2 ^ i < 65536 := Nat.pow_lt_pow_right (by decide) (by omega : i < 16)
theorem or_lt {done i n : Nat} (hd : done < 2 ^ n) (hi : i < n) : done ||| 2 ^ i < 2 ^ n := Nat.or_lt_two_pow hd (Nat.pow_lt_pow_right (by decide) hi)
theorem leftS_step {row : List Cl} {done k : Nat} {c : Cl} (h : row[k]? = some c) : leftS row done (k + 1) = (leftS row done k || (!done.testBit k && c.sure)) := by simp [leftS, h]
theorem firstS_step {row : List Cl} {done k : Nat} {c : Cl} (h : row[k]? = some c) : firstS row done (k + 1) = if (!done.testBit k && c.sure) = true then min (firstS row done k) c.stops else firstS row done k := by simp [firstS, h]
theorem firstS_le (row : List Cl) (done : Nat) : ∀ n, firstS row done n ≤ topEnd
  | 0 => Nat.le_refl _
  | n + 1 => by
    unfold firstS
    split
    · split
      · exact Nat.le_trans (Nat.min_le_left _ _) (firstS_le row done n)
      · exact firstS_le row done n
    · exact firstS_le row done n
theorem goesS_ok {c : Cl} {s x : HSt} (hs : okSt s) (hf : okU c.fid.cookie) (hd : c.data.length ≤ maxLen) (h : x ∈ goesS c s) : okSt x := by
  obtain ⟨e, _, he⟩ := List.mem_flatMap.1 h
  unfold goS at he
  split at he
  · split at he
    · rw [List.mem_singleton.1 he]
      have hlay : okSt (1, c.fid.cookie, mkB c.data) := ⟨(by decide : (Lit.int .i64 1).wf = true), hf, by rw [mkB_size]; exact hd⟩
      have h2 : okSt (2, 0, ByteArray.empty) := ⟨(by decide : (Lit.int .i64 2).wf = true), (by decide : (Lit.int .u32 ((0 : Nat) : Int)).wf = true), by simp [maxLen]⟩
      unfold nextS
      repeat' split
      all_goals first | exact hs | exact hlay | exact h2
    · simp at he
  · simp at he
end Go.Proofs.Yteclfkffgnfmpaa
