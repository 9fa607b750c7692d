/- Histories, plain: an order of calls, said without masks. Nothing is claimed here. -/
import Derived.Test.YteclfkffgnfmpaaYs
namespace Go.Proofs.Yteclfkffgnfmpaa
set_option linter.unusedVariables false
set_option linter.unusedSimpArgs false

/-- what is left of a row, by its mask -/
def rest (done : Nat) : Nat → List Cl → List Cl
  | _, [] => []
  | j, c :: l => if done.testBit j then rest done (j + 1) l else c :: rest done (j + 1) l
inductive Can : List Cl → HSt → Prop
  | stop {l : List Cl} {s : HSt} (h : ∀ c ∈ l, c.sure = false) : Can l s
  | step {A B : List Cl} {c : Cl} {s x : HSt} (hf : ∀ d ∈ A ++ c :: B, d.sure = true → c.begins ≤ d.stops) (hx : x ∈ goesS c s) (h : Can (A ++ B) x) : Can (A ++ c :: B) s

theorem rest_append (done : Nat) (B : List Cl) : ∀ (A : List Cl) (j : Nat), rest done j (A ++ B) = rest done j A ++ rest done (j + A.length) B
  | [], j => rfl
  | c :: A, j => by
    simp only [List.cons_append, rest, rest_append done B A (j + 1), List.length_cons]
    rw [show j + 1 + A.length = j + (A.length + 1) from by omega]
    split <;> simp
theorem or_bit (done i j : Nat) : (done ||| 2 ^ i).testBit j = (done.testBit j || decide (i = j)) := by
  rw [Nat.testBit_or, Nat.testBit_two_pow]
theorem rest_or (done i : Nat) : ∀ (l : List Cl) (j : Nat), (i < j ∨ j + l.length ≤ i) → rest (done ||| 2 ^ i) j l = rest done j l
  | [], j, _ => rfl
  | c :: l, j, h => by
    simp only [List.length_cons] at h
    simp only [rest, rest_or done i l (j + 1) (by omega), or_bit, show decide (i = j) = false from by simp; omega, Bool.or_false]
theorem rest_split {done : Nat} {A B : List Cl} {c : Cl} {j : Nat} (h : done.testBit (j + A.length) = false) :
    rest done j (A ++ c :: B) = rest done j A ++ c :: rest done (j + A.length + 1) B ∧ rest (done ||| 2 ^ (j + A.length)) j (A ++ c :: B) = rest done j A ++ rest done (j + A.length + 1) B := by
  refine ⟨?_, ?_⟩
  · rw [rest_append]
    simp [rest, h]
  · rw [rest_append, rest_or _ _ A j (.inr (by omega))]
    simp only [rest, or_bit, h, decide_true, Bool.or_true, if_true]
    rw [rest_or _ _ B _ (.inl (by omega))]
theorem rest_open {done : Nat} {X Y : List Cl} {c : Cl} : ∀ (l : List Cl) (j : Nat), rest done j l = X ++ c :: Y → ∃ A B, l = A ++ c :: B ∧ done.testBit (j + A.length) = false ∧ X = rest done j A ∧ Y = rest done (j + A.length + 1) B := by
  intro l
  induction l generalizing X with
  | nil => intro j h; simp [rest] at h
  | cons d l ih =>
    intro j h
    simp only [rest] at h
    split at h
    · rename_i hb
      obtain ⟨A, B, h1, h2, h3, h4⟩ := ih (j + 1) h
      refine ⟨d :: A, B, by rw [h1]; rfl, ?_, ?_, ?_⟩
      · rw [← h2]; congr 1; simp; omega
      · rw [h3]; simp [rest, hb]
      · rw [h4]; congr 1; simp; omega
    · rename_i hb
      rcases X with _ | ⟨x, X⟩
      · simp only [List.nil_append, List.cons.injEq] at h
        obtain ⟨rfl, h⟩ := h
        exact ⟨[], l, rfl, by simpa using hb, rfl, h.symm⟩
      · simp only [List.cons_append, List.cons.injEq] at h
        obtain ⟨rfl, h⟩ := h
        obtain ⟨A, B, h1, h2, h3, h4⟩ := ih (j + 1) h
        refine ⟨d :: A, B, by rw [h1]; rfl, ?_, ?_, ?_⟩
        · rw [← h2]; congr 1; simp; omega
        · rw [h3]; simp [rest, hb]
        · rw [h4]; congr 1; simp; omega
theorem rest_mem {done : Nat} {c : Cl} {l : List Cl} {j : Nat} : c ∈ rest done j l ↔ ∃ i, l[i]? = some c ∧ done.testBit (j + i) = false := by
  constructor
  · intro h
    obtain ⟨X, Y, h⟩ := List.append_of_mem h
    obtain ⟨A, B, rfl, h2, _⟩ := rest_open l j h
    exact ⟨A.length, by simp, h2⟩
  · rintro ⟨i, hi, hb⟩
    obtain ⟨hlt, he⟩ := List.getElem?_eq_some_iff.1 hi
    have hl : l = l.take i ++ c :: l.drop (i + 1) := by
      rw [← he, ← List.drop_eq_getElem_cons hlt, List.take_append_drop]
    have hlen : (l.take i).length = i := by simp; omega
    rw [hl, (rest_split (by rw [hlen]; exact hb)).1]
    simp
theorem left_iff {row : List Cl} {done : Nat} : ∀ n, leftS row done n = true ↔ ∃ i c, i < n ∧ row[i]? = some c ∧ done.testBit i = false ∧ c.sure = true
  | 0 => by simp [leftS]
  | n + 1 => by
    simp only [leftS, Bool.or_eq_true, left_iff n]
    constructor
    · rintro (⟨i, c, h1, h2⟩ | h)
      · exact ⟨i, c, by omega, h2⟩
      · split at h
        · rename_i c hc
          simp only [Bool.and_eq_true, Bool.not_eq_true'] at h
          exact ⟨n, c, by omega, hc, h⟩
        · cases h
    · rintro ⟨i, c, h1, h2, h3, h4⟩
      by_cases hin : i = n
      · subst hin
        right
        simp [h2, h3, h4]
      · exact .inl ⟨i, c, by omega, h2, h3, h4⟩
theorem first_iff {row : List Cl} {done b : Nat} (hb : b ≤ topEnd) : ∀ n, b ≤ firstS row done n ↔ ∀ i c, i < n → row[i]? = some c → done.testBit i = false → c.sure = true → b ≤ c.stops
  | 0 => by simp [firstS, hb]
  | n + 1 => by
    simp only [firstS]
    constructor
    · intro h i c h1 h2 h3 h4
      by_cases hin : i = n
      · subst hin
        simp only [h2, h3, h4, Bool.not_false, Bool.and_self, if_true] at h
        exact Nat.le_trans h (Nat.min_le_right _ _)
      · refine (first_iff hb n).1 ?_ i c (by omega) h2 h3 h4
        split at h
        · split at h
          · exact Nat.le_trans h (Nat.min_le_left _ _)
          · exact h
        · exact h
    · intro h
      have h1 := (first_iff hb n).2 fun i c hi => h i c (by omega)
      split
      · rename_i c hc
        split
        · rename_i h2
          simp only [Bool.and_eq_true, Bool.not_eq_true'] at h2
          exact Nat.le_min.2 ⟨h1, h n c (by omega) hc h2.1 h2.2⟩
        · exact h1
      · exact h1
theorem left_rest {row : List Cl} {done : Nat} : leftS row done row.length = false ↔ ∀ c ∈ rest done 0 row, c.sure = false := by
  rw [← Bool.not_eq_true, left_iff]
  constructor
  · intro h c hc
    obtain ⟨i, h1, h2⟩ := rest_mem.1 hc
    rw [Nat.zero_add] at h2
    cases hs : c.sure
    · rfl
    · exact absurd ⟨i, c, (List.getElem?_eq_some_iff.1 h1).1, h1, h2, hs⟩ h
  · rintro h ⟨i, c, h1, h2, h3, h4⟩
    have := h c (rest_mem.2 ⟨i, h2, by rw [Nat.zero_add]; exact h3⟩)
    rw [h4] at this; cases this
theorem free_rest {row : List Cl} {done i : Nat} {c : Cl} (hi : row[i]? = some c) (hb : done.testBit i = false) (hc : c.begins ≤ topEnd) : freeS row done i = true ↔ ∀ d ∈ rest done 0 row, d.sure = true → c.begins ≤ d.stops := by
  simp only [freeS, hi, hb, Bool.not_false, Bool.true_and, decide_eq_true_eq, first_iff hc]
  constructor
  · intro h d hd hs
    obtain ⟨k, h1, h2⟩ := rest_mem.1 hd
    rw [Nat.zero_add] at h2
    exact h k d (List.getElem?_eq_some_iff.1 h1).1 h1 h2 hs
  · intro h k d _ h1 h2 hs
    exact h d (rest_mem.2 ⟨k, h1, by rw [Nat.zero_add]; exact h2⟩) hs
theorem reach_can {row : List Cl} (hrow : ∀ c ∈ row, c.begins ≤ topEnd) : ∀ (f done : Nat) (s : HSt), (rest done 0 row).length < f → (reach row f done s = true ↔ Can (rest done 0 row) s)
  | 0, done, s, h => by omega
  | f + 1, done, s, h => by
    cases hl : leftS row done row.length
    · rw [reach_left hl]
      simp only [true_iff]
      exact .stop (left_rest.1 hl)
    · simp only [reach, hl, Bool.true_eq_false, if_false, List.any_eq_true, List.mem_range]
      constructor
      · rintro ⟨i, hi, h1⟩
        simp only [List.getElem?_eq_getElem hi, Bool.and_eq_true, List.any_eq_true] at h1
        obtain ⟨hfr, x, hx, hr⟩ := h1
        have hb : done.testBit i = false := by
          simp only [freeS, List.getElem?_eq_getElem hi, Bool.and_eq_true, Bool.not_eq_true'] at hfr
          exact hfr.1
        have hlen : (row.take i).length = i := by simp; omega
        have hsp : row = row.take i ++ row[i] :: row.drop (i + 1) := by
          rw [← List.drop_eq_getElem_cons hi, List.take_append_drop]
        have h2 := rest_split (done := done) (A := row.take i) (B := row.drop (i + 1)) (c := row[i]) (j := 0) (by rw [hlen, Nat.zero_add]; exact hb)
        rw [← hsp, hlen, Nat.zero_add] at h2
        have hfree := (free_rest (List.getElem?_eq_getElem hi) hb (hrow _ (List.getElem_mem hi))).1 hfr
        rw [h2.1] at hfree h ⊢
        refine .step hfree hx ?_
        rw [← h2.2]
        refine (reach_can hrow f _ x ?_).1 hr
        rw [h2.2]
        simp at h ⊢; omega
      · intro hcan
        generalize hr : rest done 0 row = r at hcan
        cases hcan with
        | stop hs =>
          rw [← hr, ← left_rest, hl] at hs
          cases hs
        | @step A B c _ x hf hx h' =>
          obtain ⟨A', B', hrow', hb, rfl, rfl⟩ := rest_open row 0 hr
          rw [Nat.zero_add] at hb
          have hi : A'.length < row.length := by rw [hrow']; simp
          have hic : row[A'.length]? = some c := by rw [hrow']; simp
          refine ⟨A'.length, hi, ?_⟩
          simp only [hic, Bool.and_eq_true, List.any_eq_true]
          refine ⟨(free_rest hic hb (hrow c (by rw [hrow']; simp))).2 (by rw [hr]; exact hf), x, hx, ?_⟩
          have h2 := rest_split (done := done) (A := A') (B := B') (c := c) (j := 0) (by rw [Nat.zero_add]; exact hb)
          rw [← hrow', Nat.zero_add] at h2
          refine (reach_can hrow f _ x ?_).2 ?_
          · rw [h2.2]
            rw [h2.1] at h
            simp at h ⊢; omega
          · rw [h2.2]; rw [Nat.zero_add] at h'; exact h'
theorem rest_zero : ∀ (l : List Cl) (j : Nat), rest 0 j l = l
  | [], _ => rfl
  | c :: l, j => by simp [rest, rest_zero l]
abbrev S0 : HSt := (0, 0, ByteArray.empty)
theorem row_can {row : List Cl} (hrow : ∀ c ∈ row, c.begins ≤ topEnd) : reachRow row = true ↔ Can row S0 := by
  unfold reachRow
  rw [reach_can hrow _ _ _ (by rw [rest_zero]; omega), rest_zero]
end Go.Proofs.Yteclfkffgnfmpaa
