/- Histories, plain: whether one may have been so. Nothing is claimed here. -/
import Derived.Test.YteclfkffgnfmpaaYr
namespace Go.Proofs.Yteclfkffgnfmpaa
set_option linter.unusedVariables false
set_option linter.unusedSimpArgs false

def Cl.key (c : Cl) : Int × Nat := (c.fid.vol, c.fid.key)
def Cl.asg (c : Cl) : Bool := decide (c.kind = 1) && c.sure && decide (c.err = 0)
def Cl.wr (c : Cl) : Bool := c.counts && decide (c.kind ≠ 3)
def written (cs : List Cl) (k : Int × Nat) : Bool := cs.any fun c => c.wr && decide (c.key = k)
def given (cs : List Cl) (k : Int × Nat) : Bool := cs.any fun c => c.asg && decide (c.key = k)
/-- was a place given twice? -/
def twiceS : List Cl → Bool
  | [] => false
  | c :: cs => twiceS cs || (c.asg && given cs c.key)
def Cl.keep (cs : List Cl) (c : Cl) : Bool := c.counts && !(decide (c.kind = 3) && decide (c.err = 7) && !written cs c.key)
/-- the calls of one place that count, among the first ones -/
def rowS (cs l : List Cl) (k : Int × Nat) : List Cl := l.filter fun c => decide (c.key = k) && c.keep cs
def reachRow (row : List Cl) : Bool := reach row (row.length + 1) 0 (0, 0, ByteArray.empty)
def longS (cs : List Cl) : Bool := cs.any fun c => decide (16 < (rowS cs cs c.key).length)
def orderS (cs : List Cl) : Bool := cs.all fun c => reachRow (rowS cs cs c.key)
def checkC (cs : List Cl) : Bool × Int := if longS cs then (false, 5) else (orderS cs && !twiceS cs.reverse, 0)
def checkS (l : List Ev) : Bool × Int := match readS false l with
  | none => (false, 1)
  | some cs => checkC cs

theorem asg_counts {c : Cl} (h : c.asg = true) : c.counts = false := by
  simp only [Cl.asg, Bool.and_eq_true, decide_eq_true_eq] at h
  simp [Cl.counts, h.1.1]
theorem rowS_key {cs l : List Cl} {k : Int × Nat} {c : Cl} (h : c ∈ rowS cs l k) : c.key = k ∧ c ∈ l := by
  obtain ⟨h1, h2⟩ := List.mem_filter.1 h
  simp only [Bool.and_eq_true, decide_eq_true_eq] at h2
  exact ⟨h2.1, h1⟩
theorem rowS_snoc (cs l : List Cl) (c : Cl) (k : Int × Nat) : rowS cs (l ++ [c]) k = rowS cs l k ++ (if (decide (c.key = k) && c.keep cs) = true then [c] else []) := by
  simp only [rowS, List.filter_append, List.filter_cons, List.filter_nil]
theorem written_snoc (l : List Cl) (c : Cl) (k : Int × Nat) : written (l ++ [c]) k = (written l k || (c.wr && decide (c.key = k))) := by simp [written]
theorem given_snoc (l : List Cl) (c : Cl) (k : Int × Nat) : given (l ++ [c]) k = (given l k || (c.asg && decide (c.key = k))) := by simp [given]
theorem given_rev (l : List Cl) (k : Int × Nat) : given l.reverse k = given l k := by simp [given]
theorem twice_snoc (l : List Cl) (c : Cl) : twiceS (l ++ [c]).reverse = (twiceS l.reverse || (c.asg && given l c.key)) := by
  simp [twiceS, given_rev]

/-- begins and stops lie among the events -/
theorem readFrom_le {strict : Bool} {n : Nat} : ∀ (l : List Ev) (i : Nat) (acc out : List (Int × Cl)), i + l.length ≤ n → (∀ x ∈ acc, x.2.begins ≤ n ∧ x.2.stops ≤ n) → readFrom strict n i l acc = some out → ∀ x ∈ out, x.2.begins ≤ n ∧ x.2.stops ≤ n
  | [], _, acc, out, _, h, he => by simp only [readFrom, Option.some.injEq] at he; subst he; exact h
  | e :: l, i, acc, out, hi, h, he => by
    simp only [List.length_cons] at hi
    simp only [readFrom] at he
    split at he
    · rename_i acc' hs
      refine readFrom_le l (i + 1) acc' out (by omega) (fun x hx => ?_) he
      unfold stepE at hs
      split at hs
      · cases hs
      · split at hs
        · split at hs
          · cases hs
          · injection hs with hs
            subst hs
            rcases List.mem_append.1 hx with h1 | h1
            · exact h x h1
            · rw [List.mem_singleton.1 h1]; exact ⟨by show i ≤ n; omega, Nat.le_refl _⟩
        · split at hs
          · rename_i k id c hk
            split at hs
            · injection hs with hs
              subst hs
              rcases List.mem_or_eq_of_mem_set hx with h1 | rfl
              · exact h x h1
              · exact ⟨(h _ (List.mem_of_getElem? hk)).1, by show i ≤ n; omega⟩
            · cases hs
          · cases hs
    · cases he
theorem readS_le {strict : Bool} {l : List Ev} {cs : List Cl} (h : readS strict l = some cs) : ∀ c ∈ cs, c.begins ≤ l.length ∧ c.stops ≤ l.length := by
  simp only [readS, Option.map_eq_some_iff] at h
  obtain ⟨out, ho, rfl⟩ := h
  intro c hc
  obtain ⟨x, hx, rfl⟩ := List.mem_map.1 hc
  exact readFrom_le l 0 [] out (by omega) (by simp) ho x hx
theorem readFrom_len {strict : Bool} {n : Nat} : ∀ (l : List Ev) (i : Nat) (acc out : List (Int × Cl)), readFrom strict n i l acc = some out → out.length ≤ acc.length + l.length
  | [], _, acc, out, he => by simp only [readFrom, Option.some.injEq] at he; subst he; simp
  | e :: l, i, acc, out, he => by
    simp only [readFrom] at he
    split at he
    · rename_i acc' hs
      have := readFrom_len l (i + 1) acc' out he
      have h2 : acc'.length ≤ acc.length + 1 := by
        unfold stepE at hs
        split at hs
        · cases hs
        · split at hs
          · split at hs
            · cases hs
            · injection hs with hs
              subst hs; simp
          · split at hs
            · split at hs
              · injection hs with hs
                subst hs; simp
              · cases hs
            · cases hs
      simp only [List.length_cons]; omega
    · cases he
theorem readS_len {strict : Bool} {l : List Ev} {cs : List Cl} (h : readS strict l = some cs) : cs.length ≤ l.length := by
  simp only [readS, Option.map_eq_some_iff] at h
  obtain ⟨out, ho, rfl⟩ := h
  have := readFrom_len l 0 [] out ho
  simpa using this
theorem reachRow_nil : reachRow [] = true := by simp [reachRow, reach, leftS]
theorem row_has {cs : List Cl} {k : Int × Nat} (h : rowS cs cs k ≠ []) : ∃ c ∈ cs, c.counts = true ∧ c.key = k := by
  obtain ⟨d, hd⟩ := List.exists_mem_of_ne_nil _ h
  have h1 := rowS_key hd
  have h2 := (List.mem_filter.1 hd).2
  simp only [Cl.keep, Bool.and_eq_true] at h2
  exact ⟨d, h1.2, h2.2.1, h1.1⟩
theorem long_all (cs : List Cl) : longS cs = true ↔ ∃ k, 16 < (rowS cs cs k).length := by
  simp only [longS, List.any_eq_true, decide_eq_true_eq]
  refine ⟨fun ⟨c, _, h⟩ => ⟨_, h⟩, fun ⟨k, h⟩ => ?_⟩
  obtain ⟨c, hc, _, hk⟩ := row_has (cs := cs) (k := k) (fun he => by rw [he] at h; simp at h)
  exact ⟨c, hc, by rw [hk]; exact h⟩
theorem order_all (cs : List Cl) : orderS cs = true ↔ ∀ k, reachRow (rowS cs cs k) = true := by
  simp only [orderS, List.all_eq_true]
  refine ⟨fun h k => ?_, fun h c _ => h _⟩
  by_cases hne : rowS cs cs k = []
  · rw [hne]; exact reachRow_nil
  · obtain ⟨c, hc, _, hk⟩ := row_has hne
    rw [← hk]; exact h c hc
end Go.Proofs.Yteclfkffgnfmpaa
