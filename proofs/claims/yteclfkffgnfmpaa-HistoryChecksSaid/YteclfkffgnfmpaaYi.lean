/- garnerref24.Check: first the plain side. Nothing is claimed here. -/
import Derived.Test.YteclfkffgnfmpaaYh
import Derived.Test.YteclfkffgnfmpaaYe
namespace Go.Proofs.Yteclfkffgnfmpaa
open Go.RowKit
set_option linter.unusedVariables false
set_option maxRecDepth 100000

def checkT (l : List Ev) : Bool × Int := match readS true l with
  | none => (false, 1)
  | some cs => checkC cs
def rowC (cs : List Cl) (k : Int × Nat) : List Cl :=
  if (cs.filter (keepR k)).any wrR then cs.filter (keepR k) else (cs.filter (keepR k)).filter fun c => decide (c.err ≠ 7)
theorem rowO_map (A : List Op') (k : Int × Nat) : (rowO A k).map (·.c) = rowC (A.map (·.c)) k := by
  simp only [rowO, rowC, List.filter_map, List.any_map]
  split <;> rename_i h
  · rw [if_pos (by simpa [Function.comp_def] using h)]; rfl
  · rw [if_neg (by simpa [Function.comp_def] using h)]; rfl
theorem keepR_eq {c : Cl} {k : Int × Nat} (h1 : 1 ≤ c.kind) (h4 : c.kind ≤ 4) : keepR k c = (decide (c.key = k) && c.counts) := by
  unfold keepR Cl.counts
  by_cases hk1 : c.kind = 1
  · simp [hk1]
  · have ht := toldS_eq c.kind c.err (by omega) h4
    rw [ht]
    cases hs : c.sure <;> by_cases hk3 : c.kind = 3 <;> simp [hk1, hk3]
theorem rowC_eq {cs : List Cl} {k : Int × Nat} (hk : ∀ c ∈ cs, 1 ≤ c.kind ∧ c.kind ≤ 4) : rowC cs k = rowS cs cs k := by
  have h1 : cs.filter (keepR k) = cs.filter fun c => decide (c.key = k) && c.counts := List.filter_congr fun c hc => keepR_eq (hk c hc).1 (hk c hc).2
  have h2 : (cs.filter (keepR k)).any wrR = written cs k := by
    rw [h1, List.any_filter]
    unfold written
    refine List.any_congr rfl fun c => ?_
    simp only [Cl.wr, wrR]
    cases c.counts <;> cases decide (c.kind ≠ 3) <;> simp
  unfold rowC
  rw [h2]
  cases hw : written cs k
  · simp only [Bool.false_eq_true, if_false]
    rw [h1, List.filter_filter]
    refine List.filter_congr fun c hc => ?_
    by_cases hkey : c.key = k
    · simp only [Cl.keep, hkey, hw]
      have hno : c.counts = true → c.kind = 3 := fun hct => by
        refine Classical.byContradiction fun h3 => ?_
        have : written cs k = true := List.any_eq_true.2 ⟨c, hc, by simp [Cl.wr, hct, h3, hkey]⟩
        rw [hw] at this; cases this
      cases hct : c.counts
      · simp
      · simp [hno hct]
    · simp [hkey]
  · simp only [if_true]
    rw [h1]
    refine List.filter_congr fun c hc => ?_
    by_cases hkey : c.key = k
    · simp [Cl.keep, hkey, hw]
    · simp [hkey]
theorem reachRow_nil : reachRow [] = true := by simp [reachRow, reach, leftS]
theorem order_of {cs : List Cl} (h : ∀ c ∈ cs, c.kind ≠ 1 → reachRow (rowS cs cs c.key) = true) : orderS cs = true := by
  simp only [orderS, List.all_eq_true]
  intro c hc
  by_cases hne : rowS cs cs c.key = []
  · rw [hne]; exact reachRow_nil
  · obtain ⟨d, hd⟩ := List.exists_mem_of_ne_nil _ hne
    have h1 := rowS_key hd
    have h2 : d.kind ≠ 1 := fun h1' => by
      have h3 := (List.mem_filter.1 hd).2
      simp [Cl.keep, Cl.counts, h1'] at h3
    rw [← h1.1]
    exact h d h1.2 h2
theorem readFrom_kind {strict : Bool} {n : Nat} : ∀ (l : List Ev) (i : Nat) (acc out : List (Int × Cl)), (∀ x ∈ acc, 1 ≤ x.2.kind ∧ x.2.kind ≤ 4) → readFrom strict n i l acc = some out → ∀ x ∈ out, 1 ≤ x.2.kind ∧ x.2.kind ≤ 4
  | [], _, acc, out, h, he => by simp only [readFrom, Option.some.injEq] at he; subst he; exact h
  | e :: l, i, acc, out, h, he => by
    simp only [readFrom] at he
    split at he
    · rename_i acc' hs
      refine readFrom_kind l (i + 1) acc' out (fun x hx => ?_) he
      unfold stepE at hs
      split at hs
      · cases hs
      · rename_i hkind
        split at hs
        · split at hs
          · cases hs
          · injection hs with hs
            subst hs
            rcases List.mem_append.1 hx with h1 | h1
            · exact h x h1
            · rw [List.mem_singleton.1 h1]
              simp only [begin']
              omega
        · split at hs
          · rename_i id c hk
            split at hs
            · injection hs with hs
              subst hs
              rcases List.mem_or_eq_of_mem_set hx with h1 | h1
              · exact h x h1
              · rw [h1]
                exact h (id, c) (List.mem_of_getElem? hk)
            · cases hs
          · cases hs
    · cases he
theorem readS_kind {strict : Bool} {l : List Ev} {cs : List Cl} (h : readS strict l = some cs) : ∀ c ∈ cs, 1 ≤ c.kind ∧ c.kind ≤ 4 := by
  unfold readS at h
  rw [Option.map_eq_some_iff] at h
  obtain ⟨out, ho, rfl⟩ := h
  intro c hc
  obtain ⟨x, hx, rfl⟩ := List.mem_map.1 hc
  exact readFrom_kind l 0 [] out (by simp) ho x hx
section
variable {P : Program} {T : Tab} (hT : TabOk P T)
include hT
/-- a part of an element of several cells -/
theorem Ld.rowG {w : World} {t : TypeId} {d : Td} {b o o' : Nat} {α : Type} {f : α → List Value} {sz : Nat} (hf : ∀ s, (f s).length = sz) {ss : List α} {k : Nat} {s : α} {K : Value → Prop} (j : Nat) (cs : List Value) (hr : Row w b o (ss.flatMap f)) (hl : look T t = some d) (ha : d.sh.agg = true) (hs : cs.length = d.size) (hx : ss[k]? = some s) (ho : o' = o + k * sz + j)
    (hc : ∀ q x, cs[q]? = some x → (f s)[j + q]? = some x) (hk : K (.agg cs.toArray)) : Ld P w t ⟨b, o', none⟩ K := by
  subst ho
  refine Ld.agg hT hl ha hs (fun q x hq => ?_) hk
  have hjl := (List.getElem?_eq_some_iff.1 (hc q x hq)).1
  rw [hf] at hjl
  have := hr (k * sz + (j + q)) x (by rw [flat_get hf (j + q) hx hjl]; exact hc q x hq)
  rw [show o + k * sz + j + q = o + (k * sz + (j + q)) from by omega]
  exact this
end
end Go.Proofs.Yteclfkffgnfmpaa
