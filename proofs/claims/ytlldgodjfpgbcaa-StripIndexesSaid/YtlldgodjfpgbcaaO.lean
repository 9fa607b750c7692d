/- What the reading of an argument says, opened by reduction. Nothing is claimed here. -/
import Derived.Test.YtlldgodjfpgbcaaSb
import Derived.WideShapes
namespace Go.Proofs.Ytlldgodjfpgbcaa
open Go.RowKit
set_option linter.unusedVariables false
set_option linter.unusedSimpArgs false

/-- the cells of an element of a slice, and what they read as -/
def elemO (w : World) (a : Addr) (sz i : Nat) (R : List Value → Prop) : Prop := ∃ es, es.length = sz ∧ (∀ j x, es[j]? = some x → w.cell? ((a.add (i * sz)).add j) = some x) ∧ R es
def opn (T : Tab) (w : World) : Nat → TypeId → List Value → Prop
  | 0 => fun _ _ => True
  | d + 1 => fun t cs => match look T t with
    | some ⟨sh, sz, _, _⟩ => match sh with
      | .bool => ∃ b, cs = [.bool b]
      | .int k => ∃ n, cs = [.int k n] ∧ (Lit.int k n).wf = true
      | .str => ∃ s, cs = [.string s] ∧ s.size ≤ maxLen
      | .slice e => match look T e with
        | some ⟨_, sz, _, _⟩ => cs = [.slice none 0 0] ∨ ∃ a n c, cs = [.slice (some a) n c] ∧ n ≤ c ∧ c ≤ maxLen ∧ ∀ i, i < c → elemO w a sz i fun es => opn T w d e es
        | none => True
      | .struct fs => cs.length = sz ∧ allF (fun f => match look T f.2 with
        | some ⟨_, sz, _, _⟩ => opn T w d f.2 (tkL (dpL cs f.1) sz)
        | none => True) fs
      | _ => True
    | none => True

theorem allF_of {α : Type} {p : α → Prop} : ∀ {l : List α}, (∀ x ∈ l, p x) → allF p l
  | [], _ => trivial
  | x :: l, h => ⟨h x (by simp), allF_of fun y hy => h y (by simp [hy])⟩
theorem mapM_get {α β : Type} {f : α → Option β} : ∀ {l : List α} {ys : List β}, l.mapM f = some ys → ∀ x ∈ l, ∃ y, f x = some y
  | [], ys, h, x, hx => by simp at hx
  | a :: l, ys, h, x, hx => by
    rw [List.mapM_cons] at h
    cases ha : f a with
    | none => simp [ha] at h
    | some b =>
      cases hl : l.mapM f with
      | none => simp [ha, hl] at h
      | some bs =>
        rcases List.mem_cons.1 hx with rfl | hx
        · exact ⟨b, ha⟩
        · exact mapM_get hl x hx
theorem cells_get {w : World} {base n : Nat} {a : Addr} {es : List Value} (h : w.cells? base a n = some es) : es.length = n ∧ ∀ j x, es[j]? = some x → w.cell? (a.add j) = some x := by
  unfold World.cells? at h
  split at h
  · have aux : ∀ (l : List Nat) (es : List Value), l.mapM (fun i => w.cell? (a.add i)) = some es → es.length = l.length ∧ ∀ (j i : Nat) (x : Value), l[j]? = some i → es[j]? = some x → w.cell? (a.add i) = some x := by
      intro l
      induction l with
      | nil => intro es h; simp at h; subst h; simp
      | cons i l ih =>
        intro es h
        rw [List.mapM_cons] at h
        cases hi : w.cell? (a.add i) with
        | none => simp [hi] at h
        | some v =>
          cases hl : l.mapM (fun i => w.cell? (a.add i)) with
          | none => simp [hi, hl] at h
          | some vs =>
            simp [hi, hl] at h
            subst h
            obtain ⟨h1, h2⟩ := ih vs hl
            refine ⟨by simp [h1], fun j i' x hj hx => ?_⟩
            cases j with
            | zero => simp at hj hx; subst hj; subst hx; exact hi
            | succ j => exact h2 j i' x (by simpa using hj) (by simpa using hx)
    obtain ⟨h1, h2⟩ := aux _ _ h
    refine ⟨by simpa using h1, fun j x hx => ?_⟩
    have hj := (List.getElem?_eq_some_iff.1 hx).1
    rw [h1] at hj
    simp at hj
    exact h2 j j x (by simp [hj]) hx
  · cases h

section
variable {H : Type} {enc : TypeId × Value → H} {P : Program} {T : Tab} (hT : TabOk P T) {w : World}
include hT
omit hT in
theorem slice_elem {a : Addr} {n c sze i : Nat} {R : List Value → Prop} {g : List Value → Option (DataW H × List MemPlace)} {F : List (DataW H × List MemPlace) → List (DataW H × List MemPlace) → DataW H × List MemPlace} {x : DataW H × List MemPlace} (hi : i < c) (hR : ∀ es y, g es = some y → R es)
    (h : ((List.range n).mapM fun i => (w.cells? 0 (a.add (i * sze)) sze).bind g).bind (fun elems => (if true = true then (List.range (c - n)).mapM fun j => (w.cells? 0 (a.add ((n + j) * sze)) sze).bind g else some []).map fun rest => F elems rest) = some x) : elemO w a sze i R := by
  cases h1 : (List.range n).mapM (fun i => (w.cells? 0 (a.add (i * sze)) sze).bind g) with
  | none => rw [h1] at h; simp at h
  | some elems =>
    rw [h1] at h
    simp only [Option.bind_some, if_true] at h
    cases h2 : (List.range (c - n)).mapM (fun j => (w.cells? 0 (a.add ((n + j) * sze)) sze).bind g) with
    | none => rw [h2] at h; simp at h
    | some rest =>
      have hi' : ∃ y, (w.cells? 0 (a.add (i * sze)) sze).bind g = some y := by
        rcases Nat.lt_or_ge i n with h3 | h3
        · exact mapM_get h1 i (List.mem_range.2 h3)
        · have := mapM_get h2 (i - n) (List.mem_range.2 (by omega))
          rwa [show n + (i - n) = i from by omega] at this
      obtain ⟨y, hy⟩ := hi'
      cases h4 : w.cells? 0 (a.add (i * sze)) sze with
      | none => rw [h4] at hy; simp at hy
      | some es =>
        rw [h4] at hy
        obtain ⟨h5, h6⟩ := cells_get h4
        exact ⟨es, h5, h6, hR es y hy⟩
theorem trod_opn : ∀ (d fuel : Nat) (t : TypeId) (cs : List Value) (x : DataW H × List MemPlace), DataW.trod enc P w 0 (fun _ => true) true fuel t cs = some x → opn T w d t cs
  | 0, _, _, _, _, _ => trivial
  | d + 1, 0, t, cs, x, h => by simp [DataW.trod] at h
  | d + 1, fuel + 1, t, cs, x, h => by
    unfold opn
    split
    case h_2 => trivial
    rename_i sh sz _ _ hl
    obtain ⟨u, hu, hs⟩ := shOf_cases hT hl
    split
    · cases u <;> simp only [shOf, reduceCtorEq] at hs
      simp only [DataW.trod, hu] at h
      split at h <;> first | (simp at *; done) | cases h | skip
      all_goals simp_all
    · cases u <;> simp only [shOf, reduceCtorEq, Sh.int.injEq] at hs
      subst hs
      simp only [DataW.trod, hu] at h
      split at h <;> simp_all
    · cases u <;> simp only [shOf, reduceCtorEq] at hs
      simp only [DataW.trod, hu] at h
      split at h <;> simp_all
    · rename_i e
      cases u <;> simp only [shOf, reduceCtorEq, Sh.slice.injEq] at hs
      rename_i el
      subst hs
      split
      case h_2 => trivial
      rename_i sze _ _ hle
      have hsz : P.cellsOf el = sze := cellsOf_td hT hle
      rcases cs with _ | ⟨v, _ | ⟨v2, cs⟩⟩
      · simp [DataW.trod, hu] at h
      · cases v with
        | slice ao n c =>
          cases ao with
          | none =>
            cases n with
            | zero =>
              cases c with
              | zero => exact .inl rfl
              | succ c => simp [DataW.trod, hu] at h
            | succ n => simp [DataW.trod, hu] at h
          | some a =>
            simp only [DataW.trod, hu] at h
            right
            refine ⟨a, n, c, rfl, ?_⟩
            split at h
            case isFalse => cases h
            rename_i hcond
            refine ⟨hcond.2.1, hcond.2.2, fun i hi => ?_⟩
            rw [hsz] at h
            exact slice_elem hi (fun es y hy => trod_opn d fuel _ es y hy) h
        | _ => simp [DataW.trod, hu] at h
      · simp [DataW.trod, hu] at h
    · rename_i fs
      cases u <;> simp only [shOf, reduceCtorEq, Sh.struct.injEq] at hs
      rename_i fields
      have hsz : P.cellsOf t = sz := cellsOf_td hT hl
      simp only [DataW.trod, hu, hsz] at h
      split at h
      case isFalse => cases h
      rename_i hlen
      refine ⟨hlen, allF_of fun f hf => ?_⟩
      split
      case h_2 => trivial
      rename_i szf _ _ hlf
      rw [← hs] at hf
      obtain ⟨fd, hfd, rfl⟩ := List.mem_map.1 hf
      cases h1 : fields.toList.mapM (fun f => DataW.trod enc P w 0 (fun _ => true) true fuel f.type ((cs.drop f.offset).take (P.cellsOf f.type))) with
      | none => rw [h1] at h; simp at h
      | some xs =>
        obtain ⟨y, hy⟩ := mapM_get h1 fd hfd
        rw [tkL_eq, dpL_eq]
        rw [cellsOf_td hT hlf] at hy
        exact trod_opn d fuel fd.type _ y hy
    · trivial
end
end Go.Proofs.Ytlldgodjfpgbcaa
