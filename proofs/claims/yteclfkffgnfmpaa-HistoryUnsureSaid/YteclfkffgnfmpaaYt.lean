/- Histories, plain: readings side by side; the laws of what is unsure. Nothing is claimed here. -/
import Derived.Test.YteclfkffgnfmpaaYo
namespace Go.Proofs.Yteclfkffgnfmpaa
set_option linter.unusedVariables false
set_option linter.unusedSimpArgs false

theorem readFrom_app (s : Bool) (n : Nat) (l2 : List Ev) : ∀ (l1 : List Ev) (i : Nat) (acc : List (Int × Cl)), readFrom s n i (l1 ++ l2) acc = (readFrom s n i l1 acc).bind (readFrom s n (i + l1.length) l2)
  | [], i, acc => rfl
  | e :: l1, i, acc => by
    simp only [List.cons_append, readFrom, List.length_cons]
    cases stepE s n i e acc with
    | none => rfl
    | some a =>
      simp only [readFrom_app s n l2 l1 (i + 1) a]
      rw [show i + 1 + l1.length = i + (l1.length + 1) from by omega]
/-- what stands in a reading at each number of events -/
theorem readFrom_inv {s : Bool} {n : Nat} (Q : Nat → Int × Cl → Prop) : ∀ (l : List Ev) (i : Nat) (acc out : List (Int × Cl)), (∀ j x, Q j x → Q (j + 1) x) → (∀ j e, e ∈ l → Q (j + 1) (e.call, begin' n j e)) →
    (∀ j e id c, e ∈ l → c.fin = false → Q j (id, c) → Q (j + 1) (id, finish s j e c)) → (∀ x ∈ acc, Q i x) → readFrom s n i l acc = some out → ∀ x ∈ out, Q (i + l.length) x
  | [], i, acc, out, _, _, _, h, he => by simp only [readFrom, Option.some.injEq] at he; subst he; exact h
  | e :: l, i, acc, out, h1, h2, h3, h, he => by
    simp only [readFrom] at he
    split at he
    · rename_i acc' hs
      rw [List.length_cons, show i + (l.length + 1) = i + 1 + l.length from by omega]
      refine readFrom_inv Q l (i + 1) acc' out h1 (fun j e he => h2 j e (List.mem_cons_of_mem _ he)) (fun j e id c he => h3 j e id c (List.mem_cons_of_mem _ he)) (fun x hx => ?_) he
      unfold stepE at hs
      split at hs
      · cases hs
      · split at hs
        · split at hs
          · cases hs
          · injection hs with hs
            subst hs
            rcases List.mem_append.1 hx with h4 | h4
            · exact h1 _ _ (h x h4)
            · rw [List.mem_singleton.1 h4]; exact h2 i e (List.mem_cons_self ..)
        · split at hs
          · split at hs
            · rename_i id c hk hf
              injection hs with hs
              subst hs
              rcases List.mem_or_eq_of_mem_set hx with h4 | rfl
              · exact h1 _ _ (h x h4)
              · exact h3 i e id c (List.mem_cons_self ..) hf.2 (h _ (List.mem_of_getElem? hk))
            · cases hs
          · cases hs
    · cases he
theorem read_order {s : Bool} {l : List Ev} {cs : List Cl} (h : readS s l = some cs) : ∀ c ∈ cs, c.fin = true → c.begins ≤ c.stops := by
  intro c hc
  simp only [readS, Option.map_eq_some_iff] at h
  obtain ⟨out, h, rfl⟩ := h
  obtain ⟨x, hx, rfl⟩ := List.mem_map.1 hc
  refine (readFrom_inv (fun j x => x.2.begins ≤ j ∧ (x.2.fin = true → x.2.begins ≤ x.2.stops)) l 0 [] out ?_ ?_ ?_ (by simp) h x hx).2
  · intro j x ⟨h1, h2⟩; exact ⟨by omega, h2⟩
  · intro j e _; exact ⟨by show j ≤ j + 1; omega, fun h => by cases h⟩
  · intro j e id c _ _ ⟨h1, h2⟩
    exact ⟨by show c.begins ≤ j + 1; dsimp only at h1; omega, fun _ => h1⟩
theorem readFrom_ids {s : Bool} {n i : Nat} {l : List Ev} {out : List (Int × Cl)} (h : readFrom s n i l [] = some out) : ∀ x ∈ out, ∃ e ∈ l, e.call = x.1 :=
  readFrom_inv (fun _ x => ∃ e ∈ l, e.call = x.1) l i [] out (fun _ _ h => h) (fun j e he => ⟨e, he, rfl⟩) (fun j e id c he hf h => h) (by simp) h

/-- readings side by side -/
structure R' (k : Int) (φ : Nat → Nat) (lo : Bool) (p p' : Int × Cl) : Prop where
  id : p'.1 = p.1 + k
  rel : Sm φ p.2 p'.2 ∨ (lo = true ∧ p.2.fin = true ∧ Lost φ p.2 p'.2)
def sh (k : Int) (e : Ev) : Ev := { e with call := e.call + k }

inductive F2 {α β : Type} (R : α → β → Prop) : List α → List β → Prop
  | nil : F2 R [] []
  | cons {a : α} {b : β} {l : List α} {l' : List β} (h : R a b) (t : F2 R l l') : F2 R (a :: l) (b :: l')
theorem f2_get {α β : Type} {R : α → β → Prop} {l : List α} {l' : List β} (h : F2 R l l') : ∀ {k : Nat} {a : α}, l[k]? = some a → ∃ b, l'[k]? = some b ∧ R a b := by
  induction h with
  | nil => intro k a h; simp at h
  | cons h t ih =>
    intro k a hk
    rcases k with _ | k
    · simp at hk; subst hk; exact ⟨_, rfl, h⟩
    · exact ih (by simpa using hk)
theorem f2_set {α β : Type} {R : α → β → Prop} {l : List α} {l' : List β} (h : F2 R l l') {a : α} {b : β} (hab : R a b) : ∀ k : Nat, F2 R (l.set k a) (l'.set k b) := by
  induction h with
  | nil => intro k; exact .nil
  | cons h t ih =>
    intro k
    rcases k with _ | k
    · exact .cons hab t
    · exact .cons h (ih k)
theorem f2_snoc {α β : Type} {R : α → β → Prop} {l : List α} {l' : List β} (h : F2 R l l') {a : α} {b : β} (hab : R a b) : F2 R (l ++ [a]) (l' ++ [b]) := by
  induction h with
  | nil => exact .cons hab .nil
  | cons h t ih => exact .cons h ih
theorem f2_imp {α β : Type} {R S : α → β → Prop} {l : List α} {l' : List β} (h : F2 R l l') (hrs : ∀ a b, R a b → S a b) : F2 S l l' := by
  induction h with
  | nil => exact .nil
  | cons h t ih => exact .cons (hrs _ _ h) ih
theorem idx_sim {k : Int} {φ : Nat → Nat} {lo : Bool} {acc acc' : List (Int × Cl)} (h : F2 (R' k φ lo) acc acc') (c : Int) : idx acc' (c + k) = idx acc c := by
  unfold idx
  induction h with
  | nil => rfl
  | cons h t ih =>
    simp only [List.findIdx?_cons, ih, h.id, Int.add_left_inj]
theorem step_sim {k : Int} {φ : Nat → Nat} {lo : Bool} {n n' i i' : Nat} (e : Ev) {acc acc' a : List (Int × Cl)} (hφ : φ i = i') (h : F2 (R' k φ lo) acc acc') (hs : stepE false n i e acc = some a) :
    ∃ a', stepE false n' i' (sh k e) acc' = some a' ∧ F2 (R' k φ lo) a a' := by
  unfold stepE at hs ⊢
  by_cases hk : e.kind < 1 ∨ 4 < e.kind
  · rw [if_pos hk] at hs; cases hs
  rw [if_neg hk] at hs
  rw [if_neg (show ¬((sh k e).kind < 1 ∨ 4 < (sh k e).kind) from hk), show (sh k e).call = e.call + k from rfl, idx_sim h]
  cases hi : idx acc e.call with
  | none =>
    rw [hi] at hs
    dsimp only at hs ⊢
    cases hf : e.fin
    · rw [hf] at hs
      simp only [Bool.false_eq_true, if_false, Option.some.injEq] at hs
      subst hs
      refine ⟨acc' ++ [(e.call + k, begin' n' i' (sh k e))], by rw [show (sh k e).fin = false from hf]; rfl, f2_snoc h (b := (e.call + k, begin' n' i' (sh k e))) ⟨rfl, .inl ⟨rfl, rfl, rfl, rfl, rfl, rfl, hφ.symm, fun h => by cases h⟩⟩⟩
    · rw [hf] at hs; cases hs
  | some kk =>
    rw [hi] at hs
    dsimp only at hs ⊢
    cases hg : acc[kk]? with
    | none => rw [hg] at hs; cases hs
    | some p =>
      obtain ⟨id, c⟩ := p
      obtain ⟨⟨id', c'⟩, hg', hR⟩ := f2_get h hg
      rw [hg] at hs
      rw [hg']
      dsimp only at hs ⊢
      by_cases hf : e.fin = true ∧ c.fin = false
      · rw [if_pos hf, Option.some.injEq] at hs
        subst hs
        rcases hR.rel with hr | hr
        · dsimp only at hr
          refine ⟨acc'.set kk (id', finish false i' (sh k e) c'), by rw [if_pos ⟨hf.1, by rw [hr.fin]; exact hf.2⟩], f2_set h (a := (id, finish false i e c)) (b := (id', finish false i' (sh k e) c')) ⟨hR.id, .inl ⟨hr.kind, ?_, hr.data, rfl, rfl, rfl, hr.begins, fun _ => hφ.symm⟩⟩ kk⟩
          simp only [finish, Bool.false_eq_true, false_imp_iff, and_true, hr.kind, hr.fid]
          rfl
        · have := hr.2.1
          rw [hf.2] at this; cases this
      · rw [if_neg hf] at hs; cases hs
theorem read_sim {k : Int} {φ : Nat → Nat} {lo : Bool} {n n' : Nat} : ∀ (l : List Ev) (i i' : Nat) (acc acc' out : List (Int × Cl)), (∀ j, j < l.length → φ (i + j) = i' + j) → F2 (R' k φ lo) acc acc' → readFrom false n i l acc = some out →
    ∃ out', readFrom false n' i' (l.map (sh k)) acc' = some out' ∧ F2 (R' k φ lo) out out'
  | [], i, i', acc, acc', out, _, h, he => by
    simp only [readFrom, Option.some.injEq] at he
    subst he
    exact ⟨acc', rfl, h⟩
  | e :: l, i, i', acc, acc', out, hφ, h, he => by
    simp only [readFrom] at he
    split at he
    · rename_i a hs
      obtain ⟨a', h1, h2⟩ := step_sim (n' := n') e (by simpa using hφ 0 (by simp)) h hs
      obtain ⟨out', h3, h4⟩ := read_sim (n' := n') l (i + 1) (i' + 1) a a' out (fun j hj => by
        have := hφ (j + 1) (by simp; omega)
        rw [show i + 1 + j = i + (j + 1) from by omega, this]; omega) h2 he
      refine ⟨out', ?_, h4⟩
      rw [List.map_cons, readFrom, h1]
      exact h3
    · cases he
theorem f2_gl {k : Int} {φ : Nat → Nat} {lo : Bool} {l l' : List (Int × Cl)} (h : F2 (R' k φ lo) l l') : GL φ (l.map (·.2)) (l'.map (·.2)) := by
  induction h with
  | nil => exact .nil
  | cons h t ih =>
    rcases h.rel with h1 | h1
    · exact .same h1 ih
    · exact .lost h1.2.2 ih
theorem GL.snoc {φ : Nat → Nat} {l l' : List Cl} (h : GL φ l l') {c : Cl} (hc : c.fin = false) : GL φ l (l' ++ [c]) := by
  induction h with
  | nil => exact .more hc .nil
  | same h t ih => exact .same h ih
  | lost h t ih => exact .lost h ih
  | more h t ih => exact .more h ih
theorem sh_zero (l : List Ev) : l.map (sh 0) = l := by
  have : sh 0 = id := by funext e; simp [sh]
  rw [this, List.map_id]
theorem R'.refl0 {lo : Bool} (p : Int × Cl) : R' 0 (fun j => j) lo p p := ⟨by simp, .inl ⟨rfl, rfl, rfl, rfl, rfl, rfl, rfl, fun _ => rfl⟩⟩
theorem topB {s : Bool} {l : List Ev} {cs : List Cl} (h : readS s l = some cs) (hl : l.length ≤ 1000000) : ∀ c ∈ cs, c.begins ≤ topEnd := fun c hc => by
  have := (readS_le h c hc).1
  simp only [topEnd]; omega
theorem check_read {l : List Ev} (h : (checkS l).2 ≠ 1) : ∃ cs, readS false l = some cs ∧ checkS l = checkC cs := by
  unfold checkS at *
  cases hr : readS false l with
  | none => rw [hr] at h; exact absurd rfl h
  | some cs => exact ⟨cs, rfl, rfl⟩

/-- a call that is not told to end, laid behind -/
theorem unsure_more {l : List Ev} {x : Ev} (hl : l.length < 1000000) (hk : 1 ≤ x.kind ∧ x.kind ≤ 4) (hx : x.fin = false) (hid : ∀ e ∈ l, e.call ≠ x.call) (hc : checkS l = (true, 0)) : checkS (l ++ [x]) = (true, 0) ∨ (checkS (l ++ [x])).2 = 5 := by
  obtain ⟨cs, hr, he⟩ := check_read (l := l) (by rw [hc]; decide)
  rw [hc] at he
  have hr0 := hr
  simp only [readS, Option.map_eq_some_iff] at hr
  obtain ⟨out, hro, rfl⟩ := hr
  obtain ⟨out', h1, h2⟩ := read_sim (k := 0) (φ := fun j => j) (lo := false) (n' := (l ++ [x]).length) l 0 0 [] [] out (fun j _ => rfl) .nil hro
  rw [sh_zero] at h1
  have hix : idx out' x.call = none := by
    simp only [idx, List.findIdx?_eq_none_iff]
    intro p hp
    obtain ⟨e, he1, he2⟩ := readFrom_ids h1 p hp
    simpa [← he2] using hid e he1
  have hread : readS false (l ++ [x]) = some (out'.map (·.2) ++ [begin' (l ++ [x]).length l.length x]) := by
    simp only [readS, readFrom_app, h1, Option.bind_some, Nat.zero_add, readFrom, stepE, if_neg (show ¬(x.kind < 1 ∨ 4 < x.kind) by omega), hix, hx, Bool.false_eq_true, if_false, Option.map_some]
    simp
  have hck : checkS (l ++ [x]) = checkC (out'.map (·.2) ++ [begin' (l ++ [x]).length l.length x]) := by unfold checkS; rw [hread]
  rw [hck]
  exact ((f2_gl h2).snoc (c := begin' (l ++ [x]).length l.length x) rfl).right (fun a b h => h) (read_order hr0) (topB hr0 (by omega)) (topB hread (by simp; omega)) he.symm
theorem unsure_less {l1 l2 : List Ev} {e : Ev} (hl : (l1 ++ e :: l2).length ≤ 1000000) (he : e.fin = true) (hc : checkS (l1 ++ e :: l2) = (true, 0)) : checkS (l1 ++ l2) = (true, 0) ∨ (checkS (l1 ++ l2)).2 = 5 := by
  obtain ⟨cs, hr, hck⟩ := check_read (l := l1 ++ e :: l2) (by rw [hc]; decide)
  rw [hc] at hck
  have hr0 := hr
  simp only [readS, Option.map_eq_some_iff] at hr
  obtain ⟨out, hro, rfl⟩ := hr
  rw [readFrom_app] at hro
  generalize hn : (l1 ++ e :: l2).length = n at *
  cases h1 : readFrom false n 0 l1 [] with
  | none => rw [h1] at hro; cases hro
  | some a1 =>
    rw [h1, Option.bind_some, Nat.zero_add, readFrom] at hro
    cases h2 : stepE false n l1.length e a1 with
    | none => rw [h2] at hro; cases hro
    | some a2 =>
      rw [h2] at hro
      dsimp only at hro
      generalize hφ : (fun j => if j ≤ l1.length then j else j - 1 : Nat → Nat) = φ
      have hφ1 : ∀ j, j ≤ l1.length → φ j = j := fun j hj => by subst hφ; simp [hj]
      have hφ2 : ∀ j, l1.length < j → φ j = j - 1 := fun j hj => by subst hφ; simp; omega
      obtain ⟨a1', h3, h4⟩ := read_sim (k := 0) (φ := φ) (lo := true) (n' := (l1 ++ l2).length) l1 0 0 [] [] a1 (fun j hj => hφ1 _ (by omega)) .nil h1
      rw [sh_zero] at h3
      have h5 : F2 (R' 0 φ true) a2 a1' := by
        unfold stepE at h2
        split at h2
        · cases h2
        · split at h2
          · simp [he] at h2
          · rename_i kk hidx
            split at h2
            · rename_i id c hg
              split at h2
              · rename_i hf
                injection h2 with h2
                subst h2
                obtain ⟨⟨id', c'⟩, hg', hR⟩ := f2_get h4 hg
                have hset : a1' = a1'.set kk (id', c') := by
                  refine List.ext_getElem? fun j => ?_
                  rw [List.getElem?_set]
                  split
                  · rename_i hj; subst hj
                    have hlt := (List.getElem?_eq_some_iff.1 hg').1
                    rw [if_pos hlt]; exact hg'
                  · rfl
                rw [hset]
                rcases hR.rel with hr | hr
                · refine f2_set h4 (a := (id, finish false l1.length e c)) (b := (id', c')) ⟨hR.id, .inr ⟨rfl, rfl, ⟨hr.kind, fun h1 => ?_, hr.data, by rw [hr.fin]; exact hf.2, hr.begins⟩⟩⟩ kk
                  show c'.fid = (finish false l1.length e c).fid
                  simp only [finish]
                  rw [if_neg (fun h => h1 h.1)]
                  exact hr.fid
                · have := hr.2.1
                  dsimp only at this
                  rw [hf.2] at this; cases this
              · cases h2
            · cases h2
      obtain ⟨out', h6, h7⟩ := read_sim (k := 0) (φ := φ) (lo := true) (n' := (l1 ++ l2).length) l2 (l1.length + 1) l1.length a2 a1' out (fun j hj => by rw [hφ2 _ (by omega)]; omega) h5 hro
      rw [sh_zero] at h6
      have hread : readS false (l1 ++ l2) = some (out'.map (·.2)) := by
        simp only [readS, readFrom_app, h3, Option.bind_some, Nat.zero_add, h6, Option.map_some]
      have hck2 : checkS (l1 ++ l2) = checkC (out'.map (·.2)) := by unfold checkS; rw [hread]
      rw [hck2]
      refine (f2_gl h7).right (fun a b hab => ?_) (read_order hr0) (topB hr0 (by omega)) (topB hread (by simp at hn ⊢; omega)) hck.symm
      subst hφ
      dsimp only
      split <;> split <;> omega
end Go.Proofs.Yteclfkffgnfmpaa
