/- Histories, plain: histories of unlike keys. Nothing is claimed here. -/
import Derived.Test.YteclfkffgnfmpaaYt
namespace Go.Proofs.Yteclfkffgnfmpaa
set_option linter.unusedVariables false

theorem f2_len {α β : Type} {R : α → β → Prop} {l : List α} {l' : List β} (h : F2 R l l') : l.length = l'.length := by
  induction h with
  | nil => rfl
  | cons h t ih => simp [ih]
theorem f2_filter {α β : Type} {R : α → β → Prop} {p : α → Bool} {q : β → Bool} (hpq : ∀ a b, R a b → q b = p a) {l : List α} {l' : List β} (h : F2 R l l') : F2 R (l.filter p) (l'.filter q) := by
  induction h with
  | nil => exact .nil
  | cons h t ih =>
    simp only [List.filter_cons, hpq _ _ h]
    split
    · exact .cons h ih
    · exact ih
theorem f2_any {α β : Type} {R : α → β → Prop} {p : α → Bool} {q : β → Bool} (hpq : ∀ a b, R a b → q b = p a) {l : List α} {l' : List β} (h : F2 R l l') : l'.any q = l.any p := by
  induction h with
  | nil => rfl
  | cons h t ih => simp only [List.any_cons, hpq _ _ h, ih]
theorem f2_map {α β γ δ : Type} {R : α → β → Prop} {S : γ → δ → Prop} {f : α → γ} {g : β → δ} (hrs : ∀ a b, R a b → S (f a) (g b)) {l : List α} {l' : List β} (h : F2 R l l') : F2 S (l.map f) (l'.map g) := by
  induction h with
  | nil => exact .nil
  | cons h t ih => exact .cons (hrs _ _ h) ih
theorem f2_w {φ : Nat → Nat} {l l' : List Cl} (h : F2 (Sm φ) l l') : W' φ l l' := by
  induction h with
  | nil => exact .nil
  | cons h t ih => exact .same h ih
theorem f2_sm {k : Int} {φ : Nat → Nat} {l l' : List (Int × Cl)} (h : F2 (R' k φ false) l l') : F2 (Sm φ) (l.map (·.2)) (l'.map (·.2)) :=
  f2_map (fun a b h => h.rel.resolve_right fun h => by cases h.1) h
theorem f2_row {φ : Nat → Nat} {l l' : List Cl} (h : F2 (Sm φ) l l') (k : Int × Nat) : F2 (Sm φ) (rowS l l k) (rowS l' l' k) := by
  have hw : ∀ k, written l' k = written l k := fun k => f2_any (fun a b h => by simp [h.wr, h.key]) h
  refine f2_filter (fun a b h => ?_) h
  simp only [Cl.keep, h.key, h.counts, h.kind, h.err, hw]
theorem f2_twice {φ : Nat → Nat} {l l' : List Cl} (h : F2 (Sm φ) l l') : twiceS l' = twiceS l := by
  induction h with
  | nil => rfl
  | @cons a b l l' h t ih =>
    have h1 : given l' a.key = given l a.key := f2_any (fun a b (h : Sm φ a b) => by simp [h.asg, h.key]) t
    simp only [twiceS, ih, h.asg, h.key, h1]
theorem check_same {φ ψ : Nat → Nat} (hφ : ∀ a b, a ≤ b → φ a ≤ φ b) (hψ : ∀ a b, a ≤ b → ψ a ≤ ψ b) {l l' : List Cl} (h : F2 (Sm φ) l l') (h' : F2 (Sm ψ) l' l) (hb : ∀ c ∈ l, c.begins ≤ topEnd) (hb' : ∀ c ∈ l', c.begins ≤ topEnd) : checkC l' = checkC l := by
  have h1 : longS l' = longS l := by
    rw [Bool.eq_iff_iff, long_all, long_all]
    exact exists_congr fun k => by rw [f2_len (f2_row h k)]
  have h2 : orderS l' = orderS l := by
    rw [Bool.eq_iff_iff, order_all, order_all]
    refine forall_congr' fun k => ?_
    rw [row_can fun c hc => hb c (rowS_key hc).2, row_can fun c hc => hb' c (rowS_key hc).2]
    exact ⟨fun hc => hc.weak hψ (f2_w (f2_row h' k)), fun hc => hc.weak hφ (f2_w (f2_row h k))⟩
  unfold checkC
  rw [h1, h2, twice_rev, twice_rev, f2_twice h]

theorem written_out {X : List Cl} {k : Int × Nat} (h : ∀ c ∈ X, c.key ≠ k) : written X k = false := by
  simp only [written, List.any_eq_false]
  intro c hc
  simp [h c hc]
theorem row_out {X Y : List Cl} {k : Int × Nat} (h : ∀ c ∈ X, c.key ≠ k) : rowS Y X k = [] := by
  simp only [rowS, List.filter_eq_nil_iff]
  intro c hc
  simp [h c hc]
theorem row_app {X Y : List Cl} (hX : ∀ c ∈ X, c.fid.vol = 1) (hY : ∀ c ∈ Y, c.fid.vol = 2) (k : Int × Nat) : rowS (X ++ Y) (X ++ Y) k = rowS X X k ++ rowS Y Y k := by
  have hne : ∀ c ∈ X, ∀ d ∈ Y, d.key ≠ c.key := fun c hc d hd h => by
    have := congrArg Prod.fst h
    simp only [Cl.key, hX c hc, hY d hd] at this
    cases this
  have hw : ∀ k, written (X ++ Y) k = (written X k || written Y k) := fun k => by simp [written]
  simp only [rowS, List.filter_append]
  congr 1
  · refine List.filter_congr fun c hc => ?_
    simp only [Cl.keep, hw, written_out (X := Y) (k := c.key) (fun d hd => hne c hc d hd), Bool.or_false]
  · refine List.filter_congr fun c hc => ?_
    simp only [Cl.keep, hw, written_out (X := X) (k := c.key) (fun d hd h => hne d hd c hc h.symm), Bool.false_or]
theorem check_app {X Y : List Cl} (hX : ∀ c ∈ X, c.fid.vol = 1) (hY : ∀ c ∈ Y, c.fid.vol = 2) : checkC (X ++ Y) = if longS X || longS Y then (false, 5) else ((orderS X && !twiceS X.reverse) && (orderS Y && !twiceS Y.reverse), 0) := by
  have hk : ∀ k, rowS X X k = [] ∨ rowS Y Y k = [] := fun k => by
    by_cases h : k.1 = 1
    · right
      refine row_out fun c hc he => ?_
      have := congrArg Prod.fst he
      simp only [Cl.key, hY c hc, h] at this
      cases this
    · left
      refine row_out fun c hc he => ?_
      have := congrArg Prod.fst he
      simp only [Cl.key, hX c hc] at this
      exact h this.symm
  have h1 : longS (X ++ Y) = (longS X || longS Y) := by
    rw [Bool.eq_iff_iff, Bool.or_eq_true, long_all, long_all, long_all]
    constructor
    · rintro ⟨k, h⟩
      rw [row_app hX hY] at h
      rcases hk k with h0 | h0
      · rw [h0] at h; exact .inr ⟨k, h⟩
      · rw [h0, List.append_nil] at h; exact .inl ⟨k, h⟩
    · rintro (⟨k, h⟩ | ⟨k, h⟩)
      · exact ⟨k, by rw [row_app hX hY, List.length_append]; omega⟩
      · exact ⟨k, by rw [row_app hX hY, List.length_append]; omega⟩
  have h2 : orderS (X ++ Y) = (orderS X && orderS Y) := by
    rw [Bool.eq_iff_iff, Bool.and_eq_true, order_all, order_all, order_all]
    constructor
    · intro h
      refine ⟨fun k => ?_, fun k => ?_⟩
      · rcases hk k with h0 | h0
        · rw [h0]; exact reachRow_nil
        · have := h k; rw [row_app hX hY, h0, List.append_nil] at this; exact this
      · rcases hk k with h0 | h0
        · have := h k; rw [row_app hX hY, h0, List.nil_append] at this; exact this
        · rw [h0]; exact reachRow_nil
    · rintro ⟨h, h'⟩ k
      rw [row_app hX hY]
      rcases hk k with h0 | h0
      · rw [h0]; exact h' k
      · rw [h0, List.append_nil]; exact h k
  have h3 : twiceS (X ++ Y) = (twiceS X || twiceS Y) := by
    have h : twiceS (X ++ Y) = false ↔ (twiceS X || twiceS Y) = false := by
      rw [Bool.or_eq_false_iff, twice_iff, twice_iff, twice_iff, List.pairwise_append]
      refine ⟨fun h => ⟨h.1, h.2.1⟩, fun h => ⟨h.1, h.2, fun a ha b hb hab => ?_⟩⟩
      have := congrArg Prod.fst hab.2.2
      simp only [Cl.key, hX a ha, hY b hb] at this
      cases this
    cases h1 : twiceS (X ++ Y) <;> cases h2 : (twiceS X || twiceS Y) <;> simp_all
  unfold checkC
  rw [h1, h2, twice_rev, twice_rev, twice_rev, h3]
  cases longS X <;> cases longS Y <;> cases orderS X <;> cases orderS Y <;> cases twiceS X <;> cases twiceS Y <;> rfl

theorem idx_app {P acc : List (Int × Cl)} {c : Int} (h : ∀ p ∈ P, p.1 ≠ c) : idx (P ++ acc) c = (idx acc c).map (· + P.length) := by
  have h1 : List.findIdx? (fun p : Int × Cl => decide (p.1 = c)) P = none := by
    simp only [List.findIdx?_eq_none_iff]
    intro p hp
    simpa using h p hp
  simp only [idx, List.findIdx?_append, h1, Option.none_or]
theorem readFrom_pre {s : Bool} {n : Nat} {P : List (Int × Cl)} : ∀ (l : List Ev) (i : Nat) (acc : List (Int × Cl)), (∀ e ∈ l, ∀ p ∈ P, p.1 ≠ e.call) → readFrom s n i l (P ++ acc) = (readFrom s n i l acc).map (P ++ ·)
  | [], i, acc, _ => rfl
  | e :: l, i, acc, h => by
    have hs : stepE s n i e (P ++ acc) = (stepE s n i e acc).map (P ++ ·) := by
      unfold stepE
      rw [idx_app (h e (List.mem_cons_self ..))]
      by_cases hk : e.kind < 1 ∨ 4 < e.kind
      · simp [hk]
      · simp only [if_neg hk]
        cases hi : idx acc e.call with
        | none => cases e.fin <;> simp
        | some k =>
          simp only [Option.map_some, List.getElem?_append_right (Nat.le_add_left P.length k), Nat.add_sub_cancel]
          cases hg : acc[k]? with
          | none => rfl
          | some p =>
            obtain ⟨id, c⟩ := p
            dsimp only
            split
            · rw [Option.map_some, List.set_append_right _ _ (by omega), Nat.add_sub_cancel]
            · rfl
    simp only [readFrom, hs]
    cases stepE s n i e acc with
    | none => rfl
    | some a => exact readFrom_pre l (i + 1) a fun e he => h e (List.mem_cons_of_mem _ he)
def v2 (e : Ev) : Ev := { e with fid := { e.fid with vol := 2 } }
theorem sh_sh (k : Int) (l : List Ev) : (l.map (sh k)).map (sh (-k)) = l := by
  rw [List.map_map]
  have : sh (-k) ∘ sh k = id := by funext e; simp only [Function.comp, sh, id]; congr 1; omega
  rw [this, List.map_id]
theorem read_both {k : Int} {d n n' : Nat} {l : List Ev} : (∀ out, readFrom false n 0 l [] = some out → ∃ out', readFrom false n' d (l.map (sh k)) [] = some out' ∧ F2 (Sm (· + d)) (out.map (·.2)) (out'.map (·.2)) ∧ F2 (Sm (· - d)) (out'.map (·.2)) (out.map (·.2))) ∧
    (readFrom false n 0 l [] = none → readFrom false n' d (l.map (sh k)) [] = none) := by
  have back : ∀ out', readFrom false n' d (l.map (sh k)) [] = some out' → ∃ out, readFrom false n 0 l [] = some out ∧ F2 (R' (-k) (· - d) false) out' out := fun out' h => by
    obtain ⟨out, h1, h2⟩ := read_sim (k := -k) (φ := (· - d)) (lo := false) (n' := n) (l.map (sh k)) d 0 [] [] out' (fun j _ => by omega) .nil h
    rw [sh_sh] at h1
    exact ⟨out, h1, h2⟩
  refine ⟨fun out h => ?_, fun h => ?_⟩
  · obtain ⟨out', h1, h2⟩ := read_sim (k := k) (φ := (· + d)) (lo := false) (n' := n') l 0 d [] [] out (fun j _ => by omega) .nil h
    obtain ⟨o2, h3, h4⟩ := back out' h1
    rw [h] at h3
    injection h3 with h3
    subst h3
    exact ⟨out', h1, f2_sm h2, f2_sm h4⟩
  · cases h1 : readFrom false n' d (l.map (sh k)) [] with
    | none => rfl
    | some out' =>
      obtain ⟨out, h2, _⟩ := back out' h1
      rw [h] at h2; cases h2
theorem read_vol {s : Bool} {n i : Nat} {v : Int} {l : List Ev} {out : List (Int × Cl)} (hv : ∀ e ∈ l, e.fid.vol = v) (h : readFrom s n i l [] = some out) : ∀ c ∈ out.map (·.2), c.fid.vol = v := by
  intro c hc
  obtain ⟨x, hx, rfl⟩ := List.mem_map.1 hc
  refine readFrom_inv (fun _ x => x.2.fid.vol = v) l i [] out (fun _ _ h => h) (fun j e he => hv e he) (fun j e id c he hf h => ?_) (by simp) h x hx
  show (if _ then e.fid else c.fid).vol = v
  split
  · exact hv e he
  · exact h
theorem apart {l n : List Ev} (hl : l.length ≤ 60) (hn : n.length ≤ 60) (h1 : ∀ e ∈ l, (0 ≤ e.call ∧ e.call ≤ 1073741824) ∧ e.fid.vol = 1) (h2 : ∀ e ∈ n, (0 ≤ e.call ∧ e.call ≤ 1073741824) ∧ e.fid.vol = 2) :
    ((checkS l).2 ≠ 0 ∨ (checkS n).2 ≠ 0 → (checkS (l ++ n.map (sh 2147483648))).2 ≠ 0) ∧
    ((checkS l).2 = 0 → (checkS n).2 = 0 → checkS (l ++ n.map (sh 2147483648)) = ((checkS l).1 && (checkS n).1, 0)) := by
  generalize hN : (l ++ n.map (sh 2147483648)).length = N
  have hN' : N = l.length + n.length := by rw [← hN]; simp
  have hA := read_both (k := 0) (d := 0) (n := l.length) (n' := N) (l := l)
  rw [sh_zero] at hA
  have hB := read_both (k := 2147483648) (d := l.length) (n := n.length) (n' := N) (l := n)
  have hboth : readS false (l ++ n.map (sh 2147483648)) = ((readFrom false N 0 l []).bind fun a => (readFrom false N l.length (n.map (sh 2147483648)) []).map (a ++ ·)).map fun acc => acc.map (·.2) := by
    simp only [readS, hN, readFrom_app, Nat.zero_add]
    cases ha : readFrom false N 0 l [] with
    | none => rfl
    | some a =>
      simp only [Option.bind_some]
      have := readFrom_pre (s := false) (n := N) (P := a) (n.map (sh 2147483648)) l.length [] (fun e he p hp => by
        obtain ⟨e', he', rfl⟩ := List.mem_map.1 he
        obtain ⟨e2, h3, h4⟩ := readFrom_ids ha p hp
        have h5 := (h1 e2 h3).1
        have h6 := (h2 e' he').1
        rw [← h4]
        show e2.call ≠ e'.call + 2147483648
        omega)
      rw [List.append_nil] at this
      rw [this]
  cases ha : readFrom false l.length 0 l [] with
  | none =>
    have h3 : checkS l = (false, 1) := by simp [checkS, readS, ha]
    have h4 : checkS (l ++ n.map (sh 2147483648)) = (false, 1) := by simp [checkS, hboth, hA.2 ha]
    rw [h3, h4]
    exact ⟨fun _ => by decide, fun h => absurd h (by decide)⟩
  | some a =>
    obtain ⟨a', ha1, ha2, ha3⟩ := hA.1 a ha
    have hla : checkS l = checkC (a.map (·.2)) := by simp [checkS, readS, ha]
    cases hb : readFrom false n.length 0 n [] with
    | none =>
      have h3 : checkS n = (false, 1) := by simp [checkS, readS, hb]
      have h4 : checkS (l ++ n.map (sh 2147483648)) = (false, 1) := by simp [checkS, hboth, ha1, hB.2 hb]
      rw [h3, h4]
      exact ⟨fun _ => by decide, fun _ h => absurd h (by decide)⟩
    | some b =>
      obtain ⟨b', hb1, hb2, hb3⟩ := hB.1 b hb
      have hlb : checkS n = checkC (b.map (·.2)) := by simp [checkS, readS, hb]
      have hra : readS false l = some (a.map (·.2)) := by simp [readS, ha]
      have hrb : readS false n = some (b.map (·.2)) := by simp [readS, hb]
      have hrc : readS false (l ++ n.map (sh 2147483648)) = some (a'.map (·.2) ++ b'.map (·.2)) := by simp [hboth, ha1, hb1]
      have htc := topB hrc (by rw [hN]; omega)
      have h3 : checkC (a'.map (·.2)) = checkC (a.map (·.2)) := check_same (fun a b h => by omega) (fun a b h => by omega) ha2 ha3 (topB hra (by omega)) (fun c hc => htc c (List.mem_append_left _ hc))
      have h4 : checkC (b'.map (·.2)) = checkC (b.map (·.2)) := check_same (fun a b h => by omega) (fun a b h => by omega) hb2 hb3 (topB hrb (by omega)) (fun c hc => htc c (List.mem_append_right _ hc))
      have h5 : checkS (l ++ n.map (sh 2147483648)) = checkC (a'.map (·.2) ++ b'.map (·.2)) := by unfold checkS; rw [hrc]
      have h6 := check_app (X := a'.map (·.2)) (Y := b'.map (·.2)) (read_vol (fun e he => (h1 e he).2) ha1) (read_vol (v := 2) (fun e he => by
        obtain ⟨e', he', rfl⟩ := List.mem_map.1 he
        exact (h2 e' he').2) hb1)
      rw [h5, h6, hla, hlb, ← h3, ← h4]
      unfold checkC
      cases longS (a'.map (·.2)) <;> cases longS (b'.map (·.2)) <;> simp
end Go.Proofs.Yteclfkffgnfmpaa
