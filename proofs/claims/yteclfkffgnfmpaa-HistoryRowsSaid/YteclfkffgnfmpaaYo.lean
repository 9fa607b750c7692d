/- Histories, plain: what is less sure is right, too. Nothing is claimed here. -/
import Derived.Test.YteclfkffgnfmpaaYn
namespace Go.Proofs.Yteclfkffgnfmpaa
set_option linter.unusedVariables false
set_option linter.unusedSimpArgs false

structure Sm (φ : Nat → Nat) (c c' : Cl) : Prop where
  kind : c'.kind = c.kind
  fid : c'.fid = c.fid
  data : c'.data = c.data
  fin : c'.fin = c.fin
  err : c'.err = c.err
  ans : c'.ans = c.ans
  begins : c'.begins = φ c.begins
  stops : c.fin = true → c'.stops = φ c.stops
theorem Sm.sure {φ : Nat → Nat} {c c' : Cl} (h : Sm φ c c') : c'.sure = c.sure := by simp [Cl.sure, h.fin, h.err]
theorem Sm.counts {φ : Nat → Nat} {c c' : Cl} (h : Sm φ c c') : c'.counts = c.counts := by simp [Cl.counts, h.kind, h.sure, h.err]
theorem Sm.asg {φ : Nat → Nat} {c c' : Cl} (h : Sm φ c c') : c'.asg = c.asg := by simp [Cl.asg, h.kind, h.sure, h.err]
theorem Sm.wr {φ : Nat → Nat} {c c' : Cl} (h : Sm φ c c') : c'.wr = c.wr := by simp [Cl.wr, h.kind, h.counts]
theorem Sm.key {φ : Nat → Nat} {c c' : Cl} (h : Sm φ c c') : c'.key = c.key := by simp [Cl.key, h.fid]
theorem Sm.goes {φ : Nat → Nat} {c c' : Cl} (h : Sm φ c c') (s : HSt) : goesS c' s = goesS c s := by
  have h1 : goS c' s = goS c s := by funext e; simp only [goS, h.kind, h.fid, h.data, h.ans]
  simp only [goesS, errsS, h.sure, h.err, h1]

/-- a call whose end is not told -/
structure Lost (φ : Nat → Nat) (c c' : Cl) : Prop where
  kind : c'.kind = c.kind
  fid : c.kind ≠ 1 → c'.fid = c.fid
  data : c'.data = c.data
  fin : c'.fin = false
  begins : c'.begins = φ c.begins

inductive GL (φ : Nat → Nat) : List Cl → List Cl → Prop
  | nil : GL φ [] []
  | same {c c' : Cl} {l l' : List Cl} (h : Sm φ c c') (t : GL φ l l') : GL φ (c :: l) (c' :: l')
  | lost {c c' : Cl} {l l' : List Cl} (h : Lost φ c c') (t : GL φ l l') : GL φ (c :: l) (c' :: l')
  | more {c' : Cl} {l l' : List Cl} (h : c'.fin = false) (t : GL φ l l') : GL φ l (c' :: l')

structure Lost' (φ : Nat → Nat) (c c' : Cl) : Prop where
  kind : c'.kind = c.kind
  fid : c'.fid = c.fid
  data : c'.data = c.data
  sure : c'.sure = false
  begins : c'.begins = φ c.begins
  kind3 : c.kind ≠ 3

inductive W' (φ : Nat → Nat) : List Cl → List Cl → Prop
  | nil : W' φ [] []
  | same {c c' : Cl} {l l' : List Cl} (h : Sm φ c c') (t : W' φ l l') : W' φ (c :: l) (c' :: l')
  | lost {c c' : Cl} {l l' : List Cl} (h : Lost' φ c c') (t : W' φ l l') : W' φ (c :: l) (c' :: l')
  | more {c' : Cl} {l l' : List Cl} (h : c'.sure = false) (t : W' φ l l') : W' φ l (c' :: l')
  | get {c : Cl} {l l' : List Cl} (h : c.kind = 3) (t : W' φ l l') : W' φ (c :: l) l'

theorem next_ans {s : HSt} {k : Int} {f : Fid} {d : List UInt8} {e : Int} (h : k ≠ 3) (a b : List UInt8) : nextS s k f d e a = nextS s k f d e b := by
  unfold nextS
  simp only [if_neg h]
theorem next_get {s : HSt} {f : Fid} {d : List UInt8} {e : Int} {a : List UInt8} : (nextS s 3 f d e a).1 = s := by
  unfold nextS
  simp only [show ¬((3 : Int) = 2) from by decide, if_false, if_true]
  repeat' split
  all_goals rfl
theorem goS_mem {c : Cl} {s x : HSt} {e : Int} : x ∈ goS c s e ↔ tellsS c.kind e = true ∧ (nextS s c.kind c.fid c.data e c.ans).2 = true ∧ x = (nextS s c.kind c.fid c.data e c.ans).1 := by
  unfold goS
  split
  · split <;> simp_all
  · simp_all
theorem goes_get {c : Cl} {s x : HSt} (h : c.kind = 3) (hx : x ∈ goesS c s) : x = s := by
  obtain ⟨e, _, he⟩ := List.mem_flatMap.1 hx
  have := (goS_mem.1 he).2.2
  rw [h, next_get] at this
  exact this
theorem tells_mem {k e : Int} (h : k ≠ 3) (ht : tellsS k e = true) : e ∈ ([0, 8, 10, 9] : List Int) := by
  unfold tellsS at ht
  repeat' split at ht
  all_goals simp_all
theorem Lost'.goes {φ : Nat → Nat} {c c' : Cl} (h : Lost' φ c c') {s x : HSt} (hx : x ∈ goesS c s) : x ∈ goesS c' s := by
  obtain ⟨e, hm, he⟩ := List.mem_flatMap.1 hx
  have h1 := goS_mem.1 he
  refine List.mem_flatMap.2 ⟨e, ?_, goS_mem.2 ?_⟩
  · simp only [errsS, h.sure]
    exact tells_mem h.kind3 h1.1
  · rw [h.kind, h.fid, h.data, next_ans h.kind3 c'.ans c.ans]
    exact h1
theorem W'.split {φ : Nat → Nat} {c : Cl} {B L L' : List Cl} (h : W' φ L L') : ∀ {A : List Cl}, L = A ++ c :: B → (∃ A' c' B', L' = A' ++ c' :: B' ∧ (Sm φ c c' ∨ Lost' φ c c') ∧ W' φ (A ++ B) (A' ++ B')) ∨ (c.kind = 3 ∧ W' φ (A ++ B) L') := by
  induction h with
  | nil => intro A h; simp at h
  | same h t ih =>
    intro A he
    rcases A with _ | ⟨a, A⟩
    · simp only [List.nil_append, List.cons.injEq] at he
      obtain ⟨rfl, rfl⟩ := he
      exact .inl ⟨[], _, _, rfl, .inl h, t⟩
    · simp only [List.cons_append, List.cons.injEq] at he
      obtain ⟨rfl, he⟩ := he
      rcases ih he with ⟨A', c', B', rfl, h2, h3⟩ | ⟨h1, h2⟩
      · exact .inl ⟨_ :: A', c', B', rfl, h2, .same h h3⟩
      · exact .inr ⟨h1, .same h h2⟩
  | lost h t ih =>
    intro A he
    rcases A with _ | ⟨a, A⟩
    · simp only [List.nil_append, List.cons.injEq] at he
      obtain ⟨rfl, rfl⟩ := he
      exact .inl ⟨[], _, _, rfl, .inr h, t⟩
    · simp only [List.cons_append, List.cons.injEq] at he
      obtain ⟨rfl, he⟩ := he
      rcases ih he with ⟨A', c', B', rfl, h2, h3⟩ | ⟨h1, h2⟩
      · exact .inl ⟨_ :: A', c', B', rfl, h2, .lost h h3⟩
      · exact .inr ⟨h1, .lost h h2⟩
  | more h t ih =>
    intro A he
    rcases ih he with ⟨A', c', B', rfl, h2, h3⟩ | ⟨h1, h2⟩
    · exact .inl ⟨_ :: A', c', B', rfl, h2, .more h h3⟩
    · exact .inr ⟨h1, .more h h2⟩
  | get h t ih =>
    intro A he
    rcases A with _ | ⟨a, A⟩
    · simp only [List.nil_append, List.cons.injEq] at he
      obtain ⟨rfl, rfl⟩ := he
      exact .inr ⟨h, t⟩
    · simp only [List.cons_append, List.cons.injEq] at he
      obtain ⟨rfl, he⟩ := he
      rcases ih he with ⟨A', c', B', rfl, h2, h3⟩ | ⟨h1, h2⟩
      · exact .inl ⟨A', c', B', rfl, h2, .get h h3⟩
      · exact .inr ⟨h1, .get h h2⟩
theorem W'.old {φ : Nat → Nat} {L L' : List Cl} (h : W' φ L L') : ∀ d' ∈ L', d'.sure = true → ∃ d ∈ L, Sm φ d d' := by
  induction h with
  | nil => intro d' h; simp at h
  | same h t ih =>
    intro d' hd hs
    rcases List.mem_cons.1 hd with rfl | hd
    · exact ⟨_, List.mem_cons_self .., h⟩
    · obtain ⟨d, h1, h2⟩ := ih d' hd hs
      exact ⟨d, List.mem_cons_of_mem _ h1, h2⟩
  | lost h t ih =>
    intro d' hd hs
    rcases List.mem_cons.1 hd with rfl | hd
    · rw [h.sure] at hs; cases hs
    · obtain ⟨d, h1, h2⟩ := ih d' hd hs
      exact ⟨d, List.mem_cons_of_mem _ h1, h2⟩
  | more h t ih =>
    intro d' hd hs
    rcases List.mem_cons.1 hd with rfl | hd
    · rw [h] at hs; cases hs
    · exact ih d' hd hs
  | get h t ih =>
    intro d' hd hs
    obtain ⟨d, h1, h2⟩ := ih d' hd hs
    exact ⟨d, List.mem_cons_of_mem _ h1, h2⟩
theorem sure_fin {c : Cl} (h : c.sure = true) : c.fin = true := by
  simp only [Cl.sure, Bool.and_eq_true] at h; exact h.1
theorem Can.weak {φ : Nat → Nat} (hφ : ∀ a b, a ≤ b → φ a ≤ φ b) {l : List Cl} {s : HSt} (h : Can l s) : ∀ {l' : List Cl}, W' φ l l' → Can l' s := by
  induction h with
  | stop h =>
    intro l' hw
    refine .stop fun d' hd => ?_
    cases hs : d'.sure
    · rfl
    · obtain ⟨d, h1, h2⟩ := hw.old d' hd hs
      rw [h2.sure, h d h1] at hs; cases hs
  | @step A B c s x hf hx h ih =>
    intro l' hw
    rcases hw.split rfl with ⟨A', c', B', rfl, h2, h3⟩ | ⟨h1, h2⟩
    · refine .step (fun d' hd hs => ?_) (x := x) ?_ (ih h3)
      · obtain ⟨d, h4, h5⟩ := hw.old d' hd hs
        have h6 : d.sure = true := by rw [← h5.sure]; exact hs
        rw [h5.stops (sure_fin h6), show c'.begins = φ c.begins from h2.elim (·.begins) (·.begins)]
        exact hφ _ _ (hf d h4 h6)
      · rcases h2 with h2 | h2
        · rw [h2.goes]; exact hx
        · exact h2.goes hx
    · rw [goes_get h1 hx] at ih
      exact ih h2

def keepB (b : Bool) (c : Cl) : Bool := c.counts && !(decide (c.kind = 3) && decide (c.err = 7) && !b)
def rowK (b : Bool) (cs : List Cl) (k : Int × Nat) : List Cl := cs.filter fun c => decide (c.key = k) && keepB b c
theorem row_b (cs : List Cl) (k : Int × Nat) : rowS cs cs k = rowK (written cs k) cs k := by
  refine List.filter_congr fun c _ => ?_
  by_cases h : c.key = k
  · subst h; rfl
  · simp [h]
theorem unfin {c : Cl} (h : c.fin = false) : c.sure = false := by simp [Cl.sure, h]
theorem counts_un {c : Cl} (h : c.fin = false) : c.counts = (decide (c.kind ≠ 1) && decide (c.kind ≠ 3)) := by
  unfold Cl.counts; rw [unfin h]; by_cases h1 : c.kind = 1 <;> simp [h1]
theorem GL.row {φ : Nat → Nat} {cs cs' : List Cl} (h : GL φ cs cs') (b : Bool) (k : Int × Nat) : W' φ (rowK b cs k) (rowK b cs' k) := by
  induction h with
  | nil => exact .nil
  | @same c c' l l' h t ih =>
    have h1 : keepB b c' = keepB b c := by simp [keepB, h.counts, h.kind, h.err]
    simp only [rowK, List.filter_cons, h1, h.key] at ih ⊢
    split
    · exact .same h ih
    · exact ih
  | @lost c c' l l' h t ih =>
    have hc := counts_un h.fin
    rw [h.kind] at hc
    simp only [rowK, List.filter_cons] at ih ⊢
    by_cases h1 : c.kind = 1
    · have h2 : c.counts = false := by simp [Cl.counts, h1]
      rw [h1] at hc
      have h3 : keepB b c = false := by simp [keepB, h2]
      have h4 : keepB b c' = false := by simp [keepB, hc]
      simpa [h3, h4] using ih
    · by_cases h3 : c.kind = 3
      · rw [h3] at hc
        simp only [keepB, hc, h3, show decide ((3 : Int) ≠ 3) = false from by decide, Bool.and_false, Bool.false_and, Bool.false_eq_true, if_false] at ih ⊢
        split
        · exact .get h3 ih
        · exact ih
      · have hk : c'.key = c.key := by simp [Cl.key, h.fid h1]
        have h2 : keepB b c' = true := by simp [keepB, hc, h1, h3, h.kind]
        rw [hk, h2]
        by_cases hkk : c.key = k
        · simp only [hkk, decide_true, Bool.true_and, if_true]
          split
          · exact .lost ⟨h.kind, h.fid h1, h.data, unfin h.fin, h.begins, h3⟩ ih
          · exact .more (unfin h.fin) ih
        · simpa [hkk] using ih
  | more h t ih =>
    simp only [rowK, List.filter_cons] at ih ⊢
    split
    · exact .more (unfin h) ih
    · exact ih
theorem GL.written {φ : Nat → Nat} {cs cs' : List Cl} (h : GL φ cs cs') {k : Int × Nat} (hw : written cs k = true) : written cs' k = true := by
  unfold Go.Proofs.Yteclfkffgnfmpaa.written at *
  induction h with
  | nil => simp at hw
  | same h t ih =>
    simp only [List.any_cons, h.wr, h.key, Bool.or_eq_true] at hw ⊢
    exact hw.imp id ih
  | @lost c c' l l' h t ih =>
    simp only [List.any_cons, Bool.or_eq_true] at hw ⊢
    refine hw.imp (fun h1 => ?_) ih
    simp only [Cl.wr, Bool.and_eq_true, decide_eq_true_eq] at h1 ⊢
    have hk1 : c.kind ≠ 1 := fun h2 => by simp [Cl.counts, h2] at h1
    refine ⟨⟨?_, by rw [h.kind]; exact h1.1.2⟩, ?_⟩
    · rw [counts_un h.fin, h.kind]; simp [hk1, h1.1.2]
    · rw [show c'.key = c.key from by simp [Cl.key, h.fid hk1]]; exact h1.2
  | more h t ih =>
    simp only [List.any_cons, Bool.or_eq_true]
    exact .inr (ih hw)
abbrev Un (a b : Cl) : Prop := ¬(a.asg = true ∧ b.asg = true ∧ a.key = b.key)
theorem twice_iff : ∀ l : List Cl, twiceS l = false ↔ l.Pairwise Un
  | [] => by simp [twiceS]
  | c :: l => by
    simp only [twiceS, Bool.or_eq_false_iff, twice_iff l, List.pairwise_cons]
    refine ⟨fun ⟨h1, h2⟩ => ⟨fun d hd h => ?_, h1⟩, fun ⟨h1, h2⟩ => ⟨h2, ?_⟩⟩
    · rw [h.1, Bool.true_and, given, List.any_eq_false] at h2
      exact h2 d hd (by simp [h.2.1, h.2.2])
    · cases hc : c.asg
      · rfl
      · rw [Bool.true_and, given, List.any_eq_false]
        intro d hd h
        simp only [Bool.and_eq_true, decide_eq_true_eq] at h
        exact h1 d hd ⟨hc, h.1, h.2.symm⟩
theorem twice_rev (l : List Cl) : twiceS l.reverse = twiceS l := by
  have h : twiceS l.reverse = false ↔ twiceS l = false := by
    rw [twice_iff, twice_iff, List.pairwise_reverse]
    exact ⟨fun h => h.imp fun h1 h2 => h1 ⟨h2.2.1, h2.1, h2.2.2.symm⟩, fun h => h.imp fun h1 h2 => h1 ⟨h2.2.1, h2.1, h2.2.2.symm⟩⟩
  cases h1 : twiceS l.reverse <;> cases h2 : twiceS l <;> simp_all
theorem un_asg {c : Cl} (h : c.fin = false) : c.asg = false := by simp [Cl.asg, unfin h]
theorem GL.asg {φ : Nat → Nat} {cs cs' : List Cl} (h : GL φ cs cs') : ∀ d' ∈ cs', d'.asg = true → ∃ d ∈ cs, Sm φ d d' := by
  induction h with
  | nil => intro d' h; simp at h
  | same h t ih =>
    intro d' hd hs
    rcases List.mem_cons.1 hd with rfl | hd
    · exact ⟨_, List.mem_cons_self .., h⟩
    · obtain ⟨d, h1, h2⟩ := ih d' hd hs
      exact ⟨d, List.mem_cons_of_mem _ h1, h2⟩
  | lost h t ih =>
    intro d' hd hs
    rcases List.mem_cons.1 hd with rfl | hd
    · rw [un_asg h.fin] at hs; cases hs
    · obtain ⟨d, h1, h2⟩ := ih d' hd hs
      exact ⟨d, List.mem_cons_of_mem _ h1, h2⟩
  | more h t ih =>
    intro d' hd hs
    rcases List.mem_cons.1 hd with rfl | hd
    · rw [un_asg h] at hs; cases hs
    · exact ih d' hd hs
theorem GL.twice {φ : Nat → Nat} {cs cs' : List Cl} (h : GL φ cs cs') (ht : twiceS cs = false) : twiceS cs' = false := by
  rw [twice_iff] at *
  induction h with
  | nil => exact ht
  | same h t ih =>
    obtain ⟨h1, h2⟩ := List.pairwise_cons.1 ht
    refine List.pairwise_cons.2 ⟨fun d' hd hh => ?_, ih h2⟩
    obtain ⟨d, h3, h4⟩ := t.asg d' hd hh.2.1
    exact h1 d h3 ⟨by rw [← h.asg]; exact hh.1, by rw [← h4.asg]; exact hh.2.1, by rw [← h.key, ← h4.key]; exact hh.2.2⟩
  | lost h t ih =>
    obtain ⟨h1, h2⟩ := List.pairwise_cons.1 ht
    refine List.pairwise_cons.2 ⟨fun d' hd hh => ?_, ih h2⟩
    rw [un_asg h.fin] at hh; cases hh.1
  | more h t ih =>
    refine List.pairwise_cons.2 ⟨fun d' hd hh => ?_, ih ht⟩
    rw [un_asg h] at hh; cases hh.1
theorem stuck {l : List Cl} (hl : ∀ c ∈ l, c.kind = 3 ∧ c.sure = true ∧ c.err ≠ 7) (h : Can l S0) : l = [] := by
  cases h with
  | stop h =>
    rcases l with _ | ⟨c, l⟩
    · rfl
    · have := h c (List.mem_cons_self ..)
      rw [(hl c (List.mem_cons_self ..)).2.1] at this; cases this
  | @step A B c s x hf hx h =>
    exfalso
    obtain ⟨h1, h2, h3⟩ := hl c (by simp)
    simp only [goesS, errsS, h2, if_true, List.flatMap_cons, List.flatMap_nil, List.append_nil] at hx
    obtain ⟨h4, h5, _⟩ := goS_mem.1 hx
    rw [h1] at h4 h5
    revert h5
    unfold nextS
    simp only [h3, if_false, show ¬((3 : Int) = 2) from by decide, if_true, h4]
    unfold tellsS at h4
    repeat' split
    all_goals first | (intro hh; simp at hh; done) | (intro hh; simp_all)
theorem least : ∀ (l : List Cl), l ≠ [] → ∃ c ∈ l, ∀ d ∈ l, c.stops ≤ d.stops
  | [], h => absurd rfl h
  | c :: l, _ => by
    by_cases hl : l = []
    · subst hl; exact ⟨c, by simp, by simp⟩
    · obtain ⟨d, hd, h1⟩ := least l hl
      by_cases hc : c.stops ≤ d.stops
      · exact ⟨c, by simp, fun e he => by
          rcases List.mem_cons.1 he with rfl | he
          · exact Nat.le_refl _
          · exact Nat.le_trans hc (h1 e he)⟩
      · exact ⟨d, by simp [hd], fun e he => by
          rcases List.mem_cons.1 he with rfl | he
          · omega
          · exact h1 e he⟩
theorem nones : ∀ (n : Nat) (l : List Cl), l.length ≤ n → (∀ c ∈ l, c.kind = 3 ∧ c.sure = true ∧ c.err = 7 ∧ c.begins ≤ c.stops) → Can l S0
  | n, [], _, _ => .stop (by simp)
  | 0, _ :: _, h, _ => by simp at h
  | n + 1, c :: l, hn, h => by
    obtain ⟨d, hd, h1⟩ := least (c :: l) (by simp)
    obtain ⟨A, B, he⟩ := List.append_of_mem hd
    rw [he] at h h1 hn ⊢
    have hd' := h d (by simp)
    refine .step (x := S0) (fun e he' _ => Nat.le_trans hd'.2.2.2 (h1 e he')) ?_ (nones n (A ++ B) (by simp at hn ⊢; omega) fun e he' => h e (by simp at he' ⊢; rcases he' with h | h <;> simp [h]))
    simp only [goesS, errsS, hd'.2.1, if_true, List.flatMap_cons, List.flatMap_nil, List.append_nil, goS_mem, hd'.1, hd'.2.2.1]
    refine ⟨by decide, ?_, ?_⟩ <;> simp [nextS, S0, unsureS, tellsS]
theorem GL.right {φ : Nat → Nat} (hφ : ∀ a b, a ≤ b → φ a ≤ φ b) {cs cs' : List Cl} (h : GL φ cs cs') (hwf : ∀ c ∈ cs, c.fin = true → c.begins ≤ c.stops) (hb : ∀ c ∈ cs, c.begins ≤ topEnd) (hb' : ∀ c ∈ cs', c.begins ≤ topEnd)
    (hc : checkC cs = (true, 0)) : checkC cs' = (true, 0) ∨ (checkC cs').2 = 5 := by
  unfold checkC at hc ⊢
  cases hlong : longS cs'
  · left
    have hl : longS cs = false := by
      cases hl : longS cs
      · rfl
      · rw [hl] at hc; simp at hc
    rw [hl] at hc
    simp only [Bool.false_eq_true, if_false, Prod.mk.injEq, and_true, Bool.and_eq_true, Bool.not_eq_true'] at hc ⊢
    rw [twice_rev] at hc ⊢
    refine ⟨(order_all _).2 fun k => ?_, h.twice hc.2⟩
    have h1 := (row_can (fun c hc => hb c (rowS_key hc).2)).1 ((order_all _).1 hc.1 k)
    refine (row_can (fun c hc => hb' c (rowS_key hc).2)).2 ?_
    rw [row_b] at h1 ⊢
    cases hw : Go.Proofs.Yteclfkffgnfmpaa.written cs k
    · rw [hw] at h1
      cases hw' : Go.Proofs.Yteclfkffgnfmpaa.written cs' k
      · exact h1.weak hφ (h.row false k)
      · refine Can.weak hφ ?_ (h.row true k)
        have hno : ∀ c ∈ cs, c.key = k → c.counts = true → c.kind = 3 ∧ c.sure = true := by
          intro c hc hk hcc
          have h2 : ¬ c.wr = true := fun h2 => by
            simp only [Go.Proofs.Yteclfkffgnfmpaa.written, List.any_eq_false] at hw
            exact hw c hc (by simp [h2, hk])
          have h3 : c.kind = 3 := by
            by_cases h3 : c.kind = 3
            · exact h3
            · exact absurd (by simp [Cl.wr, hcc, h3]) h2
          refine ⟨h3, ?_⟩
          cases hs : c.sure
          · simp [Cl.counts, h3, hs] at hcc
          · rfl
        have h4 := stuck (fun c hc => by
          obtain ⟨hm, hp⟩ := List.mem_filter.1 hc
          simp only [keepB, Bool.and_eq_true, decide_eq_true_eq] at hp
          obtain ⟨h5, h6⟩ := hno c hm hp.1 hp.2.1
          refine ⟨h5, h6, fun h7 => ?_⟩
          have := hp.2.2
          simp [h5, h7] at this) h1
        refine nones _ _ (Nat.le_refl _) fun c hc => ?_
        obtain ⟨hm, hp⟩ := List.mem_filter.1 hc
        simp only [keepB, Bool.and_eq_true, decide_eq_true_eq] at hp
        obtain ⟨h5, h6⟩ := hno c hm hp.1 hp.2.1
        refine ⟨h5, h6, ?_, hwf c hm (sure_fin h6)⟩
        by_cases h7 : c.err = 7
        · exact h7
        · have : c ∈ rowK false cs k := List.mem_filter.2 ⟨hm, by simp [keepB, hp.1, hp.2.1, h7]⟩
          rw [h4] at this; cases this
    · rw [hw] at h1
      rw [h.written hw]
      exact h1.weak hφ (h.row true k)
  · right; rfl
end Go.Proofs.Yteclfkffgnfmpaa
