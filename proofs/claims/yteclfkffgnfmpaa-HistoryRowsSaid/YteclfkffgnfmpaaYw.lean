/- Histories, plain: calls one behind the other. Nothing is claimed here. -/
import Derived.Test.YteclfkffgnfmpaaYo
namespace Go.Proofs.Yteclfkffgnfmpaa
set_option linter.unusedVariables false
set_option linter.unusedSimpArgs false

/-- a call of one key after another -/
structure Rc where
  kind : Int
  key : Int
  cookie : Nat
  data : UInt8
  err : Int
  ans : UInt8
def Rc.fid (c : Rc) : Fid := ⟨1, (c.key % 2).toNat, c.cookie % 2⟩
def Rc.norm (c : Rc) : Rc := { c with kind := 2 + c.kind % 256 % 3, err := if c.err = 16 ∨ c.err = 6 ∨ c.err < 0 then 0 else c.err }
def evP (i : Int) (c : Rc) (b : Bool) : Ev := ⟨i + 1, b, c.kind, c.fid, [if b then c.ans % 2 else c.data % 2], if b then c.err else 0⟩
def hist : Nat → List Rc → List Ev
  | _, [] => []
  | i, c :: l => evP i c false :: evP i c true :: hist (i + 1) l
theorem hist_snoc (c : Rc) : ∀ (l : List Rc) (i : Nat), hist i (l ++ [c]) = hist i l ++ [evP (i + l.length : Nat) c false, evP (i + l.length : Nat) c true]
  | [], i => rfl
  | d :: l, i => by
    simp only [List.cons_append, hist, hist_snoc c l (i + 1), List.length_cons]
    rw [show i + 1 + l.length = i + (l.length + 1) from by omega]
theorem hist_len : ∀ (l : List Rc) (i : Nat), (hist i l).length = 2 * l.length
  | [], _ => rfl
  | c :: l, i => by simp only [hist, List.length_cons, hist_len l]; omega
def nx (s : HSt) (c : Rc) : HSt × Bool := nextS s c.kind c.fid [c.data % 2] c.err [c.ans % 2]
def stp (p : (Nat → HSt) × Bool) (c : Rc) : (Nat → HSt) × Bool :=
  (fun j => if j = (c.key % 2).toNat then (nx (p.1 j) c).1 else p.1 j, p.2 && (nx (p.1 (c.key % 2).toNat) c).2)
def runS (l : List Rc) : (Nat → HSt) × Bool := l.foldl stp (fun _ => S0, true)
theorem runS_snoc (l : List Rc) (c : Rc) : runS (l ++ [c]) = stp (runS l) c := by simp [runS, List.foldl_append]

def clO (i : Nat) (c : Rc) : Cl := ⟨c.kind, c.fid, [c.data % 2], true, c.err, [c.ans % 2], 2 * i, 2 * i + 1⟩
def clsF : Nat → List Rc → List Cl
  | _, [] => []
  | i, c :: l => clO i c :: clsF (i + 1) l
def pairF : Nat → List Rc → List (Int × Cl)
  | _, [] => []
  | i, c :: l => ((i : Int) + 1, clO i c) :: pairF (i + 1) l
theorem pairF_map : ∀ (l : List Rc) (i : Nat), (pairF i l).map (·.2) = clsF i l
  | [], _ => rfl
  | c :: l, i => by simp [pairF, clsF, pairF_map l]
theorem clsF_len : ∀ (l : List Rc) (i : Nat), (clsF i l).length = l.length
  | [], _ => rfl
  | c :: l, i => by simp [clsF, clsF_len l]
structure okRc (c : Rc) : Prop where
  kind : 2 ≤ c.kind ∧ c.kind ≤ 4
  err : c.err ≠ 16 ∧ c.err ≠ 6
theorem norm_ok (c : Rc) : okRc c.norm := by
  refine ⟨?_, ?_⟩
  · simp only [Rc.norm]; omega
  · simp only [Rc.norm]; split <;> omega
theorem readFrom_hist {n : Nat} : ∀ (l : List Rc) (i : Nat) (acc : List (Int × Cl)), (∀ c ∈ l, okRc c) → (∀ p ∈ acc, p.1 ≤ (i : Int)) → readFrom false n (2 * i) (hist i l) acc = some (acc ++ pairF i l)
  | [], i, acc, _, _ => by simp [hist, readFrom, pairF]
  | c :: l, i, acc, hk, h => by
    have hkc := (hk c (List.mem_cons_self ..)).kind
    have hno : ∀ p ∈ acc, ¬ p.1 = (i : Int) + 1 := fun p hp => by have := h p hp; omega
    have h1 : idx acc ((i : Int) + 1) = none := by
      simp only [idx, List.findIdx?_eq_none_iff]
      intro p hp
      simpa using hno p hp
    have s1 : stepE false n (2 * i) (evP i c false) acc = some (acc ++ [((i : Int) + 1, begin' n (2 * i) (evP i c false))]) := by
      simp only [stepE, evP, h1, if_neg (show ¬(c.kind < 1 ∨ 4 < c.kind) by omega), Bool.false_eq_true, if_false]
    have h2 : idx (acc ++ [((i : Int) + 1, begin' n (2 * i) (evP i c false))]) ((i : Int) + 1) = some acc.length := by
      have h3 : List.findIdx? (fun p : Int × Cl => decide (p.1 = (i : Int) + 1)) acc = none := h1
      simp only [idx, List.findIdx?_append, h3, Option.none_or, List.findIdx?_cons, decide_true, if_true, Option.map_some, Nat.zero_add]
    have s2 : stepE false n (2 * i + 1) (evP i c true) (acc ++ [((i : Int) + 1, begin' n (2 * i) (evP i c false))]) = some (acc ++ [((i : Int) + 1, clO i c)]) := by
      have hk1 : ¬ (c.kind = 1 ∧ (false = true → (if true = true then c.err else 0) = 0)) := fun h => by omega
      simp only [stepE, show (evP i c true).call = (i : Int) + 1 from rfl, h2, show (evP i c true).kind = c.kind from rfl, if_neg (show ¬(c.kind < 1 ∨ 4 < c.kind) by omega), List.getElem?_append_right (Nat.le_refl acc.length), Nat.sub_self, List.getElem?_cons_zero,
        show (evP i c true).fin = true from rfl, show (begin' n (2 * i) (evP i c false)).fin = false from rfl, and_self, if_true]
      rw [List.set_append_right _ _ (Nat.le_refl _), Nat.sub_self]
      simp only [List.set_cons_zero]
      congr 3
      simp only [finish, begin', evP, clO, if_neg hk1, if_true, Bool.false_eq_true, if_false]
      congr 1
      rw [if_neg (by omega)]
    simp only [hist, readFrom, s1, s2]
    rw [show 2 * i + 1 + 1 = 2 * (i + 1) from by omega, readFrom_hist l (i + 1) _ (fun c hc => hk c (List.mem_cons_of_mem _ hc)) (fun p hp => by
      rcases List.mem_append.1 hp with hp | hp
      · have := h p hp; omega
      · rw [List.mem_singleton.1 hp]; simp)]
    simp [pairF]
/-- calls of one place, in their order -/
def run1 : HSt → List Cl → Bool
  | _, [] => true
  | s, c :: l => (nextS s c.kind c.fid c.data c.err c.ans).2 && run1 (nextS s c.kind c.fid c.data c.err c.ans).1 l
theorem run_split : ∀ (l : List Rc) (i : Nat) (s : Nat → HSt) (b : Bool), ((l.foldl stp (s, b)).2 = true ↔ b = true ∧ ∀ k, run1 (s k) ((clsF i l).filter fun c => decide (c.key = ((1 : Int), k))) = true)
  | [], i, s, b => by simp [clsF, run1]
  | c :: l, i, s, b => by
    rw [List.foldl_cons, show stp (s, b) c = (fun j => if j = (c.key % 2).toNat then (nx (s j) c).1 else s j, b && (nx (s (c.key % 2).toNat) c).2) from rfl, run_split l (i + 1), Bool.and_eq_true]
    have hkey : (clO i c).key = ((1 : Int), (c.key % 2).toNat) := rfl
    simp only [clsF, List.filter_cons, hkey]
    constructor
    · rintro ⟨⟨h1, h2⟩, h3⟩
      refine ⟨h1, fun k => ?_⟩
      have h4 := h3 k
      by_cases hk : k = (c.key % 2).toNat
      · subst hk
        simp only [if_true] at h4
        simp only [decide_true, if_true, run1, Bool.and_eq_true]
        exact ⟨h2, h4⟩
      · rw [if_neg hk] at h4
        rw [if_neg (by simp only [decide_eq_true_eq, Prod.mk.injEq, true_and]; exact fun h => hk h.symm)]
        exact h4
    · rintro ⟨h1, h3⟩
      have h4 := h3 (c.key % 2).toNat
      simp only [decide_true, if_true, run1, Bool.and_eq_true] at h4
      refine ⟨⟨h1, h4.1⟩, fun k => ?_⟩
      by_cases hk : k = (c.key % 2).toNat
      · subst hk
        simp only [if_true]
        exact h4.2
      · have h5 := h3 k
        rw [if_neg (by simp only [decide_eq_true_eq, Prod.mk.injEq, true_and]; exact fun h => hk h.symm)] at h5
        rw [if_neg hk]
        exact h5
structure seqC (c : Cl) : Prop where
  sure : c.sure = true
  kind : 2 ≤ c.kind ∧ c.kind ≤ 4
  le : c.begins ≤ c.stops
theorem seq_counts {c : Cl} (h : seqC c) : c.counts = tellsS c.kind c.err := by
  have := h.kind
  simp [Cl.counts, h.sure, show ¬ c.kind = 1 by omega]
theorem seq_unsure {c : Cl} (h : seqC c) : unsureS c.err = false := by
  have := h.sure
  simp only [Cl.sure, Bool.and_eq_true, Bool.not_eq_true'] at this
  exact this.2
theorem next_untold {c : Cl} (h : seqC c) (ht : c.counts = false) (s : HSt) : nextS s c.kind c.fid c.data c.err c.ans = (s, true) := by
  have hk := h.kind
  rw [seq_counts h] at ht
  simp [nextS, seq_unsure h, ht, show ¬ (c.kind < 2) by omega, show ¬ (4 < c.kind) by omega]
theorem run_told : ∀ (A : List Cl) (s : HSt), (∀ c ∈ A, seqC c) → run1 s A = run1 s (A.filter (keepB true))
  | [], _, _ => rfl
  | c :: A, s, h => by
    have hc := h c (List.mem_cons_self ..)
    have ih := fun s => run_told A s fun d hd => h d (List.mem_cons_of_mem _ hd)
    have hk : keepB true c = c.counts := by simp [keepB]
    rw [List.filter_cons, hk]
    cases ht : c.counts
    · simp only [run1, next_untold hc ht, Bool.true_and, Bool.false_eq_true, if_false]
      exact ih s
    · simp only [run1, if_true, ih]
theorem run_gets : ∀ (A : List Cl), (∀ c ∈ A, seqC c) → (∀ c ∈ A, c.counts = true → c.kind = 3) → run1 S0 A = run1 S0 (A.filter (keepB false))
  | [], _, _ => rfl
  | c :: A, h, hg => by
    have hc := h c (List.mem_cons_self ..)
    have ih := run_gets A (fun d hd => h d (List.mem_cons_of_mem _ hd)) (fun d hd => hg d (List.mem_cons_of_mem _ hd))
    rw [List.filter_cons]
    cases ht : c.counts
    · have hk : keepB false c = false := by simp [keepB, ht]
      simp only [run1, next_untold hc ht, Bool.true_and, hk, Bool.false_eq_true, if_false]
      exact ih
    · have h3 := hg c (List.mem_cons_self ..) ht
      have hs : (nextS S0 c.kind c.fid c.data c.err c.ans).1 = S0 := by rw [h3]; exact next_get
      by_cases h7 : c.err = 7
      · have hk : keepB false c = false := by simp [keepB, h3, h7]
        have hn : (nextS S0 c.kind c.fid c.data c.err c.ans).2 = true := by
          rw [h3, h7]; simp [nextS, S0, unsureS, tellsS]
        simp only [run1, hs, hn, Bool.true_and, hk, Bool.false_eq_true, if_false]
        exact ih
      · have hk : keepB false c = true := by simp [keepB, ht, h7]
        simp only [run1, hs, hk, if_true, ih]
theorem can_seq : ∀ (L : List Cl) (s : HSt), (∀ c ∈ L, seqC c ∧ c.counts = true) → L.Pairwise (fun a b => a.stops < b.begins) → (Can L s ↔ run1 s L = true)
  | [], s, _, _ => by simp only [run1, iff_true]; exact .stop (by simp)
  | c :: L, s, h, hp => by
    obtain ⟨hc, hcc⟩ := h c (List.mem_cons_self ..)
    obtain ⟨hp1, hp2⟩ := List.pairwise_cons.1 hp
    have ih := fun s => can_seq L s (fun d hd => h d (List.mem_cons_of_mem _ hd)) hp2
    have hgo : ∀ x, x ∈ goesS c s ↔ (nextS s c.kind c.fid c.data c.err c.ans).2 = true ∧ x = (nextS s c.kind c.fid c.data c.err c.ans).1 := fun x => by
      simp only [goesS, errsS, hc.sure, if_true, List.flatMap_cons, List.flatMap_nil, List.append_nil, goS_mem, ← seq_counts hc, hcc, true_and]
    simp only [run1, Bool.and_eq_true]
    constructor
    · intro hcan
      generalize hl : c :: L = l at hcan
      cases hcan with
      | stop hs =>
        have := hs c (by rw [← hl]; simp)
        rw [hc.sure] at this; cases this
      | @step A B d _ x hf hx h' =>
        rcases A with _ | ⟨a, A⟩
        · simp only [List.nil_append, List.cons.injEq] at hl
          obtain ⟨rfl, rfl⟩ := hl
          obtain ⟨h1, rfl⟩ := (hgo x).1 hx
          exact ⟨h1, (ih _).1 h'⟩
        · simp only [List.cons_append, List.cons.injEq] at hl
          obtain ⟨rfl, rfl⟩ := hl
          have h1 := hf c (by simp) hc.sure
          have h2 := hp1 d (by simp)
          omega
    · rintro ⟨h1, h2⟩
      refine Can.step (A := []) (B := L) (x := (nextS s c.kind c.fid c.data c.err c.ans).1) (fun d hd hs => ?_) ((hgo _).2 ⟨h1, rfl⟩) ((ih _).2 h2)
      rcases List.mem_cons.1 hd with rfl | hd
      · exact hc.le
      · have h3 := hp1 d hd
        have h4 := (h d (List.mem_cons_of_mem _ hd)).1.le
        have h5 := hc.le
        omega
theorem clsF_mem : ∀ (l : List Rc) (i : Nat) (x : Cl), x ∈ clsF i l → ∃ j c, i ≤ j ∧ j < i + l.length ∧ c ∈ l ∧ x = clO j c
  | [], i, x, h => by simp [clsF] at h
  | c :: l, i, x, h => by
    rcases List.mem_cons.1 h with rfl | h
    · exact ⟨i, c, Nat.le_refl _, by simp, by simp, rfl⟩
    · obtain ⟨j, d, h1, h2, h3, h4⟩ := clsF_mem l (i + 1) x h
      exact ⟨j, d, by omega, by simp; omega, by simp [h3], h4⟩
theorem clsF_seq : ∀ (l : List Rc) (i : Nat), (clsF i l).Pairwise fun a b => a.stops < b.begins
  | [], _ => List.Pairwise.nil
  | c :: l, i => by
    refine List.pairwise_cons.2 ⟨fun d hd => ?_, clsF_seq l (i + 1)⟩
    obtain ⟨j, c', h1, h2, h3, rfl⟩ := clsF_mem l (i + 1) d hd
    show 2 * i + 1 < 2 * j
    omega
theorem clO_seq {i : Nat} {c : Rc} (h : okRc c) : seqC (clO i c) := by
  refine ⟨?_, h.kind, by show 2 * i ≤ 2 * i + 1; omega⟩
  have := h.err
  simp [Cl.sure, clO, unsureS, this.1, this.2]
theorem rows_right {l : List Rc} (hl : l.length ≤ 14) (hk : ∀ c ∈ l, okRc c) : checkS (hist 0 l) = ((runS l).2, 0) := by
  have hread : readS false (hist 0 l) = some (clsF 0 l) := by
    have := readFrom_hist (n := (hist 0 l).length) l 0 [] hk (by simp)
    simp only [Nat.mul_zero, List.nil_append] at this
    simp only [readS, this, Option.map_some, pairF_map]
  have hcs : ∀ c ∈ clsF 0 l, seqC c := fun x hx => by
    obtain ⟨j, c, _, _, h3, rfl⟩ := clsF_mem l 0 x hx
    exact clO_seq (hk c h3)
  have hb : ∀ c ∈ clsF 0 l, c.begins ≤ topEnd := fun x hx => by
    obtain ⟨j, c, _, h2, h3, rfl⟩ := clsF_mem l 0 x hx
    show 2 * j ≤ 9223372036854775807
    omega
  have hvol : ∀ c ∈ clsF 0 l, c.fid.vol = 1 := fun x hx => by
    obtain ⟨j, c, _, h2, h3, rfl⟩ := clsF_mem l 0 x hx
    rfl
  have hck : checkS (hist 0 l) = checkC (clsF 0 l) := by unfold checkS; rw [hread]
  have hlong : longS (clsF 0 l) = false := by
    cases h : longS (clsF 0 l)
    · rfl
    · obtain ⟨k, h1⟩ := (long_all _).1 h
      have h2 : (rowS (clsF 0 l) (clsF 0 l) k).length ≤ (clsF 0 l).length := List.length_filter_le _ _
      rw [clsF_len] at h2
      omega
  have htw : twiceS (clsF 0 l) = false := by
    rw [twice_iff, List.pairwise_iff_forall_sublist]
    intro a b hab h
    have ha := hcs a (hab.subset (by simp))
    have := ha.kind
    have h1 := h.1
    simp only [Cl.asg, Bool.and_eq_true, decide_eq_true_eq] at h1
    omega
  have hrow : ∀ k : Nat, reachRow (rowS (clsF 0 l) (clsF 0 l) (1, k)) = true ↔ run1 S0 ((clsF 0 l).filter fun c => decide (c.key = ((1 : Int), k))) = true := fun k => by
    rw [row_can fun c hc => hb c (rowS_key hc).2]
    have hsub : ∀ b, rowK b (clsF 0 l) (1, k) = ((clsF 0 l).filter fun c => decide (c.key = ((1 : Int), k))).filter (keepB b) := fun b => by
      rw [List.filter_filter]
      exact List.filter_congr fun c _ => Bool.and_comm _ _
    have hA : ∀ c ∈ (clsF 0 l).filter fun c => decide (c.key = ((1 : Int), k)), seqC c := fun c hc => hcs c (List.mem_filter.1 hc).1
    have hcan : ∀ b, Can (rowK b (clsF 0 l) (1, k)) S0 ↔ run1 S0 (rowK b (clsF 0 l) (1, k)) = true := fun b => by
      refine can_seq _ _ (fun c hc => ?_) ((clsF_seq l 0).filter _)
      obtain ⟨h1, h2⟩ := List.mem_filter.1 hc
      simp only [keepB, Bool.and_eq_true] at h2
      exact ⟨hcs c h1, h2.2.1⟩
    rw [row_b, hcan, hsub]
    cases hw : Go.Proofs.Yteclfkffgnfmpaa.written (clsF 0 l) (1, k)
    · rw [run_gets _ hA fun c hc ht => ?_]
      obtain ⟨h1, h2⟩ := List.mem_filter.1 hc
      simp only [Go.Proofs.Yteclfkffgnfmpaa.written, List.any_eq_false] at hw
      have h3 := hw c h1
      by_cases h4 : c.kind = 3
      · exact h4
      · exact absurd (by simp [Cl.wr, ht, h4]; simpa using h2) h3
    · rw [run_told _ _ hA]
  have hord : orderS (clsF 0 l) = (runS l).2 := by
    rw [Bool.eq_iff_iff, order_all, runS, run_split l 0]
    simp only [true_and]
    constructor
    · intro h k
      exact (hrow k).1 (h (1, k))
    · rintro h ⟨v, k⟩
      by_cases hv : v = 1
      · subst hv
        exact (hrow k).2 (h k)
      · have : rowS (clsF 0 l) (clsF 0 l) (v, k) = [] := by
          simp only [rowS, List.filter_eq_nil_iff]
          intro c hc
          have := hvol c hc
          simp only [Cl.key, this, Bool.and_eq_true, decide_eq_true_eq, Prod.mk.injEq]
          exact fun h => hv h.1.1.symm
        rw [this]
        exact reachRow_nil
  rw [hck, checkC, hlong, twice_rev, htw, hord]
  simp
end Go.Proofs.Yteclfkffgnfmpaa
