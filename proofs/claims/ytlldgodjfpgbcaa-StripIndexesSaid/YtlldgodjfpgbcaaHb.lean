/- Rows of rows; stores into a row of one's own. Nothing is claimed here. -/
import Derived.Test.YtlldgodjfpgbcaaHa
import Derived.Laws.OwnMore
import Derived.Lib.OwnKind
namespace Go.Proofs.Ytlldgodjfpgbcaa
open Go.RowKit
set_option linter.unusedVariables false
set_option linter.unusedSimpArgs false

theorem vint {k : IntKind} {x y : Int} (h : x = y) : some (Value.int k x) = some (Value.int k y) := by rw [h]
theorem vintv {k : IntKind} {x y : Int} (h : x = y) : Value.int k x = Value.int k y := by rw [h]

section
variable {P : Program} {T : Tab}
theorem St.own {w : World} {t e : TypeId} {base g i n cap : Nat} {xs : List Value} {K : World → Prop} {v : Value} {d : Td} (hl : look T t = some d) (hs : d.size = 1) (ho : w.ownsRow base e 1 (.slice (some ⟨g, 0, none⟩) n cap) n xs) (hi : i < n)
    (hv : cellsL v = [v]) (h1 : v.oneCell' = true) (hT : TabOk P T) (hk : ∀ w', w'.ownsRow base e 1 (.slice (some ⟨g, 0, none⟩) n cap) n (xs.set i v) → w.grownBy w' (some g) → K w') : St P w t ⟨g, i, none⟩ v K := by
  have hc := ho.cellAt i (by omega)
  have hl1 := own_len ho
  rw [List.getElem?_eq_getElem (by omega)] at hc
  exact St.one hT hl hs hv h1 hc (ho.frozenAt i) (hk _ (ho.stored i v).1 (ho.stored i v).2)
theorem Ld.own {w : World} {t e : TypeId} {base g i n cap : Nat} {xs : List Value} {K : Value → Prop} {v : Value} {d : Td} (hT : TabOk P T) (hl : look T t = some d) (ha : d.sh.agg = false) (ho : w.ownsRow base e 1 (.slice (some ⟨g, 0, none⟩) n cap) n xs) (hi : i < n)
    (hx : xs[i]? = some v) (hk : K v) : Ld P w t ⟨g, i, none⟩ K :=
  Ld.one hT hl ha (by rw [ho.cellAt i (by omega)]; exact hx) hk
end

section
variable {P : Program} {T : Tab} (hT : TabOk P T)
include hT
/-- append, and where the row then lies -/
theorem Rv.append' {w : World} {K : Value → World → Prop} {t e ty : TypeId} {s b sz by' : Nat} {z ez : Value} {sh : Sh} (ht : look T t = some ⟨.slice e, s, b, z⟩) (he : look T e = some ⟨sh, sz, by', ez⟩) (hz : llen (cellsL ez) = sz) (hsz : 0 < sz)
    {base n : Nat} {v : Value} {xs : List Value} (hown : w.ownsRow base e sz v n xs) {x : Value} {m : Nat} {news : List Value} (hs : SlN w sz x m news) (h1 : ∀ u ∈ news, u.oneCell' = true)
    (h63 : n + m ≤ maxLen) (hby : (n + m) * by' ≤ 140737488355328) (hbase : base ≤ w.heap.size)
    (hk : ∀ v' w', w'.ownsRow base e sz v' (n + m) (xs ++ news) → w.grownBy w' v.ownBlock → (v'.ownBlock = v.ownBlock ∨ v'.ownBlock = some w.heap.size) → K v' w') :
    Rv P (Builtin.append_ #[t, t] ty #[v, x]) w K := by
  have hu := und_slice hT ht
  obtain ⟨i, hi, hiz, his, hib⟩ := (hT _ _ he).inf
  have hzs : ez.cells.size = sz := by rw [cellsL_eq, List.size_toArray, ← llen_eq]; exact hz
  rcases hs.cases with ⟨rfl, rfl, rfl⟩ | ⟨b', o, c, rfl, e1, e2, hr⟩
  · have := run_append_owned_none (P := P) w base t ty e i sz hu hi v n xs hown
    refine Rv.mk this (hk v w (by simpa using hown) ⟨rfl, rfl, rfl, Nat.le_refl _, fun _ _ _ => rfl⟩ (.inl rfl))
  · have hn : ∀ j u, news[j]? = some u → w.cell? ((⟨b', o, none⟩ : Addr).add j) = some u := fun j u hj => by rw [Addr.add_lit]; exact hr j u hj
    obtain ⟨v', w', hrun, q1, q2, q3⟩ := run_append_own (P := P) w base t ty e i ez sz by' hu hi hiz his hib hzs hsz v n xs hown ⟨b', o, none⟩ m c news hs.len hn h1 h63 hby hbase
    refine Rv.mk hrun (hk v' w' q1 q2 ?_)
    subst his; subst hib
    simp only [maxLen] at h63
    rcases hown.2 with ⟨rfl, rfl⟩ | ⟨g, cap, cur, rfl, hbg, hg, hnc, hcm, hcs, htake⟩
    · by_cases hm : m = 0
      · exact .inl (by rw [q3.2 ⟨rfl, hm⟩])
      · have hr2 := run_append_nil (P := P) w t ty e i ez hu hi hiz ⟨b', o, none⟩ m c news hs.len hn (by omega) (by omega) (by rw [Nat.zero_add] at hby; omega)
        rw [hr2] at hrun
        injection hrun with hv _
        exact .inr (by rw [← hv]; rfl)
    · by_cases hroom : n + m ≤ cap
      · have hfit : n * i.size + news.length ≤ cur.size := by rw [hs.len, hcs, ← Nat.add_mul]; exact Nat.mul_le_mul_right _ hroom
        have hr2 := run_append_room (P := P) w t ty e i hu hi g n cap cur hg ⟨b', o, none⟩ m c news hs.len hn h1 hroom hfit
        rw [hr2] at hrun
        injection hrun with hv _
        exact .inl (by rw [← hv]; rfl)
      · have holds : ∀ j u, xs[j]? = some u → w.cell? ((⟨g, 0, none⟩ : Addr).add j) = some u := hown.cells (g := g) rfl
        have hr2 := run_append_grow (P := P) w t ty e i ez hu hi hiz ⟨g, 0, none⟩ n cap xs hown.1 holds ⟨b', o, none⟩ m c news hs.len hn (by omega) (by omega) (growslice_fits (by omega) hby)
        rw [hr2] at hrun
        injection hrun with hv _
        exact .inr (by rw [← hv]; rfl)
end

theorem fill_set {α : Type} (A : List α) (m : Nat) (z x : α) {k : Nat} (hk : k = A.length) : (A ++ List.replicate (m + 1) z).set k x = (A ++ [x]) ++ List.replicate m z := by
  subst hk
  simp [List.replicate_succ]

/-- rows, each readable -/
structure Ins (w : World) (us : List Value) (ls : List (List UInt8)) : Prop where
  len : us.length = ls.length
  at' : ∀ (i : Nat) (u : Value) (l : List UInt8), us[i]? = some u → ls[i]? = some l → Sl w u (bv l)
theorem Ins.nil (w : World) : Ins w [] [] := ⟨rfl, fun i u l h => by simp at h⟩
theorem Ins.get {w : World} {us : List Value} {ls : List (List UInt8)} (h : Ins w us ls) {i : Nat} {l : List UInt8} (hl : ls[i]? = some l) : ∃ u, us[i]? = some u ∧ Sl w u (bv l) := by
  have : i < us.length := by rw [h.len]; exact (List.getElem?_eq_some_iff.1 hl).1
  exact ⟨us[i], List.getElem?_eq_getElem this, h.at' i _ l (List.getElem?_eq_getElem this) hl⟩
theorem Ins.snoc {w : World} {us : List Value} {ls : List (List UInt8)} {u : Value} {l : List UInt8} (h : Ins w us ls) (hu : Sl w u (bv l)) : Ins w (us ++ [u]) (ls ++ [l]) := by
  refine ⟨by simp [h.len], fun i u' l' h1 h2 => ?_⟩
  have hl := h.len
  rw [List.getElem?_append] at h1 h2
  split at h1
  · rw [if_pos (by omega)] at h2
    exact h.at' i u' l' h1 h2
  · rw [if_neg (by omega)] at h2
    have : i = us.length := by
      have := (List.getElem?_eq_some_iff.1 h1).1
      simp at this; omega
    subst this
    simp [hl] at h1 h2
    subst h1; subst h2; exact hu
theorem Ins.append {w : World} {us us' : List Value} {ls ls' : List (List UInt8)} (h : Ins w us ls) (h' : Ins w us' ls') : Ins w (us ++ us') (ls ++ ls') := by
  refine ⟨by simp [h.len, h'.len], fun i u l h1 h2 => ?_⟩
  have hl := h.len
  rw [List.getElem?_append] at h1 h2
  split at h1
  · rw [if_pos (by omega)] at h2
    exact h.at' i u l h1 h2
  · rw [if_neg (by omega)] at h2
    rw [hl] at h1
    exact h'.at' _ u l h1 h2
theorem Ins.take {w : World} {us : List Value} {ls : List (List UInt8)} (h : Ins w us ls) (k : Nat) : Ins w (us.take k) (ls.take k) := by
  refine ⟨by simp [h.len], fun i u l h1 h2 => ?_⟩
  rw [List.getElem?_take] at h1 h2
  split at h1
  · rename_i hi; rw [if_pos hi] at h2; exact h.at' i u l h1 h2
  · simp at h1
theorem Ins.drop {w : World} {us : List Value} {ls : List (List UInt8)} (h : Ins w us ls) (k : Nat) : Ins w (us.drop k) (ls.drop k) := by
  refine ⟨by simp [h.len], fun i u l h1 h2 => ?_⟩
  rw [List.getElem?_drop] at h1 h2
  exact h.at' _ u l h1 h2
theorem Ins.below {w w' : World} {us : List Value} {ls : List (List UInt8)} (h : Ins w us ls) (hb : Below w.heap.size w w') : Ins w' us ls := ⟨h.len, fun i u l h1 h2 => (h.at' i u l h1 h2).below hb⟩
theorem Ins.grown {w w' : World} {us : List Value} {ls : List (List UInt8)} {row : Option Nat} (h : Ins w us ls) (hg : w.grownBy w' row) (hne : ∀ u ∈ us, row ≠ none → u.ownBlock ≠ row) : Ins w' us ls := by
  refine ⟨h.len, fun i u l h1 h2 => ?_⟩
  have hs := h.at' i u l h1 h2
  cases row with
  | none => exact hs.below (below_of_grown0 hg (Nat.le_refl _))
  | some r => exact hs.grown hg fun _ => hne u (List.mem_of_getElem? h1) (by simp)
theorem Ins.grown0 {w w' : World} {us : List Value} {ls : List (List UInt8)} (h : Ins w us ls) (hg : w.grownBy w' none) : Ins w' us ls := h.grown hg fun _ _ h => absurd rfl h
theorem Ins.set {w : World} {us : List Value} {ls : List (List UInt8)} {u : Value} {l : List UInt8} (h : Ins w us ls) (i : Nat) (hu : Sl w u (bv l)) : Ins w (us.set i u) (ls.set i l) := by
  refine ⟨by simp [h.len], fun j u' l' h1 h2 => ?_⟩
  rw [List.getElem?_set] at h1 h2
  split at h1
  · rename_i hi; subst hi
    rw [if_pos rfl] at h2
    split at h1
    · rename_i hi
      rw [if_pos (by rw [← h.len]; exact hi)] at h2
      simp at h1 h2; subst h1; subst h2; exact hu
    · simp at h1
  · rename_i hi
    rw [if_neg hi] at h2
    exact h.at' j u' l' h1 h2
theorem Ins.one {w : World} {us : List Value} {ls : List (List UInt8)} (h : Ins w us ls) : ∀ u ∈ us, u.oneCell' = true := by
  intro u hu
  obtain ⟨i, hi⟩ := List.getElem?_of_mem hu
  have hlt := (List.getElem?_eq_some_iff.1 hi).1
  obtain ⟨a, c, rfl⟩ := (h.at' i u _ hi (List.getElem?_eq_getElem (by rw [← h.len]; exact hlt))).shape
  rfl

/-- a slice of slices of bytes -/
structure SS (w : World) (v : Value) (ls : List (List UInt8)) : Prop where
  of : ∃ us, Sl w v us ∧ Ins w us ls
theorem SS.nil (w : World) : SS w (.slice none 0 0) [] := ⟨[], Sl.nil w, Ins.nil w⟩
theorem SS.below {w w' : World} {v : Value} {ls : List (List UInt8)} (h : SS w v ls) (hb : Below w.heap.size w w') : SS w' v ls := by
  obtain ⟨us, h1, h2⟩ := h.of
  exact ⟨us, h1.below hb, h2.below hb⟩

/-- a row of one's own that is read behind a write beside it -/
theorem below_own_store {w w' : World} {B g : Nat} (hg : w.grownBy w' (some g)) (hB : B ≤ w.heap.size) (hb : B ≤ g) : Below B w w' := (Below.refl B w).grown hg hB (by rintro k ⟨⟩; exact hb)

/-- rows of one's own, each in a block of its own, of another type than the row that holds them -/
structure InsO (w : World) (base : Nat) (e : TypeId) (us : List Value) (ls : List (List UInt8)) : Prop where
  len : us.length = ls.length
  own : ∀ (i : Nat) (u : Value) (l : List UInt8), us[i]? = some u → ls[i]? = some l → w.ownsRow base e 1 u l.length (bv l)
  sep : ∀ (i j : Nat) (u u' : Value), i ≠ j → us[i]? = some u → us[j]? = some u' → u.ownBlock = none ∨ u.ownBlock ≠ u'.ownBlock
theorem InsO.ins {w : World} {base : Nat} {e : TypeId} {us : List Value} {ls : List (List UInt8)} (h : InsO w base e us ls) : Ins w us ls := ⟨h.len, fun i u l h1 h2 => Sl.of_own (h.own i u l h1 h2)⟩
theorem InsO.nil (w : World) (base : Nat) (e : TypeId) : InsO w base e [] [] := ⟨rfl, fun i u l h => by simp at h, fun i j u u' _ h => by simp at h⟩
theorem InsO.get {w : World} {base : Nat} {e : TypeId} {us : List Value} {ls : List (List UInt8)} (h : InsO w base e us ls) {i : Nat} {l : List UInt8} (hl : ls[i]? = some l) : ∃ u, us[i]? = some u ∧ w.ownsRow base e 1 u l.length (bv l) := by
  have : i < us.length := by rw [h.len]; exact (List.getElem?_eq_some_iff.1 hl).1
  exact ⟨us[i], List.getElem?_eq_getElem this, h.own i _ l (List.getElem?_eq_getElem this) hl⟩
theorem InsO.lt {w : World} {base : Nat} {e : TypeId} {us : List Value} {ls : List (List UInt8)} (h : InsO w base e us ls) {i : Nat} {u : Value} (hu : us[i]? = some u) : ∀ k, u.ownBlock = some k → base ≤ k ∧ k < w.heap.size := by
  have hlt := (List.getElem?_eq_some_iff.1 hu).1
  exact (h.own i u _ hu (List.getElem?_eq_getElem (by rw [← h.len]; exact hlt))).lt
/-- a block of another type was written, or none of these -/
theorem InsO.grown {w w' : World} {base : Nat} {e : TypeId} {us : List Value} {ls : List (List UInt8)} {row : Option Nat} (h : InsO w base e us ls) (hg : w.grownBy w' row) (hr : ∀ u ∈ us, u.ownBlock = none ∨ u.ownBlock ≠ row) : InsO w' base e us ls :=
  ⟨h.len, fun i u l h1 h2 => (h.own i u l h1 h2).kept hg (hr u (List.mem_of_getElem? h1)), h.sep⟩
theorem InsO.grown0 {w w' : World} {base : Nat} {e : TypeId} {us : List Value} {ls : List (List UInt8)} (h : InsO w base e us ls) (hg : w.grownBy w' none) : InsO w' base e us ls :=
  h.grown hg fun u _ => by cases hu : u.ownBlock <;> simp
theorem InsO.apart {w : World} {base base' : Nat} {e e' : TypeId} {us : List Value} {ls : List (List UInt8)} (h : InsO w base e us ls) {v : Value} {sz n : Nat} {xs : List Value} (ho : w.ownsRow base' e' sz v n xs) (hne : e ≠ e') : ∀ u ∈ us, u.ownBlock = none ∨ u.ownBlock ≠ v.ownBlock := by
  intro u hu
  obtain ⟨i, hi⟩ := List.getElem?_of_mem hu
  have hlt := (List.getElem?_eq_some_iff.1 hi).1
  have h1 := h.own i u _ hi (List.getElem?_eq_getElem (by rw [← h.len]; exact hlt))
  cases hb : u.ownBlock with
  | none => exact .inl rfl
  | some k =>
    refine .inr fun hv => ?_
    obtain ⟨c1, f1, e1⟩ := Lib.ownsRow_kind h1 k hb
    obtain ⟨c2, f2, e2⟩ := Lib.ownsRow_kind ho k hv.symm
    rw [e1] at e2
    simp only [Option.some.injEq, Obj.cells.injEq] at e2
    exact hne e2.2.1
theorem InsO.below {w w' : World} {base : Nat} {e : TypeId} {us : List Value} {ls : List (List UInt8)} (h : InsO w base e us ls) (hb : Below w.heap.size w w') : InsO w' base e us ls :=
  ⟨h.len, fun i u l h1 h2 => own_below (h.own i u l h1 h2) hb (Nat.le_refl _), h.sep⟩
theorem InsO.drew {w : World} {base : Nat} {e : TypeId} {us : List Value} {ls : List (List UInt8)} (h : InsO w base e us ls) : InsO w.drew base e us ls := ⟨h.len, h.own, h.sep⟩
theorem InsO.snoc {w : World} {base : Nat} {e : TypeId} {us : List Value} {ls : List (List UInt8)} {u : Value} {l : List UInt8} (h : InsO w base e us ls) (hu : w.ownsRow base e 1 u l.length (bv l)) (hs : ∀ u' ∈ us, u'.ownBlock = none ∨ u'.ownBlock ≠ u.ownBlock) :
    InsO w base e (us ++ [u]) (ls ++ [l]) := by
  have hl := h.len
  refine ⟨by simp [hl], fun i u' l' h1 h2 => ?_, fun i j a b hij h1 h2 => ?_⟩
  · rw [List.getElem?_append] at h1 h2
    split at h1
    · rw [if_pos (by omega)] at h2
      exact h.own i u' l' h1 h2
    · rw [if_neg (by omega)] at h2
      have : i = us.length := by
        have := (List.getElem?_eq_some_iff.1 h1).1
        simp at this; omega
      subst this
      simp [hl] at h1 h2
      subst h1; subst h2; exact hu
  · rw [List.getElem?_append] at h1 h2
    split at h1 <;> split at h2
    · exact h.sep i j a b hij h1 h2
    · have : b = u := by
        have h3 := (List.getElem?_eq_some_iff.1 h2).1
        simp at h3
        have h4 : j - us.length = 0 := by omega
        rw [h4] at h2; simpa using h2.symm
      subst this
      exact hs a (List.mem_of_getElem? h1)
    · have : a = u := by
        have h3 := (List.getElem?_eq_some_iff.1 h1).1
        simp at h3
        have h4 : i - us.length = 0 := by omega
        rw [h4] at h1; simpa using h1.symm
      subst this
      rcases hs b (List.mem_of_getElem? h2) with h5 | h5
      · by_cases hn : a.ownBlock = none
        · exact .inl hn
        · exact .inr fun h6 => hn (h6.trans h5)
      · exact .inr fun h6 => h5 h6.symm
    · have h3 := (List.getElem?_eq_some_iff.1 h1).1
      have h4 := (List.getElem?_eq_some_iff.1 h2).1
      simp at h3 h4
      omega
/-- the i-th row has grown: in its block, or in a new one -/
theorem InsO.set {w w' : World} {base : Nat} {e : TypeId} {us : List Value} {ls : List (List UInt8)} {u u' : Value} {l : List UInt8} (h : InsO w base e us ls) {i : Nat} (hi : us[i]? = some u) (hg : w.grownBy w' u.ownBlock) (hu : w'.ownsRow base e 1 u' l.length (bv l))
    (hb : u'.ownBlock = u.ownBlock ∨ u'.ownBlock = some w.heap.size ∨ u'.ownBlock = none) : InsO w' base e (us.set i u') (ls.set i l) := by
  have hl := h.len
  have hap : ∀ (j : Nat) (a : Value), j ≠ i → us[j]? = some a → a.ownBlock = none ∨ (a.ownBlock ≠ u.ownBlock ∧ a.ownBlock ≠ u'.ownBlock) := by
    intro j a hj ha
    rcases h.sep j i a u hj ha hi with h1 | h1
    · exact .inl h1
    · rcases hb with h2 | h2 | h2
      · exact .inr ⟨h1, by rw [h2]; exact h1⟩
      · refine .inr ⟨h1, fun h3 => ?_⟩
        have := (h.lt ha _ (h3.trans h2)).2
        omega
      · cases ha' : a.ownBlock with
        | none => exact .inl rfl
        | some k => exact .inr ⟨by rw [← ha']; exact h1, by rw [h2]; simp⟩
  refine ⟨by simp [hl], fun j a l' h1 h2 => ?_, fun j k a b hjk h1 h2 => ?_⟩
  · rw [List.getElem?_set] at h1 h2
    by_cases hij : i = j
    · subst hij
      have hlt := (List.getElem?_eq_some_iff.1 hi).1
      rw [if_pos rfl, if_pos hlt] at h1
      rw [if_pos rfl, if_pos (by omega)] at h2
      simp at h1 h2; subst h1; subst h2; exact hu
    · rw [if_neg hij] at h1 h2
      exact (h.own j a l' h1 h2).kept hg ((hap j a (Ne.symm hij) h1).imp id (·.1))
  · rw [List.getElem?_set] at h1 h2
    by_cases hij : i = j
    · subst hij
      have hlt := (List.getElem?_eq_some_iff.1 hi).1
      rw [if_pos rfl, if_pos hlt] at h1
      rw [if_neg hjk] at h2
      simp at h1; subst h1
      rcases hap k b (Ne.symm hjk) h2 with h3 | h3
      · by_cases hn : u'.ownBlock = none
        · exact .inl hn
        · exact .inr fun h6 => hn (h6.trans h3)
      · exact .inr fun h6 => h3.2 h6.symm
    · rw [if_neg hij] at h1
      by_cases hik : i = k
      · subst hik
        have hlt := (List.getElem?_eq_some_iff.1 hi).1
        rw [if_pos rfl, if_pos hlt] at h2
        simp at h2; subst h2
        exact (hap j a (Ne.symm hij) h1).imp id (·.2)
      · rw [if_neg hik] at h2
        exact h.sep j k a b hjk h1 h2
theorem InsO.one {w : World} {base : Nat} {e : TypeId} {us : List Value} {ls : List (List UInt8)} (h : InsO w base e us ls) : ∀ u ∈ us, u.oneCell' = true := h.ins.one

end Go.Proofs.Ytlldgodjfpgbcaa
