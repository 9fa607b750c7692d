/- make, append, copy, conversions, over the layer. Nothing is claimed here. -/
import Derived.Test.YtlldgodjfpgbcaaH
import Derived.Laws.AppendOwnNone
import Derived.Laws.CopyOwn
namespace Go.Proofs.Ytlldgodjfpgbcaa
open Go.RowKit
set_option linter.unusedVariables false
set_option linter.unusedSimpArgs false

/-- a slice of n elements of sz cells each that may be read -/
structure SlN (w : World) (sz : Nat) (v : Value) (n : Nat) (xs : List Value) : Prop where
  len : xs.length = n * sz
  of : ∃ a c, v = .slice a n c ∧ n ≤ c ∧ c ≤ maxLen ∧ (a = none → c = 0) ∧ (∀ ad, a = some ad → ad.spot = none ∧ Row w ad.block ad.off xs)
theorem Sl.toN {w : World} {v : Value} {xs : List Value} (h : Sl w v xs) : SlN w 1 v xs.length xs := ⟨by simp, h.of⟩
theorem SlN.to1 {w : World} {v : Value} {n : Nat} {xs : List Value} (h : SlN w 1 v n xs) : Sl w v xs := by
  have : n = xs.length := by simpa using h.len.symm
  subst this
  exact ⟨h.of⟩
theorem SlN.cases {w : World} {sz : Nat} {v : Value} {n : Nat} {xs : List Value} (h : SlN w sz v n xs) : (v = .slice none 0 0 ∧ n = 0 ∧ xs = []) ∨ ∃ b o c, v = .slice (some ⟨b, o, none⟩) n c ∧ n ≤ c ∧ c ≤ maxLen ∧ Row w b o xs := by
  obtain ⟨a, c, rfl, h1, h2, h3, h4⟩ := h.of
  cases a with
  | none =>
    have hc := h3 rfl
    subst hc
    have hn : n = 0 := by omega
    subst hn
    exact .inl ⟨rfl, rfl, List.eq_nil_of_length_eq_zero (by simpa using h.len)⟩
  | some ad =>
    obtain ⟨b, o, s⟩ := ad
    obtain ⟨hs, hr⟩ := h4 _ rfl
    simp only at hs; subst hs
    exact .inr ⟨b, o, c, rfl, h1, h2, hr⟩
theorem SlN.nil (w : World) (sz : Nat) : SlN w sz (.slice none 0 0) 0 [] := ⟨by simp, none, 0, rfl, Nat.le_refl _, by simp [maxLen], fun _ => rfl, fun _ h => by cases h⟩
theorem SlN.some' {w : World} {sz b o n c : Nat} {xs : List Value} (hl : xs.length = n * sz) (hc : n ≤ c) (hm : c ≤ maxLen) (h : Row w b o xs) : SlN w sz (.slice (some ⟨b, o, none⟩) n c) n xs :=
  ⟨hl, _, c, rfl, hc, hm, nofun, (fun ad had => by injection had with had; subst had; exact ⟨rfl, h⟩)⟩
theorem SlN.keep {w w' : World} {sz n : Nat} {v : Value} {xs : List Value} (h : SlN w sz v n xs) (hb : ∀ k, v.ownBlock = some k → xs ≠ [] → w'.heap[k]? = w.heap[k]?) : SlN w' sz v n xs := by
  rcases h.cases with ⟨rfl, rfl, rfl⟩ | ⟨b, o, c, rfl, h1, h2, hr⟩
  · exact SlN.nil _ _
  · by_cases hx : xs = []
    · subst hx
      exact SlN.some' h.len h1 h2 (fun i x hx => by simp at hx)
    · exact SlN.some' h.len h1 h2 (hr.of_block (hb b rfl hx))
theorem SlN.below {w w' : World} {sz n : Nat} {v : Value} {xs : List Value} (h : SlN w sz v n xs) (hb : Below w.heap.size w w') : SlN w' sz v n xs :=
  h.keep fun k hk hx => by
    rcases h.cases with ⟨rfl, _, _⟩ | ⟨b, o, c, rfl, h1, h2, hr⟩
    · cases hk
    · injection hk with hk
      subst hk
      exact hb.block _ (hr.lt hx)
theorem SlN.of_own {w : World} {base sz : Nat} {e : TypeId} {v : Value} {n : Nat} {xs : List Value} (h : w.ownsRow base e sz v n xs) : SlN w sz v n xs := by
  rcases h.2 with ⟨rfl, rfl⟩ | ⟨g, cap, cur, rfl, _, hg, hc, hm, hs, ht⟩
  · have : xs = [] := List.eq_nil_of_length_eq_zero (by simpa using h.1)
    subst this
    exact SlN.nil _ _
  · refine SlN.some' h.1 hc hm (fun i x hx => ?_)
    have := h.cells (g := g) rfl i x hx
    rwa [Addr.add_lit] at this

theorem own_keep0 {w w' : World} {base : Nat} {e : TypeId} {sz : Nat} {v : Value} {n : Nat} {xs : List Value} (h : w.ownsRow base e sz v n xs) (hg : w.grownBy w' none) : w'.ownsRow base e sz v n xs :=
  h.kept hg (by cases hv : v.ownBlock <;> simp)
theorem own_below {w w' : World} {base B : Nat} {e : TypeId} {sz : Nat} {v : Value} {n : Nat} {xs : List Value} (h : w.ownsRow base e sz v n xs) (hb : Below B w w') (hB : w.heap.size ≤ B) : w'.ownsRow base e sz v n xs := by
  refine h.kept (row := none) ⟨hb.os, hb.tape, hb.output, hb.size, fun k hk _ => hb.block k (by omega)⟩ (by cases hv : v.ownBlock <;> simp)
theorem own_mono {w : World} {base base' : Nat} {e : TypeId} {sz : Nat} {v : Value} {n : Nat} {xs : List Value} (h : w.ownsRow base e sz v n xs) (hb : base' ≤ base) : w.ownsRow base' e sz v n xs := by
  refine ⟨h.1, ?_⟩
  rcases h.2 with h2 | ⟨g, cap, cur, hv, hbg, r⟩
  · exact .inl h2
  · exact .inr ⟨g, cap, cur, hv, Nat.le_trans hb hbg, r⟩
theorem below_of_grown0 {w w' : World} {B : Nat} (hg : w.grownBy w' none) (hB : B ≤ w.heap.size) : Below B w w' := (Below.refl B w).grown hg hB (by simp)
theorem below_of_own {w w' : World} {base B : Nat} {e : TypeId} {sz : Nat} {v : Value} {n : Nat} {xs : List Value} (h : w.ownsRow base e sz v n xs) (hg : w.grownBy w' v.ownBlock) (hB : B ≤ w.heap.size) (hb : B ≤ base) : Below B w w' :=
  (Below.refl B w).grown hg hB (fun k hk => Nat.le_trans hb (h.lt k hk).1)
/-- what is read elsewhere is read still behind a write to an owned row -/
theorem SlN.grown {w w' : World} {sz n : Nat} {v : Value} {xs : List Value} {row : Option Nat} (h : SlN w sz v n xs) (hg : w.grownBy w' row) (hne : xs ≠ [] → v.ownBlock ≠ row) : SlN w' sz v n xs :=
  h.keep fun k hk hx => by
    rcases h.cases with ⟨rfl, _, _⟩ | ⟨b, o, c, rfl, h1, h2, hr⟩
    · cases hk
    · injection hk with hk
      subst hk
      exact hg.block _ (hr.lt hx) (hne hx)
theorem Sl.grown {w w' : World} {v : Value} {xs : List Value} {row : Option Nat} (h : Sl w v xs) (hg : w.grownBy w' row) (hne : xs ≠ [] → v.ownBlock ≠ row) : Sl w' v xs := (h.toN.grown hg hne).to1

section
variable {P : Program} {T : Tab} (hT : TabOk P T)
include hT

theorem und_slice {t e : TypeId} {s b : Nat} {z : Value} (ht : look T t = some ⟨.slice e, s, b, z⟩) : P.underlying t = some (.slice e) := by
  obtain ⟨u, hu, hs⟩ := shOf_cases hT ht
  cases u <;> simp only [shOf, reduceCtorEq, Sh.slice.injEq] at hs
  subst hs
  exact hu

theorem Rv.append {w : World} {K : Value → World → Prop} {t e ty : TypeId} {s b sz by' : Nat} {z ez : Value} {sh : Sh} (ht : look T t = some ⟨.slice e, s, b, z⟩) (he : look T e = some ⟨sh, sz, by', ez⟩) (hz : llen (cellsL ez) = sz) (hsz : 0 < sz)
    {base n : Nat} {v : Value} {xs : List Value} (hown : w.ownsRow base e sz v n xs) {x : Value} {m : Nat} {news : List Value} (hs : SlN w sz x m news) (h1 : ∀ u ∈ news, u.oneCell' = true)
    (h63 : n + m ≤ maxLen) (hby : (n + m) * by' ≤ 140737488355328) (hbase : base ≤ w.heap.size)
    (hk : ∀ v' w', w'.ownsRow base e sz v' (n + m) (xs ++ news) → w.grownBy w' v.ownBlock → (v' = .slice none 0 0 ↔ v = .slice none 0 0 ∧ m = 0) → K v' w') :
    Rv P (Builtin.append_ #[t, t] ty #[v, x]) w K := by
  have hu := und_slice hT ht
  obtain ⟨i, hi, hiz, his, hib⟩ := (hT _ _ he).inf
  have hzs : ez.cells.size = sz := by rw [cellsL_eq, List.size_toArray, ← llen_eq]; exact hz
  rcases hs.cases with ⟨rfl, rfl, rfl⟩ | ⟨b', o, c, rfl, e1, e2, hr⟩
  · have := run_append_owned_none (P := P) w base t ty e i sz hu hi v n xs hown
    refine Rv.mk this (hk v w (by simpa using hown) ⟨rfl, rfl, rfl, Nat.le_refl _, fun _ _ _ => rfl⟩ (by simp))
  · obtain ⟨v', w', hrun, q1, q2, q3⟩ := run_append_own (P := P) w base t ty e i ez sz by' hu hi hiz his hib hzs hsz v n xs hown ⟨b', o, none⟩ m c news hs.len (fun j u hj => by rw [Addr.add_lit]; exact hr j u hj) h1 h63 hby hbase
    exact Rv.mk hrun (hk v' w' q1 q2 q3)

omit hT in
theorem splice_step (A : List Value) (n : Nat) (c : Value) (l : List Value) (h : n < A.length) :
    (A.set n c).take (n + 1) ++ l ++ (A.set n c).drop (n + 1 + l.length) = A.take n ++ (c :: l) ++ A.drop (n + (l.length + 1)) := by
  rw [List.drop_set, if_pos (by omega), show n + 1 + l.length = n + (l.length + 1) from by omega]
  have h1 : (A.set n c).take (n + 1) = A.take n ++ [c] := by
    rw [List.take_succ_eq_append_getElem (by simpa using h), List.take_set, List.set_eq_of_length_le (by simp; omega)]
    simp
  rw [h1]
  simp

omit hT in
theorem foldl_set (off : Nat) : ∀ (l : List Value) (k : Nat) (A : List Value), off + k + l.length ≤ A.length →
    List.foldl (fun (cs : Array Value) (x : Value × Nat) => cs.setIfInBounds (off + x.2) x.1) A.toArray (l.zipIdx k) = (A.take (off + k) ++ l ++ A.drop (off + k + l.length)).toArray
  | [], k, A, h => by simp
  | c :: l, k, A, h => by
    simp only [List.length_cons] at h
    simp only [List.zipIdx_cons, List.foldl_cons]
    have : A.toArray.setIfInBounds (off + k) c = (A.set (off + k) c).toArray := by simp
    rw [this, foldl_set off l (k + 1) (A.set (off + k) c) (by simp; omega)]
    have := splice_step A (off + k) c l (by omega)
    rw [show off + (k + 1) = off + k + 1 from by omega, this]
    simp

omit hT in
theorem fill_seq (sz : Nat) : ∀ (us : List Value) (n : Nat) (cells : List Value), (∀ u ∈ us, (cellsL u).length = sz) → (n + us.length) * sz ≤ cells.length →
    Instr.fill (fun i => some (i * sz, sz)) cells.toArray ((List.range' n us.length).zip us) = some ((cells.take (n * sz) ++ us.flatMap cellsL ++ cells.drop ((n + us.length) * sz)).toArray)
  | [], n, cells, _, _ => by simp [Instr.fill]
  | u :: us, n, cells, h1, hle => by
    have hu : (cellsL u).length = sz := h1 u (by simp)
    have hu1 : u.cells = (cellsL u).toArray := cellsL_eq u
    simp only [List.length_cons] at hle
    have hmul : (n + (us.length + 1)) * sz = n * sz + sz + us.length * sz := by rw [Nat.add_mul, Nat.add_mul, Nat.one_mul]; omega
    simp only [List.length_cons, List.range'_succ, List.zip_cons_cons, Instr.fill, hu1]
    rw [if_neg (by simp only [List.size_toArray, hu, Bool.or_eq_true, decide_eq_true_eq]; simp; omega)]
    have e1 : (Array.foldl (fun (cs : Array Value) (x : Value × Nat) => match x with | (c, j) => cs.setIfInBounds (n * sz + j) c) cells.toArray ((cellsL u).toArray.zipIdx)) = (cells.take (n * sz) ++ cellsL u ++ cells.drop (n * sz + sz)).toArray := by
      have := foldl_set (n * sz) (cellsL u) 0 cells (by omega)
      simp only [Nat.add_zero, hu] at this
      rw [← this, ← Array.foldl_toList]
      simp only [Array.toList_zipIdx]
    rw [e1, fill_seq sz us (n + 1) _ (fun x hx => h1 x (by simp [hx])) (by simp [hu, Nat.add_mul]; omega)]
    congr 2
    have hA : (cells.take (n * sz) ++ cellsL u).length = (n + 1) * sz := by simp [hu, Nat.add_mul]; omega
    rw [List.take_append_of_le_length (by omega), List.take_of_length_le (by omega)]
    rw [List.drop_append, List.drop_eq_nil_of_le (by rw [hA, Nat.add_mul (n + 1)]; omega)]
    simp only [List.flatMap_cons, List.nil_append, List.drop_drop, List.append_assoc]
    congr 4
    rw [List.length_append, hu] at *
    simp only [List.length_take] at *
    rw [Nat.min_eq_left (by omega)] at *
    rw [hmul]
    simp only [Nat.add_mul, Nat.one_mul]
    omega

/-- a literal '[]T{..}' -/
theorem Rv.build {w : World} {K : Value → World → Prop} {t e : TypeId} {s b sz by' : Nat} {z ez : Value} {sh : Sh} {len : Nat} {vs : List Value} {ps : Array (Nat × Value)} (ht : look T t = some ⟨.slice e, s, b, z⟩) (he : look T e = some ⟨sh, sz, by', ez⟩)
    (hps : ps = ((List.range' 0 len).zip vs).toArray) (hl : vs.length = len) (h1 : ∀ u ∈ vs, (cellsL u).length = sz) (hlen : len * sz ≤ 16777216) (hlen0 : len ≤ 16777216)
    (hk : ∀ w', w'.ownsRow w.heap.size e sz (.slice (some ⟨w.heap.size, 0, none⟩) len len) len (vs.flatMap cellsL) → w.grownBy w' none → w' = w.alloc (.cells (vs.flatMap cellsL).toArray e) → K (.slice (some ⟨w.heap.size, 0, none⟩) len len) w') :
    Rv P (Instr.buildSlice t len ps) w K := by
  have hu := und_slice hT ht
  have hsz := (hT _ _ he).run_size w
  have hzz := (hT _ _ he).run_zero w
  subst hl; subst hps
  have hflat : (vs.flatMap cellsL).length = vs.length * sz := by
    clear hlen hlen0 hk
    induction vs with
    | nil => simp
    | cons v vs ih =>
      simp only [List.flatMap_cons, List.length_append, List.length_cons, Nat.add_mul, Nat.one_mul]
      rw [ih (fun u hu => h1 u (by simp [hu])), h1 v (by simp)]
      omega
  have hrun : (Instr.buildSlice t vs.length ((List.range' 0 vs.length).zip vs).toArray).run P w = .ok (.slice (some ⟨w.heap.size, 0, none⟩) vs.length vs.length) (w.alloc (.cells (vs.flatMap cellsL).toArray e)) := by
    have hf : ∀ zc : Array Value, Instr.fill (fun i => some (i * sz, sz)) (Array.map (fun x => zc[x % zc.size]!) (Array.range (vs.length * sz))) ((List.range' 0 vs.length).zip vs) = some (vs.flatMap cellsL).toArray := by
      intro zc
      have hl2 : (Array.map (fun x => zc[x % zc.size]!) (Array.range (vs.length * sz))).toList.length = vs.length * sz := by simp
      have := fill_seq sz vs 0 (Array.map (fun x => zc[x % zc.size]!) (Array.range (vs.length * sz))).toList h1 (by simp)
      simp only [Array.toArray_toList, Nat.zero_mul, List.take_zero, List.nil_append, Nat.zero_add] at this
      rw [this, List.drop_of_length_le (by omega)]
      simp
    have hcap : ¬ vs.length * sz > 2 ^ 24 := by omega
    obtain ⟨Z, hZ⟩ : ∃ Z, ((if vs.length * sz = 0 then pure #[] else do pure (← zeroValue e).cells : Sem (Array Value))).run P w = .ok Z w := by
      by_cases h0 : vs.length * sz = 0
      · exact ⟨#[], by simp only [h0, if_true]; rfl⟩
      · exact ⟨ez.cells, by simp only [h0, if_false, Sem.run_bind, hzz, Result.andThen_ok, Sem.run_pure]⟩
    unfold Instr.buildSlice
    simp only [Sem.run_bind, run_underlying hu, Result.andThen_ok, hsz, if_neg hcap, Sem.run_pure, hZ, hf]
    simp [newRow, hzz]
  refine Rv.mk hrun (hk _ ⟨hflat, .inr ⟨w.heap.size, _, _, rfl, Nat.le_refl _, heap_alloc_new w _, Nat.le_refl _, ?_, by simp [hflat], ?_⟩⟩ (World.grownBy_alloc _ _ _) rfl)
  · simp only [maxLen]; omega
  · rw [List.take_of_length_le (by simp [hflat])]

/-- make, the elements of one cell -/
theorem Rv.make {w : World} {K : Value → World → Prop} {t e : TypeId} {s b by' : Nat} {z ez : Value} {sh : Sh} {kl kc : IntKind} {li ci : Int} (n c : Nat) (ht : look T t = some ⟨.slice e, s, b, z⟩) (he : look T e = some ⟨sh, 1, by', ez⟩)
    (hz : cellsL ez = [ez]) (hl : li = n) (hc : ci = c) (hnc : n ≤ c) (hb : by' * c ≤ 281474976710656) (h63 : c ≤ maxLen)
    (hk : ∀ w', w'.ownsRow w.heap.size e 1 (.slice (some ⟨w.heap.size, 0, none⟩) n c) n (List.replicate n ez) → w.grownBy w' none → K (.slice (some ⟨w.heap.size, 0, none⟩) n c) w') :
    Rv P (Instr.makeSlice t (.int kl li) (.int kc ci)) w K := by
  subst hl; subst hc
  have hu := und_slice hT ht
  obtain ⟨i, hi, hiz, his, hib⟩ := (hT _ _ he).inf
  have h63' := h63
  simp only [maxLen] at h63'
  have hb' : (i.bytes : Int) * (c : Int) ≤ 281474976710656 := by
    rw [hib]
    have h : ((by' * c : Nat) : Int) ≤ 281474976710656 := by omega
    rwa [Int.natCast_mul] at h
  have hr := run_make (P := P) w t e i ez hu hi hiz kl kc n c (by omega) (by omega) hb' (by omega)
  simp only [Int.toNat_natCast, his, Nat.mul_one] at hr
  have hez : ez.cells = #[ez] := by rw [cellsL_eq, hz]
  rw [hez] at hr
  refine Rv.mk hr (hk _ ⟨by simp, .inr ⟨w.heap.size, c, _, rfl, Nat.le_refl _, heap_alloc_new w _, hnc, h63, by simp [size_madeCells], ?_⟩⟩ (World.grownBy_alloc w _ none))
  rw [toList_madeCells_one, List.take_replicate, Nat.mul_one, Nat.min_eq_left hnc]
end
end Go.Proofs.Ytlldgodjfpgbcaa
