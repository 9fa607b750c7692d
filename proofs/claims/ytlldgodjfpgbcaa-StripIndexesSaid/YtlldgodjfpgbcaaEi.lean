/- strip.Find and its reference. Nothing is claimed here. -/
import Derived.Test.YtlldgodjfpgbcaaEb
namespace Go.Proofs.Ytlldgodjfpgbcaa
open Go.RowKit
set_option linter.unusedVariables false
set_option linter.unusedSimpArgs false
set_option maxRecDepth 100000

theorem isNaN_fn (x : Int) (w : World) : Fn Try.prog 72 #[.int .u64 x] w fun r w' => r = .bool false ∧ w' = w := by
  refine Fn.mk Try.func72 rfl (by kernel_rfl) Try.ntmps72 rfl (by rw [Try.results72]) ?_
  refine RunR ?_
  exact ⟨by simp, rfl⟩
def cmpI (x y : Int) : Int := if x < y then -1 else if y < x then 1 else 0
theorem compare_fn (x y : Int) (w : World) : Fn Try.prog 58 #[.int .u64 x, .int .u64 y] w fun r w' => r = .int .i64 (cmpI x y) ∧ w' = w := by
  have hL := Sep.start Try.prog w
  have hB := Nat.le_refl w.heap.size
  refine Fn.mk Try.func58 rfl (by kernel_rfl) Try.ntmps58 rfl (by rw [Try.results58]) ?_
  by_cases h1 : x < y
  · repeat (first | (refine RunH ?_; intro w hL hB; try clear w) | (refine Both.mk ?_ ?_ <;> conv => whnf) | (refine (isNaN_fn _ _).mono fun r w1 hr => ?_; obtain ⟨hr, hw⟩ := hr; subst hr; subst hw; conv => whnf) | fail)
    exact ⟨by simp [cmpI, h1], rfl⟩
  · by_cases h2 : y < x
    · repeat (first | (refine RunH ?_; intro w hL hB; try clear w) | (refine Both.mk ?_ ?_ <;> conv => whnf) | (refine (isNaN_fn _ _).mono fun r w1 hr => ?_; obtain ⟨hr, hw⟩ := hr; subst hr; subst hw; conv => whnf) | fail)
      exact ⟨by simp [cmpI, h1, h2], rfl⟩
    · repeat (first | (refine RunH ?_; intro w hL hB; try clear w) | (refine Both.mk ?_ ?_ <;> conv => whnf) | (refine (isNaN_fn _ _).mono fun r w1 hr => ?_; obtain ⟨hr, hw⟩ := hr; subst hr; subst hw; conv => whnf) | fail)
      exact ⟨by simp [cmpI, h1, h2], rfl⟩
theorem find1_fn (p : Plc) (key : Nat) (w0 : World) : Fn Try.prog 57 #[.agg (plC p).toArray, .int .u64 (key : Int)] w0 fun r w' => r = .int .i64 (cmpI p.key key) ∧ Below w0.heap.size w0 w' := by
  have hL := Sep.start Try.prog w0
  have hB := Nat.le_refl w0.heap.size
  unfold plC
  refine Fn.mk Try.func57 rfl (by kernel_rfl) Try.ntmps57 rfl (by rw [Try.results57]) ?_
  repeat (first | (refine RunH ?_; intro w hL hB; try clear w) | (refine Both.mk ?_ ?_ <;> conv => whnf) | (refine Nw.sep hL hB (fun b2 w hL hB hb2 => ?_); conv => whnf) | (refine (compare_fn _ _ _).mono fun r w1 hr => ?_; obtain ⟨hr, hw⟩ := hr; subst hr; subst hw; conv => whnf) | fail)
  exact ⟨rfl, hL.below⟩
def rising (l : List Plc) : Prop := ∀ (i j : Nat) (p q : Plc), i < j → l[i]? = some p → l[j]? = some q → p.key < q.key
/-- where a key would stand -/
structure Cut (l : List Plc) (key i : Nat) : Prop where
  le : i ≤ l.length
  low : ∀ (j : Nat) (p : Plc), j < i → l[j]? = some p → p.key < key
  high : ∀ (j : Nat) (p : Plc), i ≤ j → l[j]? = some p → key ≤ p.key
def findS (l : List Plc) (key : Nat) : Option Plc := l.find? fun p => p.key == key
theorem Cut.hit {l : List Plc} {key i : Nat} (h : Cut l key i) (hr : rising l) {p : Plc} (hp : l[i]? = some p) (hk : p.key = key) : findS l key = some p := by
  have hlt := (List.getElem?_eq_some_iff.1 hp).1
  have hs : l = l.take i ++ p :: l.drop (i + 1) := by rw [← (List.getElem?_eq_some_iff.1 hp).2, ← List.drop_eq_getElem_cons hlt, List.take_append_drop]
  unfold findS
  rw [hs, List.find?_append, List.find?_eq_none.2]
  · simp [hk]
  · intro q hq
    obtain ⟨j, hj⟩ := List.getElem?_of_mem hq
    rw [List.getElem?_take] at hj
    split at hj
    · have := h.low j q (by assumption) hj
      simp; omega
    · cases hj
theorem Cut.miss {l : List Plc} {key i : Nat} (h : Cut l key i) (hr : rising l) (hp : ∀ p, l[i]? = some p → p.key ≠ key) : findS l key = none := by
  unfold findS
  rw [List.find?_eq_none]
  intro q hq
  obtain ⟨j, hj⟩ := List.getElem?_of_mem hq
  simp only [beq_iff_eq]
  intro he
  by_cases hji : j < i
  · have := h.low j q hji hj; omega
  · by_cases hje : j = i
    · subst hje; exact hp q hj he
    · have hil : i < l.length := by have := (List.getElem?_eq_some_iff.1 hj).1; omega
      have g := List.getElem?_eq_getElem hil
      have h1 := hr i j _ q (by omega) g hj
      have h2 := h.high i _ (Nat.le_refl _) g
      omega

set_option maxHeartbeats 8000000 in
theorem bsearch_fn (v : Value) (l : List Plc) (key : Nat) (hl : l.length ≤ 1000000) (hk : key < 18446744073709551616) (hrise : rising l) (w0 : World) (hs : SlN w0 5 v l.length (l.flatMap plC)) :
    Fn Try.prog 56 #[v, .int .u64 (key : Int), .func (.func 57) #[] #[]] w0 fun r w' => (∃ i b, Cut l key i ∧ r = .tuple #[.int .i64 (i : Int), .bool b] ∧ (b = true ↔ ∃ p, l[i]? = some p ∧ p.key = key)) ∧ Below w0.heap.size w0 w' := by
  obtain ⟨a, c, rfl⟩ := hs.shape
  have hL := Sep.start Try.prog w0
  have hB := Nat.le_refl w0.heap.size
  refine Fn.mk Try.func56 rfl (by kernel_rfl) Try.ntmps56 rfl (by rw [Try.results56]) ?_
  repeat (first | (refine RunH ?_; intro w hL hB; try clear w) | (refine Both.mk ?_ ?_ <;> conv => whnf) | fail)
  refine V.loop (α := Nat × Nat) (fun z => [(0, .slice a l.length c), (1, .int .u64 (key : Int)), (2, .func (.func 57) #[] #[]), (8, .int .i64 (l.length : Int)), (9, .int .i64 (z.1 : Int)), (10, .int .i64 (z.2 : Int))])
    (fun z w' => z.1 ≤ z.2 ∧ z.2 ≤ l.length ∧ (∀ j p, j < z.1 → l[j]? = some p → p.key < key) ∧ (∀ j p, z.2 ≤ j → l[j]? = some p → key ≤ p.key) ∧ w0.heap.size ≤ w'.heap.size ∧ Sep Try.prog w0.heap.size w0 w' [])
    (fun z => z.2 - z.1) (0, l.length) ⟨rfl, rfl, rfl, rfl, rfl, rfl, trivial⟩ ⟨by simp, by simp, fun j p h => absurd h (by simp), fun j p h hj => by have := (List.getElem?_eq_some_iff.1 hj).1; dsimp only at h; omega, hB, hL⟩ ?_
  clear hL hB
  rintro ⟨i, j⟩ w ⟨hij, hjl, hlow, hhigh, hB, hL⟩
  dsimp only at *
  repeat (first | (refine RunH ?_; intro w hL hB; try clear w) | (refine Both.mk ?_ ?_ <;> conv => whnf) | fail)
  refine Br.dec (fun hlt => ?_) (fun hlt => ?_)
  · have hlt' : i < j := by omega
    obtain ⟨b1, o1, rfl, _⟩ := hs.addr (by omega)
    have hrow : ∀ {w'}, Below w0.heap.size w0 w' → Row w' b1 o1 (l.flatMap plC) := fun h => (hs.below h).rowOf
    repeat (first | (refine RunH ?_; intro w hL hB; try clear w) | (refine Both.mk ?_ ?_ <;> conv => whnf) | fail)
    refine Shr.u64 (i + j) 1 2 (by push_cast; rfl) rfl (by decide) (by decide) ?_
    conv => whnf
    repeat (first | (refine RunH ?_; intro w hL hB; try clear w) | (refine Both.mk ?_ ?_ <;> conv => whnf) | fail)
    generalize hm : (i + j) / 2 = m at *
    have g := List.getElem?_eq_getElem (show m < l.length by omega)
    generalize hp : l[m]'(by omega) = p at *
    intro o2 ho2
    conv => whnf
    refine Ld.rowN ttOk plC_len (ss := l) (k := m) (s := p) (hrow hL.below) rfl rfl rfl g (by omega) ?_
    conv => whnf
    repeat (first | (refine RunH ?_; intro w hL hB; try clear w) | (refine Both.mk ?_ ?_ <;> conv => whnf) | fail)
    refine (find1_fn p key _).mono fun r w ⟨hr, hw⟩ => ?_
    subst hr
    replace hL := hL.call hB (Turns.of_below hw)
    replace hB := Nat.le_trans hB hw.size
    conv => whnf
    by_cases hc : p.key < key
    · rw [show cmpI p.key key = -1 from if_pos (by omega)]
      repeat (first | (refine RunH ?_; intro w hL hB; try clear w) | (refine Both.mk ?_ ?_ <;> conv => whnf) | fail)
      refine ⟨(m + 1, j), ⟨rfl, rfl, rfl, rfl, vint (by push_cast; omega), rfl, trivial⟩, ⟨by dsimp only; omega, hjl, fun x q hx hq => ?_, hhigh, hB, hL⟩, (by first | omega | (dsimp only; omega))⟩
      by_cases hxm : x = m
      · subst hxm; rw [g] at hq; injection hq with hq; subst hq; exact hc
      · have := hrise x m q p (by dsimp only at hx; omega) hq g; omega
    · have hcm : ¬ cmpI p.key key < 0 := by
        unfold cmpI
        rw [if_neg (by omega)]
        split <;> omega
      repeat (first | (refine RunH ?_; intro w hL hB; try clear w) | (refine Both.mk ?_ ?_ <;> conv => whnf) | fail)
      refine ⟨(i, m), ⟨rfl, rfl, rfl, rfl, rfl, rfl, trivial⟩, ⟨by dsimp only; omega, by dsimp only; omega, hlow, fun x q hx hq => ?_, hB, hL⟩, (by first | omega | (dsimp only; omega))⟩
      by_cases hxm : x = m
      · subst hxm; rw [g] at hq; injection hq with hq; subst hq; omega
      · have := hrise m x p q (by dsimp only at hx; omega) g hq; omega
  · obtain rfl : i = j := by omega
    have hcut : Cut l key i := ⟨hjl, hlow, hhigh⟩
    by_cases hil : i < l.length
    · obtain ⟨b1, o1, rfl, _⟩ := hs.addr (by omega)
      have hrow : ∀ {w'}, Below w0.heap.size w0 w' → Row w' b1 o1 (l.flatMap plC) := fun h => (hs.below h).rowOf
      have g := List.getElem?_eq_getElem hil
      generalize hp : l[i] = p at *
      repeat (first | (refine RunH ?_; intro w hL hB; try clear w) | (refine Both.mk ?_ ?_ <;> conv => whnf) | fail)
      intro o2 ho2
      conv => whnf
      repeat (first | (refine RunH ?_; intro w hL hB; try clear w) | (refine Both.mk ?_ ?_ <;> conv => whnf) | fail)
      refine Ld.rowN ttOk plC_len (ss := l) (k := i) (s := p) (hrow hL.below) rfl rfl rfl g (by omega) ?_
      conv => whnf
      repeat (first | (refine RunH ?_; intro w hL hB; try clear w) | (refine Both.mk ?_ ?_ <;> conv => whnf) | fail)
      refine (find1_fn p key _).mono fun r w ⟨hr, hw⟩ => ?_
      subst hr
      replace hL := hL.call hB (Turns.of_below hw)
      replace hB := Nat.le_trans hB hw.size
      conv => whnf
      repeat (first | (refine RunH ?_; intro w hL hB; try clear w) | (refine Both.mk ?_ ?_ <;> conv => whnf) | fail)
      refine ⟨⟨i, _, hcut, rfl, ?_⟩, hL.below⟩
      rw [decide_eq_true_eq]
      have := hhigh i p (Nat.le_refl _) g
      constructor
      · intro h
        refine ⟨p, g, ?_⟩
        unfold cmpI at h
        split at h
        · omega
        · split at h
          · omega
          · omega
      · rintro ⟨q, hq, hqk⟩
        rw [g] at hq; injection hq with hq; subst hq
        simp [cmpI, hqk]
    · repeat (first | (refine RunH ?_; intro w hL hB; try clear w) | (refine Both.mk ?_ ?_ <;> conv => whnf) | fail)
      refine ⟨⟨i, _, hcut, rfl, ?_⟩, hL.below⟩
      simp only [Bool.false_eq_true, false_iff]
      rintro ⟨q, hq, _⟩
      exact hil (List.getElem?_eq_some_iff.1 hq).1

def findV (o : Option Plc) : Value := match o with
  | some p => .tuple #[.agg (plC p).toArray, .bool true]
  | none => .tuple #[.agg (plC ⟨0, 0, 0, 0, false⟩).toArray, .bool false]
set_option maxHeartbeats 8000000 in
theorem find_fn (v : Value) (l : List Plc) (key : Nat) (hl : l.length ≤ 1000000) (hk : key < 18446744073709551616) (hrise : rising l) (w0 : World) (hs : SlN w0 5 v l.length (l.flatMap plC)) :
    Fn Try.prog 27 #[v, .int .u64 (key : Int)] w0 fun r w' => r = findV (findS l key) ∧ Below w0.heap.size w0 w' := by
  obtain ⟨a, c, rfl⟩ := hs.shape
  have hL := Sep.start Try.prog w0
  have hB := Nat.le_refl w0.heap.size
  refine Fn.mk Try.func27 rfl (by kernel_rfl) Try.ntmps27 rfl (by rw [Try.results27]) ?_
  repeat (first | (refine RunH ?_; intro w hL hB; try clear w) | (refine Both.mk ?_ ?_ <;> conv => whnf) | (refine Nw.sep hL hB (fun b4 w hL hB hb4 => ?_); conv => whnf) | fail)
  refine (bsearch_fn _ l key hl hk hrise _ (hs.below hL.below)).mono fun r w ⟨⟨i, b, hcut, hr, hb⟩, hw⟩ => ?_
  subst hr
  replace hL := hL.call hB (Turns.of_below hw)
  replace hB := Nat.le_trans hB hw.size
  cases b with
  | true =>
    obtain ⟨p, g, hpk⟩ := hb.1 rfl
    have hil := (List.getElem?_eq_some_iff.1 g).1
    rw [hcut.hit hrise g hpk]
    obtain ⟨b1, o1, rfl, _⟩ := hs.addr (by omega)
    conv => whnf
    repeat (first | (refine RunH ?_; intro w hL hB; try clear w) | (refine Both.mk ?_ ?_ <;> conv => whnf) | fail)
    intro o2 ho2
    conv => whnf
    refine Ld.rowN ttOk plC_len (ss := l) (k := i) (s := p) (hs.below hL.below).rowOf rfl rfl rfl g (by omega) ?_
    unfold plC
    conv => whnf
    repeat (first | (refine RunH ?_; intro w hL hB; try clear w) | (refine Both.mk ?_ ?_ <;> conv => whnf) | fail)
    exact ⟨rfl, hL.below⟩
  | false =>
    rw [hcut.miss hrise fun p g hpk => by have := hb.2 ⟨p, g, hpk⟩; cases this]
    conv => whnf
    repeat (first | (refine RunH ?_; intro w hL hB; try clear w) | (refine Both.mk ?_ ?_ <;> conv => whnf) | fail)
    exact ⟨rfl, hL.below⟩

set_option maxHeartbeats 8000000 in
theorem findR_fn (v : Value) (l : List Plc) (key : Nat) (hl : l.length ≤ 1000000) (w0 : World) (hs : SlN w0 5 v l.length (l.flatMap plC)) :
    Fn Try.prog 28 #[v, .int .u64 (key : Int)] w0 fun r w' => r = findV (findS l key) ∧ Below w0.heap.size w0 w' := by
  obtain ⟨a, c, rfl⟩ := hs.shape
  have hL := Sep.start Try.prog w0
  have hB := Nat.le_refl w0.heap.size
  refine Fn.mk Try.func28 rfl (by kernel_rfl) Try.ntmps28 rfl (by rw [Try.results28]) ?_
  repeat (first | (refine RunH ?_; intro w hL hB; try clear w) | (refine Both.mk ?_ ?_ <;> conv => whnf) | (refine Nw.sep hL hB (fun b4 w hL hB hb4 => ?_); conv => whnf) | fail)
  refine V.loop (α := Nat) (fun z => [(0, .slice a l.length c), (1, .int .u64 (key : Int)), (4, .pointer (some ⟨b4, 0, none⟩)), (6, .int .i64 (z : Int))])
    (fun z w' => z ≤ l.length ∧ findS l key = (l.drop z).find? (fun p => p.key == key) ∧ w0.heap.size ≤ w'.heap.size ∧ Sep Try.prog w0.heap.size w0 w' [.blk b4 [.int .u64 0, .int .i64 0, .int .i64 0, .int .u32 0, .bool false] 56])
    (fun z => l.length - z) 0 ⟨rfl, rfl, rfl, rfl, trivial⟩ ⟨by simp, rfl, hB, hL⟩ ?_
  clear hL hB
  rintro i w ⟨hi, hf, hB, hL⟩
  repeat (first | (refine RunH ?_; intro w hL hB; try clear w) | (refine Both.mk ?_ ?_ <;> conv => whnf) | fail)
  refine Br.dec (fun hlt => ?_) (fun hlt => ?_)
  · have hil : i < l.length := by omega
    obtain ⟨b1, o1, rfl, _⟩ := hs.addr (by omega)
    have g := List.getElem?_eq_getElem hil
    rw [List.drop_eq_getElem_cons hil] at hf
    generalize hp : l[i] = p at *
    repeat (first | (refine RunH ?_; intro w hL hB; try clear w) | (refine Both.mk ?_ ?_ <;> conv => whnf) | fail)
    intro o2 ho2
    conv => whnf
    repeat (first | (refine RunH ?_; intro w hL hB; try clear w) | (refine Both.mk ?_ ?_ <;> conv => whnf) | fail)
    refine Ld.rowF ttOk plC_len (ss := l) (k := i) (s := p) 0 (hs.below hL.below).rowOf rfl rfl g rfl (by omega) ?_
    conv => whnf
    by_cases hk : p.key = key
    · have hfs : findS l key = some p := by rw [hf]; simp [hk]
      rw [hfs]
      repeat (first | (refine RunH ?_; intro w hL hB; try clear w) | (refine Both.mk ?_ ?_ <;> conv => whnf) | fail)
      intro o3 ho3
      conv => whnf
      refine Ld.rowN ttOk plC_len (ss := l) (k := i) (s := p) (hs.below hL.below).rowOf rfl rfl rfl g (by omega) ?_
      unfold plC
      conv => whnf
      repeat (first | (refine RunH ?_; intro w hL hB; try clear w) | (refine Both.mk ?_ ?_ <;> conv => whnf) | fail)
      exact ⟨rfl, hL.below⟩
    · have hfs : findS l key = (l.drop (i + 1)).find? (fun p => p.key == key) := by rw [hf]; simp [hk]
      repeat (first | (refine RunH ?_; intro w hL hB; try clear w) | (refine Both.mk ?_ ?_ <;> conv => whnf) | fail)
      exact ⟨i + 1, ⟨rfl, rfl, rfl, vint (by push_cast; omega), trivial⟩, ⟨hil, hfs, hB, hL⟩, (by first | omega | (dsimp only; omega))⟩
  · obtain rfl : i = l.length := by omega
    have hfs : findS l key = none := by rw [hf]; simp
    rw [hfs]
    repeat (first | (refine RunH ?_; intro w hL hB; try clear w) | (refine Both.mk ?_ ?_ <;> conv => whnf) | fail)
    exact ⟨rfl, hL.below⟩
end Go.Proofs.Ytlldgodjfpgbcaa
