/- strip.Index and its reference. Nothing is claimed here. -/
import Derived.Test.YtlldgodjfpgbcaaEg
namespace Go.Proofs.Ytlldgodjfpgbcaa
open Go.RowKit
set_option linter.unusedVariables false
set_option linter.unusedSimpArgs false
set_option maxRecDepth 100000

def plB (p : Plc) : List UInt8 := encU p.key ++ encU p.at_.toNat ++ encU p.n.toNat ++ putB p.cook 4 ++ [if p.dead then 1 else 0]
def idxB0 (l : List Plc) (k : Nat) : List UInt8 := encU l.length ++ (l.take k).flatMap plB
def idxB (l : List Plc) : List UInt8 := idxB0 l l.length
theorem plB_len (p : Plc) : (plB p).length ≤ 35 := by
  have h1 := encU_len p.key
  have h2 := encU_len p.at_.toNat
  have h3 := encU_len p.n.toNat
  simp [plB, putB_len]; omega
theorem flat_le (l : List Plc) : (l.flatMap plB).length ≤ 35 * l.length := by
  induction l with
  | nil => simp
  | cons p l ih => have := plB_len p; simp only [List.flatMap_cons, List.length_append, List.length_cons]; omega
theorem idxB0_len (l : List Plc) (k : Nat) : (idxB0 l k).length ≤ 10 + 35 * k := by
  have h1 := encU_len l.length
  have h2 := flat_le (l.take k)
  have h3 : (l.take k).length ≤ k := List.length_take_le ..
  simp only [idxB0, List.length_append]
  omega
theorem idxB0_succ {l : List Plc} {k : Nat} {p : Plc} (h : l[k]? = some p) : idxB0 l (k + 1) = idxB0 l k ++ plB p := by
  have hk := (List.getElem?_eq_some_iff.1 h).1
  have he := (List.getElem?_eq_some_iff.1 h).2
  rw [idxB0, List.take_succ_eq_append_getElem hk, he]
  simp [idxB0]
structure OkAt (l : List Plc) (i : Nat) (p : Plc) : Prop where
  at_ : 0 ≤ p.at_ ∧ p.at_ ≤ 4194304
  n : 0 ≤ p.n ∧ p.n ≤ 4194304
  up : ∀ q, 0 < i → l[i - 1]? = some q → q.key < p.key
/-- all places may be written -/
def OkI (l : List Plc) : Prop := ∀ i p, l[i]? = some p → OkAt l i p
theorem within_fn (n : Int) (w : World) : Fn Try.prog 51 #[.int .i64 n] w fun r w' => r = .bool (decide (0 ≤ n ∧ n ≤ 4194304)) ∧ w' = w := by
  refine Fn.mk Try.func51 rfl (by kernel_rfl) Try.ntmps51 rfl (by rw [Try.results51]) ?_
  by_cases h1 : 0 ≤ n
  · by_cases h2 : n ≤ 4194304
    · refine RunR ?_
      exact ⟨by simp [h1, h2], rfl⟩
    · refine RunR ?_
      exact ⟨by simp [h1, h2], rfl⟩
  · refine RunR ?_
    exact ⟨by simp [h1], rfl⟩
def idxOut (l : List Plc) (r : Value) (w w' : World) : Prop := (OkI l → ∃ u, r = .tuple #[u, .int .i64 0] ∧ w'.ownsRow w.heap.size 5 1 u (encF (idxB l)).length (bv (encF (idxB l)))) ∧ (¬ OkI l → r = .tuple #[.slice none 0 0, .int .i64 1])

set_option maxHeartbeats 8000000 in
theorem index_fn (v : Value) (l : List Plc) (hl : l.length ≤ 400) (hok : ∀ p ∈ l, p.key < 18446744073709551616 ∧ p.cook < 4294967296) (w0 : World) (hs : SlN w0 5 v l.length (l.flatMap plC)) : Fn Try.prog 25 #[v] w0 fun r w' => idxOut l r w0 w' ∧ Below w0.heap.size w0 w' := by
  obtain ⟨a, c, rfl⟩ := hs.shape
  have hL := Sep.start Try.prog w0
  have hB := Nat.le_refl w0.heap.size
  refine Fn.mk Try.func25 rfl (by kernel_rfl) Try.ntmps25 rfl (by rw [Try.results25]) ?_
  repeat (first | (refine RunH ?_; intro w hL hB; try clear w) | (refine Both.mk ?_ ?_ <;> conv => whnf) | fail)
  refine V.loop (α := Nat) (fun k => [(0, .slice a l.length c), (12, .slice a l.length c), (13, .int .i64 (l.length : Int)), (14, .int .i64 (k : Int))])
    (fun k w' => k ≤ l.length ∧ (∀ i p, i < k → l[i]? = some p → OkAt l i p) ∧ w0.heap.size ≤ w'.heap.size ∧ Sep Try.prog w0.heap.size w0 w' [])
    (fun k => l.length - k) 0 ⟨rfl, rfl, rfl, rfl, trivial⟩ ⟨by omega, fun i p h => by omega, hB, hL⟩ ?_
  clear hL hB
  rintro k w ⟨hk, hall, hB, hL⟩
  dsimp only at *
  repeat (first | (refine RunH ?_; intro w hL hB; try clear w) | (refine Both.mk ?_ ?_ <;> conv => whnf) | fail)
  refine Br.dec (fun hlt => ?_) (fun hlt => ?_)
  · have hkl : k < l.length := by omega
    obtain ⟨b1, o1, rfl, _⟩ := hs.addr (by omega)
    have g := List.getElem?_eq_getElem hkl
    generalize hp : l[k] = p at *
    have hrow : ∀ {w'}, Below w0.heap.size w0 w' → Row w' b1 o1 (l.flatMap plC) := fun h => (hs.below h).rowOf
    have bad : ¬ OkAt l k p → ¬ OkI l := fun h h' => h (h' k p g)
    repeat (first | (refine RunH ?_; intro w hL hB; try clear w) | (refine Both.mk ?_ ?_ <;> conv => whnf) | fail)
    intro o2 ho2
    conv => whnf
    refine Ld.rowN ttOk plC_len (ss := l) (k := k) (s := p) (hrow hL.below) rfl rfl rfl g (by omega) ?_
    unfold plC
    conv => whnf
    repeat (first | (refine RunK ?_; intro w hL hB; try clear w) | (refine V.treeA ttOk hL (.q 0 (.q 1 (.q 2 (.q 3 (.q 4 (.q 5 (.q 6 (.q 7 (.q 8 (.q 9 (.q 10 (.q 11 (.q 12 (.q 13 (.q 14 (.q 15 (.alt 16 (.q 17 (.q 18 (.q 19 (.q 20 (.q 21 (.alt 22 (.q 23 (.q 24 .nil)) .stop)))))) .stop))))))))))))))))) mixed (by decide +kernel) ?_; replace hL := hL.drew; conv => whnf) | (refine V.tailA ttOk mixed (by decide +kernel) ?_; replace hL := hL.drew; conv => whnf) | (refine Both.mk ?_ ?_ <;> conv => whnf) | (refine Nw.sep hL hB (fun b5 w hL hB hb5 => ?_); conv => whnf) | fail)
    by_cases hat : 0 ≤ p.at_ ∧ p.at_ ≤ 4194304
    case neg =>
      have hb := bad fun h => hat h.at_
      by_cases hk0 : k = 0
      · subst hk0
        repeat (first | (refine RunH ?_; intro w hL hB; try clear w) | (refine Both.mk ?_ ?_ <;> conv => whnf) | (intro o9 ho9; conv => whnf) | (refine (within_fn _ _).mono fun r w1 hr => ?_; obtain ⟨hr, hw⟩ := hr; subst hr; subst hw; conv => whnf) | fail)
        exact ⟨⟨fun h => absurd h hb, fun _ => rfl⟩, hL.below⟩
      · obtain ⟨q, gq⟩ : ∃ q, l[k - 1]? = some q := ⟨_, List.getElem?_eq_getElem (by omega)⟩
        by_cases hup : q.key < p.key <;> (
          repeat (first | (refine RunH ?_; intro w hL hB; try clear w) | (refine Both.mk ?_ ?_ <;> conv => whnf) | (intro o9 ho9; conv => whnf) | (refine (within_fn _ _).mono fun r w1 hr => ?_; obtain ⟨hr, hw⟩ := hr; subst hr; subst hw; conv => whnf) | (refine Lq.of_class (fun w' hw' => Ld.rowF ttOk plC_len (ss := l) (k := k - 1) (s := q) 0 (hrow hw'.below) rfl rfl gq rfl (by omega) rfl) ?_; conv => whnf) | fail)
          exact ⟨⟨fun h => absurd h hb, fun _ => rfl⟩, hL.below⟩)
    by_cases hn : 0 ≤ p.n ∧ p.n ≤ 4194304
    case neg =>
      have hb := bad fun h => hn h.n
      by_cases hk0 : k = 0
      · subst hk0
        repeat (first | (refine RunH ?_; intro w hL hB; try clear w) | (refine Both.mk ?_ ?_ <;> conv => whnf) | (intro o9 ho9; conv => whnf) | (refine (within_fn _ _).mono fun r w1 hr => ?_; obtain ⟨hr, hw⟩ := hr; subst hr; subst hw; conv => whnf) | fail)
        exact ⟨⟨fun h => absurd h hb, fun _ => rfl⟩, hL.below⟩
      · obtain ⟨q, gq⟩ : ∃ q, l[k - 1]? = some q := ⟨_, List.getElem?_eq_getElem (by omega)⟩
        by_cases hup : q.key < p.key <;> (
          repeat (first | (refine RunH ?_; intro w hL hB; try clear w) | (refine Both.mk ?_ ?_ <;> conv => whnf) | (intro o9 ho9; conv => whnf) | (refine (within_fn _ _).mono fun r w1 hr => ?_; obtain ⟨hr, hw⟩ := hr; subst hr; subst hw; conv => whnf) | (refine Lq.of_class (fun w' hw' => Ld.rowF ttOk plC_len (ss := l) (k := k - 1) (s := q) 0 (hrow hw'.below) rfl rfl gq rfl (by omega) rfl) ?_; conv => whnf) | fail)
          exact ⟨⟨fun h => absurd h hb, fun _ => rfl⟩, hL.below⟩)
    by_cases hk0 : k = 0
    · subst hk0
      repeat (first | (refine RunH ?_; intro w hL hB; try clear w) | (refine Both.mk ?_ ?_ <;> conv => whnf) | (intro o9 ho9; conv => whnf) | (refine (within_fn _ _).mono fun r w1 hr => ?_; obtain ⟨hr, hw⟩ := hr; subst hr; subst hw; conv => whnf) | (refine Lq.of_class (fun w' hw' => Ld.rowF ttOk plC_len (ss := l) (k := k - 1) (s := q) 0 (hrow hw'.below) rfl rfl gq rfl (by omega) rfl) ?_; conv => whnf) | fail)
      refine ⟨1, ⟨rfl, rfl, rfl, rfl, trivial⟩, ⟨by omega, fun i p' h hi => ?_, hB, hL.tl⟩, (by first | omega | (dsimp only; omega))⟩
      obtain rfl : i = 0 := by omega
      rw [g] at hi; injection hi with hi; subst hi
      exact ⟨hat, hn, fun q h => absurd h (by omega)⟩
    · obtain ⟨q, gq⟩ : ∃ q, l[k - 1]? = some q := ⟨_, List.getElem?_eq_getElem (by omega)⟩
      by_cases hup : q.key < p.key
      · repeat (first | (refine RunH ?_; intro w hL hB; try clear w) | (refine Both.mk ?_ ?_ <;> conv => whnf) | (intro o9 ho9; conv => whnf) | (refine (within_fn _ _).mono fun r w1 hr => ?_; obtain ⟨hr, hw⟩ := hr; subst hr; subst hw; conv => whnf) | (refine Lq.of_class (fun w' hw' => Ld.rowF ttOk plC_len (ss := l) (k := k - 1) (s := q) 0 (hrow hw'.below) rfl rfl gq rfl (by omega) rfl) ?_; conv => whnf) | fail)
        refine ⟨k + 1, ⟨rfl, rfl, rfl, vint (by push_cast; omega), trivial⟩, ⟨by omega, fun i p' h hi => ?_, hB, hL.tl⟩, (by first | omega | (dsimp only; omega))⟩
        by_cases hik : i = k
        · subst hik
          rw [g] at hi; injection hi with hi; subst hi
          exact ⟨hat, hn, fun q' h hq => by rw [gq] at hq; injection hq with hq; subst hq; exact hup⟩
        · exact hall i p' (by omega) hi
      · have hb := bad fun h => hup (h.up q (by omega) gq)
        repeat (first | (refine RunH ?_; intro w hL hB; try clear w) | (refine Both.mk ?_ ?_ <;> conv => whnf) | (intro o9 ho9; conv => whnf) | (refine (within_fn _ _).mono fun r w1 hr => ?_; obtain ⟨hr, hw⟩ := hr; subst hr; subst hw; conv => whnf) | (refine Lq.of_class (fun w' hw' => Ld.rowF ttOk plC_len (ss := l) (k := k - 1) (s := q) 0 (hrow hw'.below) rfl rfl gq rfl (by omega) rfl) ?_; conv => whnf) | fail)
        exact ⟨⟨fun h => absurd h hb, fun _ => rfl⟩, hL.below⟩
  · obtain rfl : k = l.length := by omega
    have hOk : OkI l := fun i p h => hall i p (List.getElem?_eq_some_iff.1 h).1 h
    repeat (first | (refine RunH ?_; intro w hL hB; try clear w) | (refine Both.mk ?_ ?_ <;> conv => whnf) | fail)
    refine (uvarint_fn l.length (by omega) _).mono fun r w ⟨ho, hw⟩ => ?_
    replace hL := hL.addRow hB hw ho
    replace hB := Nat.le_trans hB hw.size
    clear ho hw
    conv => whnf
    repeat (first | (refine RunH ?_; intro w hL hB; try clear w) | (refine Both.mk ?_ ?_ <;> conv => whnf) | fail)
    refine V.loop (α := Nat × Value) (fun z => [(6, z.2), (52, .slice a l.length c), (53, .int .i64 (l.length : Int)), (54, .int .i64 (z.1 : Int))])
      (fun z w' => z.1 ≤ l.length ∧ w0.heap.size ≤ w'.heap.size ∧ Sep Try.prog w0.heap.size w0 w' [.row 5 1 z.2 (idxB0 l z.1).length (bv (idxB0 l z.1))])
      (fun z => l.length - z.1) (0, r) ⟨rfl, rfl, rfl, rfl, trivial⟩ ⟨by omega, hB, by simpa [idxB0] using hL⟩ ?_
    clear hL hB
    rintro ⟨k, u⟩ w ⟨hk, hB, hL⟩
    dsimp only at *
    repeat (first | (refine RunH ?_; intro w hL hB; try clear w) | (refine Both.mk ?_ ?_ <;> conv => whnf) | fail)
    refine Br.dec (fun hlt => ?_) (fun hlt => ?_)
    · have hkl : k < l.length := by omega
      obtain ⟨b1, o1, rfl, _⟩ := hs.addr (by omega)
      have g := List.getElem?_eq_getElem hkl
      generalize hp : l[k] = p at *
      obtain ⟨g1, g2, g3⟩ := hOk k p g
      obtain ⟨h64, h32⟩ := hok p (List.mem_of_getElem? g)
      have hsucc := idxB0_succ g
      have hlen0 := idxB0_len l k
      obtain ⟨pk, pa, pn, pc, pd⟩ := p
      dsimp only at *
      obtain ⟨pa, rfl⟩ : ∃ x : Nat, pa = x := ⟨pa.toNat, by omega⟩
      obtain ⟨pn, rfl⟩ : ∃ x : Nat, pn = x := ⟨pn.toNat, by omega⟩
      have hrow : ∀ {w'}, Below w0.heap.size w0 w' → Row w' b1 o1 (l.flatMap plC) := fun h => (hs.below h).rowOf
      have e1 := encU_len pk
      have e2 := encU_len pa
      have e3 := encU_len pn
      simp only [plB, Int.toNat_natCast] at hsucc
      generalize idxB0 l k = A at *
      repeat (first | (refine RunH ?_; intro w hL hB; try clear w) | (refine Both.mk ?_ ?_ <;> conv => whnf) | fail)
      intro o2 ho2
      conv => whnf
      refine Ld.rowN ttOk plC_len (ss := l) (k := k) (s := ⟨pk, pa, pn, pc, pd⟩) (hrow hL.below) rfl rfl rfl g (by omega) ?_
      unfold plC
      conv => whnf
      repeat (first | (refine RunH ?_; intro w hL hB; try clear w) | (refine Both.mk ?_ ?_ <;> conv => whnf) | (refine Nw.sep hL hB (fun b8 w hL hB hb8 => ?_); conv => whnf) | fail)
      refine Qv.arr (cells := #[.int .u64 (pk : Int), .int .u64 (pa : Int), .int .u64 (pn : Int)]) ttOk tl87 tl51 rfl ?_
      conv => whnf
      repeat (first | (refine RunH ?_; intro w hL hB; try clear w) | (refine Both.mk ?_ ?_ <;> conv => whnf) | fail)
      replace hL := hL.front (i := 1) rfl
      dsimp only [List.eraseIdx, cellsL] at hL
      refine V.loop (α := Nat × Value × List UInt8) (fun z => [(6, z.2.1), (8, .pointer (some ⟨b8, 0, none⟩)), (52, .slice (some ⟨b1, o1, none⟩) l.length c), (53, .int .i64 (l.length : Int)), (54, .int .i64 (k : Int)), (66, .agg #[.int .u64 (pk : Int), .int .u64 (pa : Int), .int .u64 (pn : Int)]), (67, .int .i64 (z.1 : Int))])
        (fun z w' => z.1 ≤ 3 ∧ z.2.2 = (if z.1 = 0 then [] else if z.1 = 1 then encU pk else if z.1 = 2 then encU pk ++ encU pa else encU pk ++ encU pa ++ encU pn) ∧ w0.heap.size ≤ w'.heap.size ∧ Sep Try.prog w0.heap.size w0 w' [.row 5 1 z.2.1 (A ++ z.2.2).length (bv (A ++ z.2.2)), .blk b8 [.int .u64 (pk : Int), .int .i64 (pa : Int), .int .i64 (pn : Int), .int .u32 (pc : Int), .bool pd] 56])
        (fun z => 3 - z.1) (0, u, []) ⟨rfl, rfl, rfl, rfl, rfl, rfl, rfl, trivial⟩ ⟨by simp, rfl, hB, by simpa using hL⟩ ?_
      clear hL hB
      rintro ⟨j, u, bs⟩ w ⟨hj, hbs, hB, hL⟩
      dsimp only at *
      rcases (by omega : j = 0 ∨ j = 1 ∨ j = 2 ∨ j = 3) with rfl | rfl | rfl | rfl
      · simp only [if_true] at hbs
        subst hbs
        repeat (first | (refine RunH ?_; intro w hL hB; try clear w) | (refine Both.mk ?_ ?_ <;> conv => whnf) | fail)
        refine (uvarint_fn pk h64 _).mono fun r w ⟨ho, hw⟩ => ?_
        replace hL := hL.addRow hB hw ho
        replace hB := Nat.le_trans hB hw.size
        obtain ⟨ra, rc, rfl⟩ := (show SlN w 1 u _ _ from hL.rowN (i := 1) rfl).shape
        conv => whnf
        refine Rv.appendS ttOk hL tl22 tl5 rfl (by decide) 1 rfl (hL.rowN (i := 0) rfl) (bv_one _) (by simp only [maxLen, List.length_append, List.length_nil]; omega) (by (try simp only [List.length_append, List.length_nil]); omega) hB fun vo w hL hB => ?_
        dsimp only [List.set] at hL
        conv => whnf
        repeat (first | (refine RunH ?_; intro w hL hB; try clear w) | (refine Both.mk ?_ ?_ <;> conv => whnf) | fail)
        refine ⟨(1, vo, encU pk), ⟨rfl, rfl, rfl, rfl, rfl, rfl, rfl, trivial⟩, ⟨by simp, rfl, hB, ?_⟩, by simp⟩
        rw [← bv_append, ← List.length_append] at hL
        simpa using hL.tl
      · simp at hbs
        subst hbs
        repeat (first | (refine RunH ?_; intro w hL hB; try clear w) | (refine Both.mk ?_ ?_ <;> conv => whnf) | fail)
        refine (uvarint_fn pa (by omega) _).mono fun r w ⟨ho, hw⟩ => ?_
        replace hL := hL.addRow hB hw ho
        replace hB := Nat.le_trans hB hw.size
        obtain ⟨ra, rc, rfl⟩ := (show SlN w 1 u _ _ from hL.rowN (i := 1) rfl).shape
        conv => whnf
        refine Rv.appendS ttOk hL tl22 tl5 rfl (by decide) 1 rfl (hL.rowN (i := 0) rfl) (bv_one _) (by simp only [maxLen, List.length_append, List.length_nil]; omega) (by (try simp only [List.length_append, List.length_nil]); omega) hB fun vo w hL hB => ?_
        dsimp only [List.set] at hL
        conv => whnf
        repeat (first | (refine RunH ?_; intro w hL hB; try clear w) | (refine Both.mk ?_ ?_ <;> conv => whnf) | fail)
        refine ⟨(2, vo, encU pk ++ encU pa), ⟨rfl, rfl, rfl, rfl, rfl, rfl, rfl, trivial⟩, ⟨by simp, rfl, hB, ?_⟩, by simp⟩
        rw [← bv_append, ← List.length_append, List.append_assoc] at hL
        exact hL.tl
      · simp at hbs
        subst hbs
        repeat (first | (refine RunH ?_; intro w hL hB; try clear w) | (refine Both.mk ?_ ?_ <;> conv => whnf) | fail)
        refine (uvarint_fn pn (by omega) _).mono fun r w ⟨ho, hw⟩ => ?_
        replace hL := hL.addRow hB hw ho
        replace hB := Nat.le_trans hB hw.size
        obtain ⟨ra, rc, rfl⟩ := (show SlN w 1 u _ _ from hL.rowN (i := 1) rfl).shape
        conv => whnf
        refine Rv.appendS ttOk hL tl22 tl5 rfl (by decide) 1 rfl (hL.rowN (i := 0) rfl) (bv_one _) (by simp only [maxLen, List.length_append, List.length_nil]; omega) (by (try simp only [List.length_append, List.length_nil]); omega) hB fun vo w hL hB => ?_
        dsimp only [List.set] at hL
        conv => whnf
        repeat (first | (refine RunH ?_; intro w hL hB; try clear w) | (refine Both.mk ?_ ?_ <;> conv => whnf) | fail)
        refine ⟨(3, vo, encU pk ++ encU pa ++ encU pn), ⟨rfl, rfl, rfl, rfl, rfl, rfl, rfl, trivial⟩, ⟨by simp, rfl, hB, ?_⟩, by simp⟩
        rw [← bv_append, ← List.length_append, List.append_assoc] at hL
        exact hL.tl
      · simp at hbs
        subst hbs
        have hfin : ∀ d : UInt8, d = (if pd then 1 else 0) → A ++ (encU pk ++ (encU pa ++ encU pn)) ++ putB pc 4 ++ [d] = idxB0 l (k + 1) := fun d hd => by rw [hsucc, hd]; simp
        cases pd with
        | true =>
          repeat (first | (refine RunH ?_; intro w hL hB; try clear w) | (refine Both.mk ?_ ?_ <;> conv => whnf) | fail)
          refine (put32n pc h32 _).mono fun r w ⟨ho, hw⟩ => ?_
          replace hL := hL.addRow hB hw ho
          replace hB := Nat.le_trans hB hw.size
          obtain ⟨ra, rc, rfl⟩ := (show SlN w 1 u _ _ from hL.rowN (i := 1) rfl).shape
          have hq := putB_len pc 4
          conv => whnf
          refine Rv.appendS ttOk hL tl22 tl5 rfl (by decide) 1 rfl (hL.rowN (i := 0) rfl) (bv_one _) (by simp only [maxLen, List.length_append, List.length_nil]; omega) (by (try simp only [List.length_append, List.length_nil]); omega) hB fun vo w hL hB => ?_
          dsimp only [List.set] at hL
          rw [← bv_append, ← List.length_append] at hL
          obtain ⟨ra2, rc2, rfl⟩ := (show SlN w 1 vo _ _ from hL.rowN (i := 1) rfl).shape
          conv => whnf
          repeat (first | (refine RunH ?_; intro w hL hB; try clear w) | (refine Both.mk ?_ ?_ <;> conv => whnf) | fail)
          refine Rv.buildS (len := 1) (vs := [.int .u8 1]) ttOk hL tl22 tl5 rfl rfl (by intro u hu; simp only [List.mem_singleton] at hu; subst hu; rfl) (by decide) (by decide) hB fun bo w hL hB => ?_
          conv => whnf
          refine Rv.appendS ttOk hL tl22 tl5 rfl (by decide) 2 rfl (hL.rowN (i := 0) rfl) (allOne_mem rfl) (by simp only [maxLen, List.length_append, List.length_nil]; omega) (by (try simp only [List.length_append, List.length_nil]); omega) hB fun vo w hL hB => ?_
          dsimp only [List.set] at hL
          rw [show List.flatMap cellsL [Value.int IntKind.u8 1] = bv [1] from rfl, ← bv_append, show ∀ n, n + 1 = n + ([1] : List UInt8).length from fun _ => rfl, ← List.length_append, hfin 1 rfl] at hL
          conv => whnf
          repeat (first | (refine RunH ?_; intro w hL hB; try clear w) | (refine Both.mk ?_ ?_ <;> conv => whnf) | fail)
          exact ⟨(k + 1, vo), ⟨rfl, rfl, rfl, vint (by push_cast; omega), trivial⟩, ⟨by dsimp only; omega, hB, (hL.tl.tl.pop 1)⟩, (by first | omega | (dsimp only; omega))⟩
        | false =>
          repeat (first | (refine RunH ?_; intro w hL hB; try clear w) | (refine Both.mk ?_ ?_ <;> conv => whnf) | fail)
          refine (put32n pc h32 _).mono fun r w ⟨ho, hw⟩ => ?_
          replace hL := hL.addRow hB hw ho
          replace hB := Nat.le_trans hB hw.size
          obtain ⟨ra, rc, rfl⟩ := (show SlN w 1 u _ _ from hL.rowN (i := 1) rfl).shape
          have hq := putB_len pc 4
          conv => whnf
          refine Rv.appendS ttOk hL tl22 tl5 rfl (by decide) 1 rfl (hL.rowN (i := 0) rfl) (bv_one _) (by simp only [maxLen, List.length_append, List.length_nil]; omega) (by (try simp only [List.length_append, List.length_nil]); omega) hB fun vo w hL hB => ?_
          dsimp only [List.set] at hL
          rw [← bv_append, ← List.length_append] at hL
          obtain ⟨ra2, rc2, rfl⟩ := (show SlN w 1 vo _ _ from hL.rowN (i := 1) rfl).shape
          conv => whnf
          repeat (first | (refine RunH ?_; intro w hL hB; try clear w) | (refine Both.mk ?_ ?_ <;> conv => whnf) | fail)
          refine Rv.buildS (len := 1) (vs := [.int .u8 0]) ttOk hL tl22 tl5 rfl rfl (by intro u hu; simp only [List.mem_singleton] at hu; subst hu; rfl) (by decide) (by decide) hB fun bo w hL hB => ?_
          conv => whnf
          refine Rv.appendS ttOk hL tl22 tl5 rfl (by decide) 2 rfl (hL.rowN (i := 0) rfl) (allOne_mem rfl) (by simp only [maxLen, List.length_append, List.length_nil]; omega) (by (try simp only [List.length_append, List.length_nil]); omega) hB fun vo w hL hB => ?_
          dsimp only [List.set] at hL
          rw [show List.flatMap cellsL [Value.int IntKind.u8 0] = bv [0] from rfl, ← bv_append, show ∀ n, n + 1 = n + ([0] : List UInt8).length from fun _ => rfl, ← List.length_append, hfin 0 rfl] at hL
          conv => whnf
          repeat (first | (refine RunH ?_; intro w hL hB; try clear w) | (refine Both.mk ?_ ?_ <;> conv => whnf) | fail)
          exact ⟨(k + 1, vo), ⟨rfl, rfl, rfl, vint (by push_cast; omega), trivial⟩, ⟨by dsimp only; omega, hB, (hL.tl.tl.pop 1)⟩, (by first | omega | (dsimp only; omega))⟩
    · obtain rfl : k = l.length := by omega
      have hlen0 := idxB0_len l l.length
      repeat (first | (refine RunH ?_; intro w hL hB; try clear w) | (refine Both.mk ?_ ?_ <;> conv => whnf) | fail)
      refine (encode_fn _ (idxB l) (by unfold idxB; omega) _ (hL.row (i := 0) rfl)).mono fun r w ⟨u', hr, ho, hw⟩ => ?_
      subst hr
      replace hL := hL.addRow hB hw ho
      conv => whnf
      repeat (first | (refine RunH ?_; intro w hL hB; try clear w) | (refine Both.mk ?_ ?_ <;> conv => whnf) | fail)
      exact ⟨⟨fun _ => ⟨_, rfl, hL.ownR (i := 0) rfl⟩, fun h => absurd hOk h⟩, hL.below⟩

set_option maxHeartbeats 8000000 in
theorem indexR_fn (v : Value) (l : List Plc) (hl : l.length ≤ 400) (hok : ∀ p ∈ l, p.key < 18446744073709551616 ∧ p.cook < 4294967296) (w0 : World) (hs : SlN w0 5 v l.length (l.flatMap plC)) : Fn Try.prog 26 #[v] w0 fun r w' => idxOut l r w0 w' ∧ Below w0.heap.size w0 w' := by
  obtain ⟨a, c, rfl⟩ := hs.shape
  have hL := Sep.start Try.prog w0
  have hB := Nat.le_refl w0.heap.size
  refine Fn.mk Try.func26 rfl (by kernel_rfl) Try.ntmps26 rfl (by rw [Try.results26]) ?_
  repeat (first | (refine RunH ?_; intro w hL hB; try clear w) | (refine Both.mk ?_ ?_ <;> conv => whnf) | fail)
  refine V.loop (α := Nat) (fun k => [(0, .slice a l.length c), (4, .int .i64 (k : Int))])
    (fun k w' => k ≤ l.length ∧ (∀ i p, i < k → l[i]? = some p → OkAt l i p) ∧ w0.heap.size ≤ w'.heap.size ∧ Sep Try.prog w0.heap.size w0 w' [])
    (fun k => l.length - k) 0 ⟨rfl, rfl, trivial⟩ ⟨by omega, fun i p h => by omega, hB, hL⟩ ?_
  clear hL hB
  rintro k w ⟨hk, hall, hB, hL⟩
  dsimp only at *
  repeat (first | (refine RunH ?_; intro w hL hB; try clear w) | (refine Both.mk ?_ ?_ <;> conv => whnf) | fail)
  refine Br.dec (fun hlt => ?_) (fun hlt => ?_)
  · have hkl : k < l.length := by omega
    obtain ⟨b1, o1, rfl, _⟩ := hs.addr (by omega)
    have g := List.getElem?_eq_getElem hkl
    generalize hp : l[k] = p at *
    have hrow : ∀ {w'}, Below w0.heap.size w0 w' → Row w' b1 o1 (l.flatMap plC) := fun h => (hs.below h).rowOf
    have bad : ¬ OkAt l k p → ¬ OkI l := fun h h' => h (h' k p g)
    repeat (first | (refine RunH ?_; intro w hL hB; try clear w) | (refine Both.mk ?_ ?_ <;> conv => whnf) | fail)
    intro o2 ho2
    conv => whnf
    refine Ld.rowN ttOk plC_len (ss := l) (k := k) (s := p) (hrow hL.below) rfl rfl rfl g (by omega) ?_
    unfold plC
    conv => whnf
    repeat (first | (refine RunK ?_; intro w hL hB; try clear w) | (refine V.treeA ttOk hL (.q 0 (.q 1 (.q 2 (.q 3 (.q 4 (.q 5 (.q 6 (.q 7 (.q 8 (.q 9 (.q 10 (.q 11 (.q 12 (.q 13 (.q 14 (.q 15 (.q 16 (.q 17 (.q 18 (.q 19 (.q 20 (.q 21 (.q 22 (.q 23 (.q 24 (.q 25 (.q 26 (.q 27 (.q 28 (.q 29 (.q 30 (.q 31 (.q 32 .nil))))))))))))))))))))))))))))))))) mixed (by decide +kernel) ?_; replace hL := hL.drew; conv => whnf) | (refine V.tailA ttOk mixed (by decide +kernel) ?_; replace hL := hL.drew; conv => whnf) | (refine Both.mk ?_ ?_ <;> conv => whnf) | (refine Nw.sep hL hB (fun b5 w hL hB hb5 => ?_); conv => whnf) | fail)
    by_cases hat1 : 0 ≤ p.at_
    case neg =>
      have hb := bad fun h => hat1 h.at_.1
      by_cases hk0 : k = 0
      · subst hk0
        repeat (first | (refine RunH ?_; intro w hL hB; try clear w) | (refine Both.mk ?_ ?_ <;> conv => whnf) | (intro o9 ho9; conv => whnf) | (refine Lq.of_class (fun w' hw' => Ld.rowF ttOk plC_len (ss := l) (k := k - 1) (s := q) 0 (hrow hw'.below) rfl rfl gq rfl (by omega) rfl) ?_; conv => whnf) | fail)
        exact ⟨⟨fun h => absurd h hb, fun _ => rfl⟩, hL.below⟩
      · obtain ⟨q, gq⟩ : ∃ q, l[k - 1]? = some q := ⟨_, List.getElem?_eq_getElem (by omega)⟩
        by_cases hup : q.key < p.key
        · repeat (first | (refine RunH ?_; intro w hL hB; try clear w) | (refine Both.mk ?_ ?_ <;> conv => whnf) | (intro o9 ho9; conv => whnf) | (refine Lq.of_class (fun w' hw' => Ld.rowF ttOk plC_len (ss := l) (k := k - 1) (s := q) 0 (hrow hw'.below) rfl rfl gq rfl (by omega) rfl) ?_; conv => whnf) | fail)
          exact ⟨⟨fun h => absurd h hb, fun _ => rfl⟩, hL.below⟩
        · repeat (first | (refine RunH ?_; intro w hL hB; try clear w) | (refine Both.mk ?_ ?_ <;> conv => whnf) | (intro o9 ho9; conv => whnf) | (refine Lq.of_class (fun w' hw' => Ld.rowF ttOk plC_len (ss := l) (k := k - 1) (s := q) 0 (hrow hw'.below) rfl rfl gq rfl (by omega) rfl) ?_; conv => whnf) | fail)
          exact ⟨⟨fun h => absurd h hb, fun _ => rfl⟩, hL.below⟩
    by_cases hat2 : p.at_ ≤ 4194304
    case neg =>
      have hb := bad fun h => hat2 h.at_.2
      by_cases hk0 : k = 0
      · subst hk0
        repeat (first | (refine RunH ?_; intro w hL hB; try clear w) | (refine Both.mk ?_ ?_ <;> conv => whnf) | (intro o9 ho9; conv => whnf) | (refine Lq.of_class (fun w' hw' => Ld.rowF ttOk plC_len (ss := l) (k := k - 1) (s := q) 0 (hrow hw'.below) rfl rfl gq rfl (by omega) rfl) ?_; conv => whnf) | fail)
        exact ⟨⟨fun h => absurd h hb, fun _ => rfl⟩, hL.below⟩
      · obtain ⟨q, gq⟩ : ∃ q, l[k - 1]? = some q := ⟨_, List.getElem?_eq_getElem (by omega)⟩
        by_cases hup : q.key < p.key
        · repeat (first | (refine RunH ?_; intro w hL hB; try clear w) | (refine Both.mk ?_ ?_ <;> conv => whnf) | (intro o9 ho9; conv => whnf) | (refine Lq.of_class (fun w' hw' => Ld.rowF ttOk plC_len (ss := l) (k := k - 1) (s := q) 0 (hrow hw'.below) rfl rfl gq rfl (by omega) rfl) ?_; conv => whnf) | fail)
          exact ⟨⟨fun h => absurd h hb, fun _ => rfl⟩, hL.below⟩
        · repeat (first | (refine RunH ?_; intro w hL hB; try clear w) | (refine Both.mk ?_ ?_ <;> conv => whnf) | (intro o9 ho9; conv => whnf) | (refine Lq.of_class (fun w' hw' => Ld.rowF ttOk plC_len (ss := l) (k := k - 1) (s := q) 0 (hrow hw'.below) rfl rfl gq rfl (by omega) rfl) ?_; conv => whnf) | fail)
          exact ⟨⟨fun h => absurd h hb, fun _ => rfl⟩, hL.below⟩
    by_cases hn1 : 0 ≤ p.n
    case neg =>
      have hb := bad fun h => hn1 h.n.1
      by_cases hk0 : k = 0
      · subst hk0
        repeat (first | (refine RunH ?_; intro w hL hB; try clear w) | (refine Both.mk ?_ ?_ <;> conv => whnf) | (intro o9 ho9; conv => whnf) | (refine Lq.of_class (fun w' hw' => Ld.rowF ttOk plC_len (ss := l) (k := k - 1) (s := q) 0 (hrow hw'.below) rfl rfl gq rfl (by omega) rfl) ?_; conv => whnf) | fail)
        exact ⟨⟨fun h => absurd h hb, fun _ => rfl⟩, hL.below⟩
      · obtain ⟨q, gq⟩ : ∃ q, l[k - 1]? = some q := ⟨_, List.getElem?_eq_getElem (by omega)⟩
        by_cases hup : q.key < p.key
        · repeat (first | (refine RunH ?_; intro w hL hB; try clear w) | (refine Both.mk ?_ ?_ <;> conv => whnf) | (intro o9 ho9; conv => whnf) | (refine Lq.of_class (fun w' hw' => Ld.rowF ttOk plC_len (ss := l) (k := k - 1) (s := q) 0 (hrow hw'.below) rfl rfl gq rfl (by omega) rfl) ?_; conv => whnf) | fail)
          exact ⟨⟨fun h => absurd h hb, fun _ => rfl⟩, hL.below⟩
        · repeat (first | (refine RunH ?_; intro w hL hB; try clear w) | (refine Both.mk ?_ ?_ <;> conv => whnf) | (intro o9 ho9; conv => whnf) | (refine Lq.of_class (fun w' hw' => Ld.rowF ttOk plC_len (ss := l) (k := k - 1) (s := q) 0 (hrow hw'.below) rfl rfl gq rfl (by omega) rfl) ?_; conv => whnf) | fail)
          exact ⟨⟨fun h => absurd h hb, fun _ => rfl⟩, hL.below⟩
    by_cases hn2 : p.n ≤ 4194304
    case neg =>
      have hb := bad fun h => hn2 h.n.2
      by_cases hk0 : k = 0
      · subst hk0
        repeat (first | (refine RunH ?_; intro w hL hB; try clear w) | (refine Both.mk ?_ ?_ <;> conv => whnf) | (intro o9 ho9; conv => whnf) | (refine Lq.of_class (fun w' hw' => Ld.rowF ttOk plC_len (ss := l) (k := k - 1) (s := q) 0 (hrow hw'.below) rfl rfl gq rfl (by omega) rfl) ?_; conv => whnf) | fail)
        exact ⟨⟨fun h => absurd h hb, fun _ => rfl⟩, hL.below⟩
      · obtain ⟨q, gq⟩ : ∃ q, l[k - 1]? = some q := ⟨_, List.getElem?_eq_getElem (by omega)⟩
        by_cases hup : q.key < p.key
        · repeat (first | (refine RunH ?_; intro w hL hB; try clear w) | (refine Both.mk ?_ ?_ <;> conv => whnf) | (intro o9 ho9; conv => whnf) | (refine Lq.of_class (fun w' hw' => Ld.rowF ttOk plC_len (ss := l) (k := k - 1) (s := q) 0 (hrow hw'.below) rfl rfl gq rfl (by omega) rfl) ?_; conv => whnf) | fail)
          exact ⟨⟨fun h => absurd h hb, fun _ => rfl⟩, hL.below⟩
        · repeat (first | (refine RunH ?_; intro w hL hB; try clear w) | (refine Both.mk ?_ ?_ <;> conv => whnf) | (intro o9 ho9; conv => whnf) | (refine Lq.of_class (fun w' hw' => Ld.rowF ttOk plC_len (ss := l) (k := k - 1) (s := q) 0 (hrow hw'.below) rfl rfl gq rfl (by omega) rfl) ?_; conv => whnf) | fail)
          exact ⟨⟨fun h => absurd h hb, fun _ => rfl⟩, hL.below⟩
    by_cases hk0 : k = 0
    · subst hk0
      repeat (first | (refine RunH ?_; intro w hL hB; try clear w) | (refine Both.mk ?_ ?_ <;> conv => whnf) | (intro o9 ho9; conv => whnf) | (refine Lq.of_class (fun w' hw' => Ld.rowF ttOk plC_len (ss := l) (k := k - 1) (s := q) 0 (hrow hw'.below) rfl rfl gq rfl (by omega) rfl) ?_; conv => whnf) | fail)
      refine ⟨1, ⟨rfl, rfl, trivial⟩, ⟨by omega, fun i p' h hi => ?_, hB, hL.tl⟩, (by first | omega | (dsimp only; omega))⟩
      obtain rfl : i = 0 := by omega
      rw [g] at hi; injection hi with hi; subst hi
      exact ⟨⟨hat1, hat2⟩, ⟨hn1, hn2⟩, fun q h => absurd h (by omega)⟩
    · obtain ⟨q, gq⟩ : ∃ q, l[k - 1]? = some q := ⟨_, List.getElem?_eq_getElem (by omega)⟩
      by_cases hup : q.key < p.key
      · repeat (first | (refine RunH ?_; intro w hL hB; try clear w) | (refine Both.mk ?_ ?_ <;> conv => whnf) | (intro o9 ho9; conv => whnf) | (refine Lq.of_class (fun w' hw' => Ld.rowF ttOk plC_len (ss := l) (k := k - 1) (s := q) 0 (hrow hw'.below) rfl rfl gq rfl (by omega) rfl) ?_; conv => whnf) | fail)
        refine ⟨k + 1, ⟨rfl, vint (by push_cast; omega), trivial⟩, ⟨by omega, fun i p' h hi => ?_, hB, hL.tl⟩, (by first | omega | (dsimp only; omega))⟩
        by_cases hik : i = k
        · subst hik
          rw [g] at hi; injection hi with hi; subst hi
          exact ⟨⟨hat1, hat2⟩, ⟨hn1, hn2⟩, fun q' h hq => by rw [gq] at hq; injection hq with hq; subst hq; exact hup⟩
        · exact hall i p' (by omega) hi
      · have hb := bad fun h => hup (h.up q (by omega) gq)
        repeat (first | (refine RunH ?_; intro w hL hB; try clear w) | (refine Both.mk ?_ ?_ <;> conv => whnf) | (intro o9 ho9; conv => whnf) | (refine Lq.of_class (fun w' hw' => Ld.rowF ttOk plC_len (ss := l) (k := k - 1) (s := q) 0 (hrow hw'.below) rfl rfl gq rfl (by omega) rfl) ?_; conv => whnf) | fail)
        exact ⟨⟨fun h => absurd h hb, fun _ => rfl⟩, hL.below⟩
  · obtain rfl : k = l.length := by omega
    have hOk : OkI l := fun i p h => hall i p (List.getElem?_eq_some_iff.1 h).1 h
    repeat (first | (refine RunH ?_; intro w hL hB; try clear w) | (refine Both.mk ?_ ?_ <;> conv => whnf) | fail)
    refine (uvarintR_fn l.length (by omega) _).mono fun r w ⟨ho, hw⟩ => ?_
    replace hL := hL.addRow hB hw ho
    replace hB := Nat.le_trans hB hw.size
    clear ho hw
    conv => whnf
    repeat (first | (refine RunH ?_; intro w hL hB; try clear w) | (refine Both.mk ?_ ?_ <;> conv => whnf) | fail)
    refine V.loop (α := Nat × Value) (fun z => [(6, z.2), (0, .slice a l.length c), (7, .int .i64 (z.1 : Int))])
      (fun z w' => z.1 ≤ l.length ∧ w0.heap.size ≤ w'.heap.size ∧ Sep Try.prog w0.heap.size w0 w' [.row 5 1 z.2 (idxB0 l z.1).length (bv (idxB0 l z.1))])
      (fun z => l.length - z.1) (0, r) ⟨rfl, rfl, rfl, trivial⟩ ⟨by omega, hB, by simpa [idxB0] using hL⟩ ?_
    clear hL hB
    rintro ⟨k, u⟩ w ⟨hk, hB, hL⟩
    dsimp only at *
    repeat (first | (refine RunH ?_; intro w hL hB; try clear w) | (refine Both.mk ?_ ?_ <;> conv => whnf) | fail)
    refine Br.dec (fun hlt => ?_) (fun hlt => ?_)
    · have hkl : k < l.length := by omega
      obtain ⟨b1, o1, rfl, _⟩ := hs.addr (by omega)
      have g := List.getElem?_eq_getElem hkl
      generalize hp : l[k] = p at *
      obtain ⟨g1, g2, g3⟩ := hOk k p g
      obtain ⟨h64, h32⟩ := hok p (List.mem_of_getElem? g)
      have hsucc := idxB0_succ g
      have hlen0 := idxB0_len l k
      obtain ⟨pk, pa, pn, pc, pd⟩ := p
      dsimp only at *
      obtain ⟨pa, rfl⟩ : ∃ x : Nat, pa = x := ⟨pa.toNat, by omega⟩
      obtain ⟨pn, rfl⟩ : ∃ x : Nat, pn = x := ⟨pn.toNat, by omega⟩
      have hrow : ∀ {w'}, Below w0.heap.size w0 w' → Row w' b1 o1 (l.flatMap plC) := fun h => (hs.below h).rowOf
      have e1 := encU_len pk
      have e2 := encU_len pa
      have e3 := encU_len pn
      simp only [plB, Int.toNat_natCast] at hsucc
      generalize idxB0 l k = A at *
      repeat (first | (refine RunH ?_; intro w hL hB; try clear w) | (refine Both.mk ?_ ?_ <;> conv => whnf) | fail)
      intro o2 ho2
      conv => whnf
      refine Ld.rowN ttOk plC_len (ss := l) (k := k) (s := ⟨pk, pa, pn, pc, pd⟩) (hrow hL.below) rfl rfl rfl g (by omega) ?_
      unfold plC
      conv => whnf
      repeat (first | (refine RunH ?_; intro w hL hB; try clear w) | (refine Both.mk ?_ ?_ <;> conv => whnf) | (refine Nw.sep hL hB (fun b8 w hL hB hb8 => ?_); conv => whnf) | fail)
      have hq := putB_len pc 4
      refine (uvarintR_fn pk h64 _).mono fun r w ⟨ho, hw⟩ => ?_
      replace hL := hL.addRow hB hw ho
      replace hB := Nat.le_trans hB hw.size
      clear ho hw
      conv => whnf
      refine Rv.appendS ttOk hL tl22 tl5 rfl (by decide) 2 rfl (hL.rowN (i := 0) rfl) (bv_one _) (by simp only [maxLen, List.length_append, List.length_nil]; omega) (by (try simp only [List.length_append, List.length_nil]); omega) hB fun u w hL hB => ?_
      dsimp only [List.set] at hL
      rw [← bv_append, ← List.length_append] at hL
      replace hL := hL.tl
      obtain ⟨ra, rc, rfl⟩ := (show SlN w 1 u _ _ from hL.rowN (i := 1) rfl).shape
      conv => whnf
      repeat (first | (refine RunH ?_; intro w hL hB; try clear w) | (refine Both.mk ?_ ?_ <;> conv => whnf) | fail)
      refine (uvarintR_fn pa (by omega) _).mono fun r w ⟨ho, hw⟩ => ?_
      replace hL := hL.addRow hB hw ho
      replace hB := Nat.le_trans hB hw.size
      clear ho hw
      conv => whnf
      refine Rv.appendS ttOk hL tl22 tl5 rfl (by decide) 2 rfl (hL.rowN (i := 0) rfl) (bv_one _) (by simp only [maxLen, List.length_append, List.length_nil]; omega) (by (try simp only [List.length_append, List.length_nil]); omega) hB fun u w hL hB => ?_
      dsimp only [List.set] at hL
      rw [← bv_append, ← List.length_append] at hL
      replace hL := hL.tl
      obtain ⟨ra, rc, rfl⟩ := (show SlN w 1 u _ _ from hL.rowN (i := 1) rfl).shape
      conv => whnf
      repeat (first | (refine RunH ?_; intro w hL hB; try clear w) | (refine Both.mk ?_ ?_ <;> conv => whnf) | fail)
      refine (uvarintR_fn pn (by omega) _).mono fun r w ⟨ho, hw⟩ => ?_
      replace hL := hL.addRow hB hw ho
      replace hB := Nat.le_trans hB hw.size
      clear ho hw
      conv => whnf
      refine Rv.appendS ttOk hL tl22 tl5 rfl (by decide) 2 rfl (hL.rowN (i := 0) rfl) (bv_one _) (by simp only [maxLen, List.length_append, List.length_nil]; omega) (by (try simp only [List.length_append, List.length_nil]); omega) hB fun u w hL hB => ?_
      dsimp only [List.set] at hL
      rw [← bv_append, ← List.length_append] at hL
      replace hL := hL.tl
      obtain ⟨ra, rc, rfl⟩ := (show SlN w 1 u _ _ from hL.rowN (i := 1) rfl).shape
      conv => whnf
      repeat (first | (refine RunH ?_; intro w hL hB; try clear w) | (refine Both.mk ?_ ?_ <;> conv => whnf) | fail)
      refine (put32Rn pc h32 _).mono fun r w ⟨ho, hw⟩ => ?_
      replace hL := hL.addRow hB hw ho
      replace hB := Nat.le_trans hB hw.size
      clear ho hw
      conv => whnf
      refine Rv.appendS ttOk hL tl22 tl5 rfl (by decide) 2 rfl (hL.rowN (i := 0) rfl) (bv_one _) (by simp only [maxLen, List.length_append, List.length_nil]; omega) (by (try simp only [List.length_append, List.length_nil]); omega) hB fun u w hL hB => ?_
      dsimp only [List.set] at hL
      rw [← bv_append, ← List.length_append] at hL
      replace hL := hL.tl
      obtain ⟨ra, rc, rfl⟩ := (show SlN w 1 u _ _ from hL.rowN (i := 1) rfl).shape
      conv => whnf
      repeat (first | (refine RunH ?_; intro w hL hB; try clear w) | (refine Both.mk ?_ ?_ <;> conv => whnf) | fail)
      have hfin : ∀ d : UInt8, d = (if pd then 1 else 0) → A ++ encU pk ++ encU pa ++ encU pn ++ putB pc 4 ++ [d] = idxB0 l (k + 1) := fun d hd => by rw [hsucc, hd]; simp
      cases pd with
      | true =>
        repeat (first | (refine RunH ?_; intro w hL hB; try clear w) | (refine Both.mk ?_ ?_ <;> conv => whnf) | fail)
        refine Rv.buildS (len := 1) (vs := [.int .u8 1]) ttOk hL tl22 tl5 rfl rfl (by intro u hu; simp only [List.mem_singleton] at hu; subst hu; rfl) (by decide) (by decide) hB fun bo w hL hB => ?_
        conv => whnf
        refine Rv.appendS ttOk hL tl22 tl5 rfl (by decide) 2 rfl (hL.rowN (i := 0) rfl) (allOne_mem rfl) (by simp only [maxLen, List.length_append, List.length_nil]; omega) (by (try simp only [List.length_append, List.length_nil]); omega) hB fun vo w hL hB => ?_
        dsimp only [List.set] at hL
        rw [show List.flatMap cellsL [Value.int IntKind.u8 1] = bv [1] from rfl, ← bv_append, show ∀ n, n + 1 = n + ([1] : List UInt8).length from fun _ => rfl, ← List.length_append, hfin 1 rfl] at hL
        conv => whnf
        repeat (first | (refine RunH ?_; intro w hL hB; try clear w) | (refine Both.mk ?_ ?_ <;> conv => whnf) | fail)
        exact ⟨(k + 1, vo), ⟨rfl, rfl, vint (by push_cast; omega), trivial⟩, ⟨by dsimp only; omega, hB, hL.tl.tl⟩, (by first | omega | (dsimp only; omega))⟩
      | false =>
        repeat (first | (refine RunH ?_; intro w hL hB; try clear w) | (refine Both.mk ?_ ?_ <;> conv => whnf) | fail)
        refine Rv.buildS (len := 1) (vs := [.int .u8 0]) ttOk hL tl22 tl5 rfl rfl (by intro u hu; simp only [List.mem_singleton] at hu; subst hu; rfl) (by decide) (by decide) hB fun bo w hL hB => ?_
        conv => whnf
        refine Rv.appendS ttOk hL tl22 tl5 rfl (by decide) 2 rfl (hL.rowN (i := 0) rfl) (allOne_mem rfl) (by simp only [maxLen, List.length_append, List.length_nil]; omega) (by (try simp only [List.length_append, List.length_nil]); omega) hB fun vo w hL hB => ?_
        dsimp only [List.set] at hL
        rw [show List.flatMap cellsL [Value.int IntKind.u8 0] = bv [0] from rfl, ← bv_append, show ∀ n, n + 1 = n + ([0] : List UInt8).length from fun _ => rfl, ← List.length_append, hfin 0 rfl] at hL
        conv => whnf
        repeat (first | (refine RunH ?_; intro w hL hB; try clear w) | (refine Both.mk ?_ ?_ <;> conv => whnf) | fail)
        exact ⟨(k + 1, vo), ⟨rfl, rfl, vint (by push_cast; omega), trivial⟩, ⟨by dsimp only; omega, hB, hL.tl.tl⟩, (by first | omega | (dsimp only; omega))⟩
    · obtain rfl : k = l.length := by omega
      have hlen0 := idxB0_len l l.length
      repeat (first | (refine RunH ?_; intro w hL hB; try clear w) | (refine Both.mk ?_ ?_ <;> conv => whnf) | fail)
      refine (encodeR_fn _ (idxB l) (by unfold idxB; omega) _ (hL.row (i := 0) rfl)).mono fun r w ⟨u', hr, ho, hw⟩ => ?_
      subst hr
      replace hL := hL.addRow hB hw ho
      conv => whnf
      repeat (first | (refine RunH ?_; intro w hL hB; try clear w) | (refine Both.mk ?_ ?_ <;> conv => whnf) | fail)
      exact ⟨⟨fun _ => ⟨_, rfl, hL.ownR (i := 0) rfl⟩, fun h => absurd hOk h⟩, hL.below⟩
end Go.Proofs.Ytlldgodjfpgbcaa
