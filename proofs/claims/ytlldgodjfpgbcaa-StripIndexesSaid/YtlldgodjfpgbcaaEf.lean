/- places; StripReads. Nothing is claimed here. -/
import Derived.Test.YtlldgodjfpgbcaaEd
namespace Go.Proofs.Ytlldgodjfpgbcaa
open Go.RowKit
open Go.Maps (Keyed)
set_option linter.unusedVariables false
set_option linter.unusedSimpArgs false
set_option maxRecDepth 100000

structure okP (p : Plc) : Prop where
  key : p.key < 18446744073709551616
  at_ : (Lit.int .i64 p.at_).wf = true
  n : (Lit.int .i64 p.n).wf = true
  cook : p.cook < 4294967296
theorem plKeyed : WideMaps.KeyLaw Try.prog 56 := deep_law_gate (by kernel_rfl) (of_decide_eq_true (by kernel_rfl)) (of_decide_eq_true (by kernel_rfl)) (by kernel_rfl) (by kernel_rfl)
theorem plKey : Try.prog.keyType 56 = true := by kernel_rfl
theorem plSmall : 5 ≤ Try.prog.types.size + 1 ∧ Try.prog.types.size + 1 ≤ 10000 := of_decide_eq_true (by kernel_rfl)
theorem wfU64 {d : Nat} (h : d < 18446744073709551616) : (Lit.int .u64 (d : Int)).wf = true := by
  simp only [Lit.wf, IntKind.min, IntKind.max, IntKind.bits, IntKind.signed, Bool.and_eq_true, decide_eq_true_eq]
  simp; omega
theorem wfU32 {d : Nat} (h : d < 4294967296) : (Lit.int .u32 (d : Int)).wf = true := by
  simp only [Lit.wf, IntKind.min, IntKind.max, IntKind.bits, IntKind.signed, Bool.and_eq_true, decide_eq_true_eq]
  simp; omega
theorem wfI64 {d : Int} (h : -9223372036854775808 ≤ d ∧ d ≤ 9223372036854775807) : (Lit.int .i64 d).wf = true := by
  simp only [Lit.wf, IntKind.min, IntKind.max, IntKind.bits, IntKind.signed, Bool.and_eq_true, decide_eq_true_eq]
  simp; omega
theorem plGood (p : Plc) (h : okP p) : Good Try.prog 56 (.agg (plC p).toArray) := by
  refine good_struct ttOk 5 tl56 plKey plSmall.1 (cs := plC p) ?_
  exact ⟨rfl, wfU64 h.key, h.at_, h.n, wfU32 h.cook, trivial, trivial⟩
theorem plC_inj {p q : Plc} : Value.agg (plC p).toArray = .agg (plC q).toArray ↔ p = q := by
  obtain ⟨a, b, c, d, e⟩ := p
  obtain ⟨a', b', c', d', e'⟩ := q
  constructor
  · intro h
    simp [plC] at h
    obtain ⟨h1, h2, h3, h4, h5⟩ := h
    subst h2; subst h3; subst h5
    rw [Plc.mk.injEq]
    exact ⟨by omega, rfl, rfl, by omega, rfl⟩
  · rintro ⟨⟩; rfl
theorem Eg.pl {p q : Plc} {K : Bool → Prop} (hp : okP p) (hq : okP q) (h : K (decide (p = q))) : Eg Try.prog 56 (plC p).toArray (plC q).toArray K := by
  refine Eg.key plKeyed plSmall.2 plKey (by kernel_rfl) (by kernel_rfl) (plGood p hp) (plGood q hq) fun r hr => ?_
  have : r = decide (p = q) := by
    cases r
    · simp only [Bool.false_eq_true, false_iff] at hr
      exact (decide_eq_false fun e => hr (plC_inj.2 e)).symm
    · simp only [true_iff] at hr
      exact (decide_eq_true (plC_inj.1 hr)).symm
  rw [this]; exact h
theorem take_succ_eq' {α : Type} {l m : List α} {k : Nat} (h : l.take k = m.take k) (hl : k < l.length) (hm : k < m.length) (he : l[k] = m[k]) : l.take (k + 1) = m.take (k + 1) := by
  rw [List.take_succ_eq_append_getElem hl, List.take_succ_eq_append_getElem hm, h, he]

set_option maxHeartbeats 4000000 in
theorem places_fn (v1 v2 : Value) (L1 L2 : List Plc) (w0 : World) (h1 : SlN w0 5 v1 L1.length (L1.flatMap plC)) (h2 : SlN w0 5 v2 L2.length (L2.flatMap plC)) (ok1 : ∀ p ∈ L1, okP p) (ok2 : ∀ p ∈ L2, okP p) :
    Fn Try.prog 24 #[v1, v2] w0 fun r w' => r = .bool (decide (L1 = L2)) ∧ Below w0.heap.size w0 w' := by
  have hle1 := h1.le
  have hle2 := h2.le
  obtain ⟨a, cp, rfl⟩ := h1.shape
  obtain ⟨a2, cp2, rfl⟩ := h2.shape
  have hL := Sep.start Try.prog w0
  have hB := Nat.le_refl w0.heap.size
  refine Fn.mk Try.func24 rfl (by kernel_rfl) Try.ntmps24 rfl (by rw [Try.results24]) ?_
  by_cases hlen : L1.length = L2.length
  · repeat (first | (refine RunH ?_; intro w hL hB; try clear w) | (refine Both.mk ?_ ?_ <;> conv => whnf) | fail)
    refine V.loop (α := Nat) (fun k => [(0, .slice a L1.length cp), (1, .slice a2 L2.length cp2), (5, .int .i64 (k : Int))])
      (fun k w' => k ≤ L1.length ∧ L1.take k = L2.take k ∧ Sep Try.prog w0.heap.size w0 w' [])
      (fun k => L1.length - k) 0 ⟨rfl, rfl, rfl, trivial⟩ ⟨by omega, rfl, hL⟩ ?_
    clear hL hB
    rintro k w ⟨hk, he, hL⟩
    have hB := hL.size
    repeat (first | (refine RunH ?_; intro w hL hB; try clear w) | (refine Both.mk ?_ ?_ <;> conv => whnf) | fail)
    refine Br.dec (fun h => ?_) (fun h => ?_)
    · have hkl : k < L1.length := by omega
      have hkm : k < L2.length := by omega
      obtain ⟨b1, o1, rfl, _⟩ := h1.addr (by omega)
      obtain ⟨b2, o2, rfl, _⟩ := h2.addr (by omega)
      have g1 : L1[k]? = some L1[k] := List.getElem?_eq_getElem hkl
      have g2 : L2[k]? = some L2[k] := List.getElem?_eq_getElem hkm
      repeat (first | (refine RunK ?_; intro w hL hB; try clear w) | (refine V.quiet ttOk (fun x => x = World.drew _) mixed (by kernel_rfl) rfl ?_; replace hL := hL.drew; conv => whnf) | (refine V.tailA ttOk mixed (by decide +kernel) ?_; replace hL := hL.drew; conv => whnf) | (refine Both.mk ?_ ?_ <;> conv => whnf) | (intro w9 hw9; subst hw9; conv => whnf) | (intro o9 ho9; conv => whnf) | fail)
      refine Lq.of_row (Ld.rowN ttOk plC_len (ss := L1) (k := k) (s := L1[k]) (h1.below hL.below).rowOf rfl rfl rfl g1 (by omega) rfl) ?_
      conv => whnf
      repeat (first | (refine RunH ?_; intro w hL hB; try clear w) | (refine Both.mk ?_ ?_ <;> conv => whnf) | (intro o9 ho9; conv => whnf) | fail)
      refine Lq.of_row (Ld.rowN ttOk plC_len (ss := L2) (k := k) (s := L2[k]) (h2.below hL.below).rowOf rfl rfl rfl g2 (by omega) rfl) ?_
      conv => whnf
      refine Eg.pl (ok1 _ (List.getElem_mem hkl)) (ok2 _ (List.getElem_mem hkm)) ?_
      conv => whnf
      by_cases hx : L1[k] = L2[k]
      · rw [decide_eq_true hx]
        repeat (first | (refine RunH ?_; intro w hL hB; try clear w) | (refine Both.mk ?_ ?_ <;> conv => whnf) | (intro w9 hw9; subst hw9; conv => whnf) | fail)
        exact ⟨k + 1, ⟨rfl, rfl, vint (by push_cast; omega), trivial⟩, ⟨by omega, take_succ_eq' he hkl hkm hx, hL⟩, (by first | omega | (dsimp only; omega))⟩
      · rw [decide_eq_false hx]
        repeat (first | (refine RunH ?_; intro w hL hB; try clear w) | (refine Both.mk ?_ ?_ <;> conv => whnf) | (intro w9 hw9; subst hw9; conv => whnf) | fail)
        refine ⟨?_, hL.below⟩
        rw [decide_eq_false]
        rintro rfl
        exact hx rfl
    · obtain rfl : k = L1.length := by omega
      repeat (first | (refine RunH ?_; intro w hL hB; try clear w) | (refine Both.mk ?_ ?_ <;> conv => whnf) | fail)
      refine ⟨?_, hL.below⟩
      rw [List.take_length, hlen, List.take_length] at he
      rw [decide_eq_true he]
  · repeat (first | (refine RunH ?_; intro w hL hB; try clear w) | (refine Both.mk ?_ ?_ <;> conv => whnf) | fail)
    refine ⟨?_, hL.below⟩
    rw [decide_eq_false]
    rintro rfl
    exact hlen rfl

theorem plc1_ok {l r : List UInt8} {p : Plc} (h : plc1 l = some (p, r)) : okP p := by
  unfold plc1 at h
  split at h
  · cases h
  rename_i k r1 h1
  split at h
  · cases h
  rename_i a r2 h2
  split at h
  · cases h
  rename_i n r3 h3
  have g1 := num1_lt h1
  have g2 := num1_lt h2
  have g3 := num1_lt h3
  unfold tail5 at h
  split at h
  · split at h
    · cases h
    · injection h with h; injection h with e1 e2
      subst e1
      rename_i c0 c1 c2 c3 d r hd
      exact ⟨g1.1, wfI64 (by dsimp only; omega), wfI64 (by dsimp only; omega), by have := ofB_lt [c0, c1, c2, c3]; simpa using this⟩
  · cases h
theorem plcs_ok : ∀ (c : Nat) (r : List UInt8) (acc l : List Plc) (r' : List UInt8), plcs c r acc = some (l, r') → (∀ p ∈ acc, okP p) → ∀ p ∈ l, okP p
  | 0, r, acc, l, r', h, ha => by simp only [plcs, Option.some.injEq, Prod.mk.injEq] at h; rw [← h.1]; exact ha
  | c + 1, r, acc, l, r', h, ha => by
    unfold plcs at h
    split at h
    · cases h
    · rename_i p r2 hp
      split at h
      · exact plcs_ok c _ _ _ _ h fun q hq => by
          rcases List.mem_append.1 hq with hq | hq
          · exact ha q hq
          · rw [List.mem_singleton.1 hq]; exact plc1_ok hp
      · cases h
theorem idxS_ok (b : List UInt8) : ∀ p ∈ (idxS b).2, okP p := by
  unfold idxS
  split
  · simp
  split
  · simp
  split
  · simp
  split
  · simp
  rename_i h
  split
  · exact plcs_ok _ _ _ _ _ h (by simp)
  · simp

set_option maxHeartbeats 4000000 in
theorem stripReads_fn (v : Value) (b : List UInt8) (w0 : World) (hs : Sl w0 v (bv b)) : Fn Try.prog 7 #[v] w0 fun r w' => r = .bool true ∧ Below w0.heap.size w0 w' := by
  have hle := hs.le
  obtain ⟨a, c, rfl⟩ := hs.shape
  simp only [bv_length] at *
  have hL := Sep.start Try.prog w0
  have hB := Nat.le_refl w0.heap.size
  refine Fn.mk Try.func7 rfl (by kernel_rfl) Try.ntmps7 rfl (by rw [Try.results7]) ?_
  by_cases h0 : 3000 < b.length
  · repeat (first | (refine RunH ?_; intro w hL hB; try clear w) | (refine Both.mk ?_ ?_ <;> conv => whnf) | fail)
    exact ⟨rfl, hL.below⟩
  repeat (first | (refine RunH ?_; intro w hL hB; try clear w) | (refine Both.mk ?_ ?_ <;> conv => whnf) | fail)
  refine (readIndex_fn _ b _ hs (by omega)).mono fun r w1 ⟨⟨rv, hr, hs1⟩, hw⟩ => ?_
  subst hr
  have hs' := hs.below hw
  conv => whnf
  repeat (first | (refine RunH ?_; intro w hL hB; try clear w) | (refine Both.mk ?_ ?_ <;> conv => whnf) | fail)
  refine (readIndexR_fn _ b _ hs' (by omega)).mono fun r w2 ⟨⟨rv2, hr, hs2⟩, hw2⟩ => ?_
  subst hr
  have b2 := hw.trans (hw2.mono hw.size)
  have hs1 := hs1.below hw2
  conv => whnf
  repeat (first | (refine RunH ?_; intro w hL hB; try clear w) | (refine Both.mk ?_ ?_ <;> conv => whnf) | fail)
  refine (places_fn _ _ _ _ _ hs1 hs2 (idxS_ok b) (idxS_ok b)).mono fun r w3 ⟨hr, hw3⟩ => ?_
  subst hr
  rw [decide_eq_true rfl]
  have b3 := b2.trans (hw3.mono b2.size)
  conv => whnf
  repeat (first | (refine RunH ?_; intro w hL hB; try clear w) | (refine Both.mk ?_ ?_ <;> conv => whnf) | fail)
  refine (known_fn _).mono fun r w ⟨hr, hw⟩ => ?_
  subst hr
  conv => whnf
  repeat (first | (refine RunH ?_; intro w hL hB; try clear w) | (refine Both.mk ?_ ?_ <;> conv => whnf) | fail)
  exact ⟨rfl, b3.trans (hw.mono b3.size)⟩
end Go.Proofs.Ytlldgodjfpgbcaa
