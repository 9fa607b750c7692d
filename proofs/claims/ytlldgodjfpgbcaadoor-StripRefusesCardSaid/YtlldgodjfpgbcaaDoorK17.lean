/- What the laws of strip lean on: same, rows, roomy, stands, small, known. roomy, stands, known; StripCuts. Nothing is claimed here. -/
import Derived.Test.YtlldgodjfpgbcaaDoorK16
namespace Go.Proofs.YtlldgodjfpgbcaaDoor
open Go.RowKit
set_option linter.unusedVariables false
set_option linter.unusedSimpArgs false
set_option maxRecDepth 100000

theorem take_succ_eq {α : Type} [BEq α] {l m : List α} {k : Nat} (h : l.take k = m.take k) (hl : k < l.length) (hm : k < m.length) (he : l[k] = m[k]) : l.take (k + 1) = m.take (k + 1) := by
  rw [List.take_succ_eq_append_getElem hl, List.take_succ_eq_append_getElem hm, h, he]
theorem u8_ne {a b : UInt8} (h : a ≠ b) : ¬ ((a.toNat : Int) = b.toNat) := fun h1 => h (UInt8.toNat_inj.1 (by exact_mod_cast h1))

theorem same_fn (v1 v2 : Value) (l1 l2 : List UInt8) (w : World) (h1 : Sl w v1 (bv l1)) (h2 : Sl w v2 (bv l2)) :
    Fn Tryd.prog 12 #[v1, v2] w fun r w' => r = .bool (decide (l1 = l2)) ∧ Below w.heap.size w w' := by
  have hle1 := h1.le
  have hle2 := h2.le
  obtain ⟨a, cp, rfl⟩ := h1.shape
  obtain ⟨a2, cp2, rfl⟩ := h2.shape
  simp only [bv_length] at *
  refine Fn.mk Tryd.func12 rfl (by kernel_rfl) Tryd.ntmps12 rfl (by rw [Tryd.results12]) ?_
  refine RunR ?_
  refine Br.dec (fun h => ?_) (fun h => ?_)
  · have hlen : l1.length = l2.length := by omega
    refine RunR ?_
    refine V.loop (α := Nat) (fun k => [(0, .slice a l1.length cp), (1, .slice a2 l2.length cp2), (5, .int .i64 k)])
      (fun k w' => k ≤ l1.length ∧ l1.take k = l2.take k ∧ Below w.heap.size w w')
      (fun k => l1.length - k) 0 ⟨rfl, rfl, rfl, trivial⟩ ⟨by omega, rfl, Below.refl _ _⟩ ?_
    rintro k w2 ⟨hk, he, hW⟩
    refine RunR ?_
    refine Br.dec (fun h => ?_) (fun h => ?_)
    · have hkl : k < l1.length := by omega
      have hkm : k < l2.length := by omega
      obtain ⟨b', o, rfl, hr⟩ := (h1.below hW).addr (by omega)
      obtain ⟨b2, o2, rfl, hr2⟩ := (h2.below hW).addr (by omega)
      refine RunR ?_
      refine V.quiet ttOk (fun x => x = w2.drew) mixed (by kernel_rfl) rfl ?_
      conv => whnf
      refine RunR ?_
      intro o' ho'
      conv => whnf
      refine Lq.one ttOk tl5 rfl (Sl.lq hr (bv_get (List.getElem?_eq_getElem hkl)) (by omega)) ?_
      conv => whnf
      refine RunR ?_
      intro o4 ho4
      conv => whnf
      refine Lq.one ttOk tl5 rfl (Sl.lq hr2 (bv_get (List.getElem?_eq_getElem hkm)) (by omega)) ?_
      conv => whnf
      refine RunR ?_
      rintro w' rfl
      conv => whnf
      refine RunR ?_
      by_cases hx : l1[k] = l2[k]
      · rw [hx]
        refine RunR ?_
        exact ⟨k + 1, ⟨rfl, rfl, rfl, trivial⟩, ⟨by omega, take_succ_eq he hkl hkm hx, hW.drew⟩, (by first | omega | (dsimp only; omega))⟩
      · have hx' := u8_ne hx
        refine RunR ?_
        refine ⟨?_, hW.drew⟩
        rw [decide_eq_false]
        rintro rfl
        exact hx rfl
    · obtain rfl : k = l1.length := by omega
      refine RunR ?_
      refine ⟨?_, hW⟩
      rw [List.take_length, hlen, List.take_length] at he
      rw [decide_eq_true he]
  · refine RunR ?_
    refine ⟨?_, Below.refl _ _⟩
    rw [decide_eq_false]
    rintro rfl
    exact h rfl

theorem rows_fn (v1 v2 : Value) (L1 L2 : List (List UInt8)) (w : World) (h1 : SS w v1 L1) (h2 : SS w v2 L2) :
    Fn Tryd.prog 13 #[v1, v2] w fun r w' => r = .bool (decide (L1 = L2)) ∧ Below w.heap.size w w' := by
  obtain ⟨us, hu, hi⟩ := h1.of
  obtain ⟨us2, hu2, hi2⟩ := h2.of
  have hle1 := hu.le
  have hle2 := hu2.le
  obtain ⟨a, cp, rfl⟩ := hu.shape
  obtain ⟨a2, cp2, rfl⟩ := hu2.shape
  rw [hi.len] at hu hle1 ⊢
  rw [hi2.len] at hu2 hle2 ⊢
  refine Fn.mk Tryd.func13 rfl (by kernel_rfl) Tryd.ntmps13 rfl (by rw [Tryd.results13]) ?_
  refine RunR ?_
  refine Br.dec (fun h => ?_) (fun h => ?_)
  · have hlen : L1.length = L2.length := by omega
    refine RunR ?_
    refine V.loop (α := Nat) (fun k => [(0, .slice a L1.length cp), (1, .slice a2 L2.length cp2), (5, .int .i64 k)])
      (fun k w' => k ≤ L1.length ∧ L1.take k = L2.take k ∧ Below w.heap.size w w')
      (fun k => L1.length - k) 0 ⟨rfl, rfl, rfl, trivial⟩ ⟨by omega, rfl, Below.refl _ _⟩ ?_
    rintro k w2 ⟨hk, he, hW⟩
    refine RunR ?_
    refine Br.dec (fun h => ?_) (fun h => ?_)
    · have hkl : k < L1.length := by omega
      have hkm : k < L2.length := by omega
      obtain ⟨b', o, rfl, hr⟩ := (hu.below hW).addr (by omega)
      obtain ⟨b2, o2, rfl, hr2⟩ := (hu2.below hW).addr (by omega)
      obtain ⟨x1, hx1, hs1⟩ := (hi.below hW).get (List.getElem?_eq_getElem hkl)
      obtain ⟨x2, hx2, hs2⟩ := (hi2.below hW).get (List.getElem?_eq_getElem hkm)
      refine RunR ?_
      refine V.tail ttOk 8 mixed (by kernel_rfl) ?_
      conv => whnf
      refine RunR ?_
      intro o' ho'
      conv => whnf
      refine Lq.one ttOk tl22 rfl (Sl.lq hr hx1 (by omega)) ?_
      conv => whnf
      refine RunR ?_
      intro o4 ho4
      conv => whnf
      refine Lq.one ttOk tl22 rfl (Sl.lq hr2 hx2 (by omega)) ?_
      conv => whnf
      refine (same_fn x1 x2 L1[k] L2[k] w2.drew ⟨hs1.of⟩ ⟨hs2.of⟩).mono fun r w3 ⟨hr, hW3⟩ => ?_
      subst hr
      have hW' := hW.drew.trans (hW3.mono hW.size)
      conv => whnf
      refine RunR ?_
      by_cases hx : L1[k] = L2[k]
      · rw [decide_eq_true hx]
        refine RunR ?_
        exact ⟨k + 1, ⟨rfl, rfl, rfl, trivial⟩, ⟨by omega, take_succ_eq he hkl hkm hx, hW'⟩, (by first | omega | (dsimp only; omega))⟩
      · rw [decide_eq_false hx]
        refine RunR ?_
        refine ⟨?_, hW'⟩
        rw [decide_eq_false]
        rintro rfl
        exact hx rfl
    · obtain rfl : k = L1.length := by omega
      refine RunR ?_
      refine ⟨?_, hW⟩
      rw [List.take_length, hlen, List.take_length] at he
      rw [decide_eq_true he]
  · refine RunR ?_
    refine ⟨?_, Below.refl _ _⟩
    rw [decide_eq_false]
    rintro rfl
    exact h rfl

theorem small_fn (k m : Int) (w : World) :
    Fn Tryd.prog 6 #[.int .i64 k, .int .i64 m] w fun r w' => r = .bool (decide (k < 20 ∧ m < 20 ∧ -20 < k ∧ -20 < m)) ∧ w' = w := by
  refine Fn.mk Tryd.func6 rfl (by kernel_rfl) Tryd.ntmps6 rfl (by rw [Tryd.results6]) ?_
  by_cases h1 : k < 20
  · by_cases h2 : m < 20
    · by_cases h3 : -20 < k
      · by_cases h4 : -20 < m
        · refine RunR ?_
          exact ⟨by simp [h1, h2, h3, h4], rfl⟩
        · refine RunR ?_
          exact ⟨by simp [h1, h2, h3, h4], rfl⟩
      · refine RunR ?_
        exact ⟨by simp [h1, h2, h3], rfl⟩
    · refine RunR ?_
      exact ⟨by simp [h1, h2], rfl⟩
  · refine RunR ?_
    exact ⟨by simp [h1], rfl⟩

end Go.Proofs.YtlldgodjfpgbcaaDoor
namespace Go.Proofs.YtlldgodjfpgbcaaDoor
open Go.RowKit
set_option linter.unusedVariables false
set_option linter.unusedSimpArgs false
set_option maxRecDepth 100000

theorem cutB_rows (b : List UInt8) (k m : Nat) (hk : 0 < k) (hb : 0 < b.length) : (cutB b k m).length = k + m ∧ ∀ l ∈ cutB b k m, l.length = 16 * hgt b.length k := by
  refine ⟨by simp [cutB, cutD, colsB, sumsB], fun l hl => ?_⟩
  rcases List.mem_append.1 hl with h | h
  · exact cutD_len b k hk hb l h
  · obtain ⟨i, _, rfl⟩ := List.mem_map.1 h
    exact blendB_len _ _ _ (cutD_len b k hk hb)

theorem known_fn (w : World) : Fn Tryd.prog 8 #[] w fun r w' => r = .bool true ∧ Below w.heap.size w w' := by
  refine Fn.mk Tryd.func8 rfl (by kernel_rfl) Tryd.ntmps8 rfl (by rw [Tryd.results8]) ?_
  refine RunR ?_
  refine Rv.make ttOk 40 40 tl22 tl5 rfl rfl rfl (Nat.le_refl _) (by omega) (by simp only [maxLen]; omega) fun w1 ho hg => ?_
  have hB1 : Below w.heap.size w w1 := below_of_grown0 hg (Nat.le_refl _)
  have e : List.replicate 40 (Value.int .u8 0) = bv (List.replicate 40 0) := by simp [bv, u8]
  rw [e] at ho
  conv => whnf
  refine (cut_fn _ (List.replicate 40 0) 2 1 (by decide) (by decide) (by decide) (by decide) w1 (Sl.of_own ho)).mono fun r w2 ⟨u, hr, hss, hW⟩ => ?_
  subst hr
  obtain ⟨hlen, hrow⟩ := cutB_rows (List.replicate 40 0) 2 1 (by decide) (by decide)
  have hh : hgt (List.replicate 40 (0 : UInt8)).length 2 = 2 := by decide
  rw [hh] at hrow
  obtain ⟨us, hs, hi⟩ := hss.of
  have hul := hi.len
  have hle := hs.le
  obtain ⟨a, c, rfl⟩ := hs.shape
  rw [hul, hlen] at hs ⊢
  obtain ⟨b1, o1, rfl, hr1⟩ := hs.addr (by omega)
  obtain ⟨x0, hx0, hs0⟩ := hi.get (List.getElem?_eq_getElem (by omega : 0 < (cutB (List.replicate 40 0) 2 1).length))
  obtain ⟨x2, hx2, hs2⟩ := hi.get (List.getElem?_eq_getElem (by omega : 2 < (cutB (List.replicate 40 0) 2 1).length))
  have l0 := hrow _ (List.getElem_mem (by omega : 0 < (cutB (List.replicate 40 0) 2 1).length))
  have l2 := hrow _ (List.getElem_mem (by omega : 2 < (cutB (List.replicate 40 0) 2 1).length))
  obtain ⟨a0, c0, rfl⟩ := hs0.shape
  obtain ⟨a2, c2, rfl⟩ := hs2.shape
  rw [bv_length, l0] at hx0
  rw [bv_length, l2] at hx2
  conv => whnf
  refine RunR ?_
  intro o' ho'
  conv => whnf
  refine RunR ?_
  refine Ld.one ttOk tl22 rfl (hr1.at hx0 (by omega)) ?_
  conv => whnf
  refine RunR ?_
  intro o2 ho2
  conv => whnf
  refine RunR ?_
  refine Ld.one ttOk tl22 rfl (hr1.at hx2 (by omega)) ?_
  conv => whnf
  refine RunR ?_
  exact ⟨rfl, hB1.trans (hW.mono hB1.size)⟩

end Go.Proofs.YtlldgodjfpgbcaaDoor
