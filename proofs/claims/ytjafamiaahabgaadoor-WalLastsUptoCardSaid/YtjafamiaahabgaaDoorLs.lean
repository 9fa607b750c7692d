/- same of a law's package. Nothing is claimed here. -/
import Derived.Test.YtjafamiaahabgaaDoorSc
namespace Go.Proofs.YtjafamiaahabgaaDoor
open Go.RowKit
set_option linter.unusedVariables false
set_option linter.unusedSimpArgs false
set_option maxRecDepth 100000

theorem take_succ_eq {α : Type} [BEq α] {l m : List α} {k : Nat} (h : l.take k = m.take k) (hl : k < l.length) (hm : k < m.length) (he : l[k] = m[k]) : l.take (k + 1) = m.take (k + 1) := by
  rw [List.take_succ_eq_append_getElem hl, List.take_succ_eq_append_getElem hm, h, he]
theorem u8_ne {a b : UInt8} (h : a ≠ b) : ¬ ((a.toNat : Int) = b.toNat) := fun h1 => h (UInt8.toNat_inj.1 (by exact_mod_cast h1))

theorem same_fn (v1 v2 : Value) (l1 l2 : List UInt8) (w : World) (h1 : Sl w v1 (bv l1)) (h2 : Sl w v2 (bv l2)) :
    Fn Tryd.prog 11 #[v1, v2] w fun r w' => r = .bool (decide (l1 = l2)) ∧ Below w.heap.size w w' := by
  have hle1 := h1.le
  have hle2 := h2.le
  obtain ⟨a, cp, rfl⟩ := h1.shape
  obtain ⟨a2, cp2, rfl⟩ := h2.shape
  simp only [bv_length] at *
  refine Fn.mk Tryd.func11 rfl (by kernel_rfl) Tryd.ntmps11 rfl (by rw [Tryd.results11]) ?_
  refine RunR ?_
  refine Br.dec (fun h => ?_) (fun h => ?_)
  · have hlen : l1.length = l2.length := by omega
    refine RunR ?_
    refine V.loop (α := Nat) (fun k => [(0, .slice a l1.length cp), (1, .slice a2 l2.length cp2), (5, .int .i64 k)])
      (fun k w' => k ≤ l1.length ∧ l1.take k = l2.take k ∧ Below w.heap.size w w')
      (fun k => l1.length - k) 0 ⟨rfl, rfl, rfl, trivial⟩ ⟨by omega, rfl, Below.refl _ _⟩ ?_
    rintro k w2 ⟨hk, he, hW⟩
    refine RunR ?_
    refine Br.dec (fun h => ?_) (fun h => ?_)
    · have hkl : k < l1.length := by omega
      have hkm : k < l2.length := by omega
      obtain ⟨b', o, rfl, hr⟩ := (h1.below hW).addr (by omega)
      obtain ⟨b2, o2, rfl, hr2⟩ := (h2.below hW).addr (by omega)
      refine RunR ?_
      refine V.quiet ttOk (fun x => x = w2.drew) mixed (by kernel_rfl) rfl ?_
      conv => whnf
      refine RunR ?_
      intro o' ho'
      conv => whnf
      refine Lq.one ttOk tl5 rfl (Sl.lq hr (bv_get (List.getElem?_eq_getElem hkl)) (by omega)) ?_
      conv => whnf
      refine RunR ?_
      intro o4 ho4
      conv => whnf
      refine Lq.one ttOk tl5 rfl (Sl.lq hr2 (bv_get (List.getElem?_eq_getElem hkm)) (by omega)) ?_
      conv => whnf
      refine RunR ?_
      rintro w' rfl
      conv => whnf
      refine RunR ?_
      by_cases hx : l1[k] = l2[k]
      · rw [hx]
        refine RunR ?_
        exact ⟨k + 1, ⟨rfl, rfl, rfl, trivial⟩, ⟨by omega, take_succ_eq he hkl hkm hx, hW.drew⟩, (by first | omega | (dsimp only; omega))⟩
      · have hx' := u8_ne hx
        refine RunR ?_
        refine ⟨?_, hW.drew⟩
        rw [decide_eq_false]
        rintro rfl
        exact hx rfl
    · obtain rfl : k = l1.length := by omega
      refine RunR ?_
      refine ⟨?_, hW⟩
      rw [List.take_length, hlen, List.take_length] at he
      rw [decide_eq_true he]
  · refine RunR ?_
    refine ⟨?_, Below.refl _ _⟩
    rw [decide_eq_false]
    rintro rfl
    exact h rfl
end Go.Proofs.YtjafamiaahabgaaDoor
