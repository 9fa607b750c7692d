/- A slice of bytes that came in. Nothing is claimed here. -/
import Derived.Test.YtlldgodjfpgbcaaHa
import Derived.WideShapes
namespace Go.Proofs.Ytlldgodjfpgbcaa
open Go.RowKit
set_option linter.unusedVariables false
set_option linter.unusedSimpArgs false

theorem spot_of_ok {P : Program} {w : World} {base : Nat} {t e : TypeId} (ht : P.underlying t = some (.slice e)) {a : Addr} {n c : Nat} (h : Value.okWide P w .any base t (.slice (some a) n c)) : a.spot = none := by
  simp only [Value.okWide, ht, Cell.okWide, Cell.ok, World.has] at h
  exact h.2.2.2.1

theorem sl_of_open {P : Program} {w : World} {base : Nat} {t e : TypeId} (ht : P.underlying t = some (.slice e)) {a : Option Addr} {n c : Nat} {zs : List Int} (hok : Value.okWide P w .any base t (.slice a n c))
    (hrow : (a = none ∧ n = 0 ∧ c = 0 ∧ zs = []) ∨ ∃ x, a = some x ∧ n ≤ c ∧ c ≤ maxLen ∧ zs.length = c ∧ (∀ i, i < zs.length → w.cell? (x.add i) = some (.int .u8 (zs.getD i 0))) ∧ ∀ k ∈ zs, (Lit.int .u8 k).wf = true) :
    ∃ l : List UInt8, Sl w (.slice a n c) (bv l) := by
  rcases hrow with ⟨rfl, rfl, rfl, rfl⟩ | ⟨x, rfl, h1, h2, h3, h4, h5⟩
  · exact ⟨[], Sl.nil w⟩
  · have hs := spot_of_ok ht hok
    obtain ⟨b, o, s⟩ := x
    simp only at hs; subst hs
    refine ⟨(zs.take n).map fun k => UInt8.ofNat k.toNat, ?_⟩
    have e : bv ((zs.take n).map fun k => UInt8.ofNat k.toNat) = (zs.take n).map (Value.int .u8) := by
      unfold bv
      rw [List.map_map]
      refine List.map_congr_left fun k hk => ?_
      have hw := h5 k (List.mem_of_mem_take hk)
      have hb : 0 ≤ k ∧ k < 256 := by
        simp only [Lit.wf, IntKind.min, IntKind.max, IntKind.bits, IntKind.signed] at hw
        simp at hw
        omega
      exact (u8_mk k hb.1 hb.2).symm
    rw [e]
    refine Sl.some' (by simp; omega) (by simp; omega) h2 fun i v hv => ?_
    rw [List.getElem?_map, List.getElem?_take] at hv
    split at hv
    · rename_i hi
      have hz : i < zs.length := by omega
      have := h4 i hz
      rw [Addr.add_lit] at this
      rw [this]
      rw [List.getElem?_eq_getElem hz] at hv
      rw [← hv, List.getD_eq_getElem?_getD, List.getElem?_eq_getElem hz]
      rfl
    · simp at hv

end Go.Proofs.Ytlldgodjfpgbcaa
