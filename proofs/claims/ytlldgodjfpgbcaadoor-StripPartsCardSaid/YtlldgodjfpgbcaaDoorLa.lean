/- roomy, stands, known; StripCuts. Nothing is claimed here. -/
import Derived.Test.YtlldgodjfpgbcaaDoorL
namespace Go.Proofs.YtlldgodjfpgbcaaDoor
open Go.RowKit
set_option linter.unusedVariables false
set_option linter.unusedSimpArgs false
set_option maxRecDepth 100000

theorem cutB_rows (b : List UInt8) (k m : Nat) (hk : 0 < k) (hb : 0 < b.length) : (cutB b k m).length = k + m ∧ ∀ l ∈ cutB b k m, l.length = 16 * hgt b.length k := by
  refine ⟨by simp [cutB, cutD, colsB, sumsB], fun l hl => ?_⟩
  rcases List.mem_append.1 hl with h | h
  · exact cutD_len b k hk hb l h
  · obtain ⟨i, _, rfl⟩ := List.mem_map.1 h
    exact blendB_len _ _ _ (cutD_len b k hk hb)

theorem known_fn (w : World) : Fn Tryd.prog 8 #[] w fun r w' => r = .bool true ∧ Below w.heap.size w w' := by
  refine Fn.mk Tryd.func8 rfl (by kernel_rfl) Tryd.ntmps8 rfl (by rw [Tryd.results8]) ?_
  refine RunR ?_
  refine Rv.make ttOk 40 40 tl22 tl5 rfl rfl rfl (Nat.le_refl _) (by omega) (by simp only [maxLen]; omega) fun w1 ho hg => ?_
  have hB1 : Below w.heap.size w w1 := below_of_grown0 hg (Nat.le_refl _)
  have e : List.replicate 40 (Value.int .u8 0) = bv (List.replicate 40 0) := by simp [bv, u8]
  rw [e] at ho
  conv => whnf
  refine (cut_fn _ (List.replicate 40 0) 2 1 (by decide) (by decide) (by decide) (by decide) w1 (Sl.of_own ho)).mono fun r w2 ⟨u, hr, hss, hW⟩ => ?_
  subst hr
  obtain ⟨hlen, hrow⟩ := cutB_rows (List.replicate 40 0) 2 1 (by decide) (by decide)
  have hh : hgt (List.replicate 40 (0 : UInt8)).length 2 = 2 := by decide
  rw [hh] at hrow
  obtain ⟨us, hs, hi⟩ := hss.of
  have hul := hi.len
  have hle := hs.le
  obtain ⟨a, c, rfl⟩ := hs.shape
  rw [hul, hlen] at hs ⊢
  obtain ⟨b1, o1, rfl, hr1⟩ := hs.addr (by omega)
  obtain ⟨x0, hx0, hs0⟩ := hi.get (List.getElem?_eq_getElem (by omega : 0 < (cutB (List.replicate 40 0) 2 1).length))
  obtain ⟨x2, hx2, hs2⟩ := hi.get (List.getElem?_eq_getElem (by omega : 2 < (cutB (List.replicate 40 0) 2 1).length))
  have l0 := hrow _ (List.getElem_mem (by omega : 0 < (cutB (List.replicate 40 0) 2 1).length))
  have l2 := hrow _ (List.getElem_mem (by omega : 2 < (cutB (List.replicate 40 0) 2 1).length))
  obtain ⟨a0, c0, rfl⟩ := hs0.shape
  obtain ⟨a2, c2, rfl⟩ := hs2.shape
  rw [bv_length, l0] at hx0
  rw [bv_length, l2] at hx2
  conv => whnf
  refine RunR ?_
  intro o' ho'
  conv => whnf
  refine RunR ?_
  refine Ld.one ttOk tl22 rfl (hr1.at hx0 (by omega)) ?_
  conv => whnf
  refine RunR ?_
  intro o2 ho2
  conv => whnf
  refine RunR ?_
  refine Ld.one ttOk tl22 rfl (hr1.at hx2 (by omega)) ?_
  conv => whnf
  refine RunR ?_
  exact ⟨rfl, hB1.trans (hW.mono hB1.size)⟩

end Go.Proofs.YtlldgodjfpgbcaaDoor
