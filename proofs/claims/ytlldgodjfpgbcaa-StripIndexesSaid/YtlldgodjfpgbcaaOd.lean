/- Slices of structs that came in. Nothing is claimed here. -/
import Derived.Test.YtlldgodjfpgbcaaO
namespace Go.Proofs.Ytlldgodjfpgbcaa
set_option linter.unusedVariables false
set_option linter.unusedSimpArgs false
theorem structs_open {T : Tab} {w : World} {t e : TypeId} {a : Option Addr} {n c d s b b1 sz : Nat} {z z1 : Value} {sh : Sh} (ht : look T t = some ⟨.slice e, s, b, z⟩) (he : look T e = some ⟨sh, sz, b1, z1⟩) (hsz : 0 < sz) {α : Type} (p0 : α) {f : α → List Value} (hf : ∀ s, (f s).length = sz) {Ok : α → Prop}
    (hel : ∀ es, opn T w d e es → ∃ p, es = f p ∧ Ok p) (hsp : ∀ x, a = some x → x.spot = none) (h : opn T w (d + 1) t [.slice a n c]) : ∃ l : List α, SlN w sz (.slice a n c) l.length (l.flatMap f) ∧ ∀ p ∈ l, Ok p := by
  unfold opn at h
  simp only [ht, he] at h
  rcases h with h | ⟨x, n', c', h, h1, h2, h3⟩
  · injection h with h
    injection h with e1 e2 e3
    subst e1; subst e2; subst e3
    exact ⟨[], SlN.nil w sz, by simp⟩
  · injection h with h
    injection h with e1 e2 e3
    subst e1; subst e2; subst e3
    have hs := hsp x rfl
    obtain ⟨bb, o, s⟩ := x
    simp only at hs; subst hs
    have hev : ∀ i, i < n → ∃ p : α, (∀ (j : Nat) (x : Value), (f p)[j]? = some x → w.cell? ⟨bb, o + (i * sz + j), none⟩ = some x) ∧ Ok p := fun i hi => by
      obtain ⟨es, q1, q2, q3⟩ := h3 i (by omega)
      obtain ⟨p, rfl, q4⟩ := hel _ q3
      refine ⟨p, fun j x hx => ?_, q4⟩
      have := q2 j x hx
      rwa [Addr.add_lit, Addr.add_lit, Nat.add_assoc] at this
    refine ⟨(List.range n).map fun i => if h : i < n then (hev i h).choose else p0, ?_, ?_⟩
    · have hl : ((List.range n).map fun i => if h : i < n then (hev i h).choose else p0).length = n := by simp
      rw [hl]
      refine SlN.some' (by rw [flat_len hf, hl]) h1 h2 fun k x hx => ?_
      have hk : k < n * sz := by have := (List.getElem?_eq_some_iff.1 hx).1; rw [flat_len hf, hl] at this; exact this
      have hkn : k / sz < n := (Nat.div_lt_iff_lt_mul hsz).2 hk
      have hkk : k = k / sz * sz + k % sz := by rw [Nat.mul_comm]; exact (Nat.div_add_mod k sz).symm
      rw [hkk, flat_get hf (k := k / sz) (s := (hev (k / sz) hkn).choose) (k % sz) (by simp [hkn]) (Nat.mod_lt _ hsz)] at hx
      have := (hev (k / sz) hkn).choose_spec.1 (k % sz) x hx
      rwa [← hkk] at this
    · intro p hp
      obtain ⟨i, hi, rfl⟩ := List.mem_map.1 hp
      have hin := List.mem_range.1 hi
      simp only [hin, dif_pos]
      exact (hev i hin).choose_spec.2
end Go.Proofs.Ytlldgodjfpgbcaa
