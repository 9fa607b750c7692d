/- Shards that come in. Nothing is claimed here. -/
import Derived.Test.YtlldgodjfpgbcaaDoorK28
import Derived.Test.YtlldgodjfpgbcaaDoorK29
namespace Go.Proofs.YtlldgodjfpgbcaaDoor
set_option linter.unusedVariables false
set_option linter.unusedSimpArgs false
theorem rows_ss {w : World} {v : Value} {xs : List (Value × List UInt8)} (h1 : Sl w v (xs.map (·.1))) (h2 : ∀ p ∈ xs, Sl w p.1 (bv p.2)) : SS w v (xs.map (·.2)) := by
  refine ⟨_, h1, by simp, fun i u l hu hl => ?_⟩
  rw [List.getElem?_map] at hu hl
  cases hx : xs[i]? with
  | none => rw [hx] at hu; cases hu
  | some p =>
    rw [hx] at hu hl
    injection hu with hu
    injection hl with hl
    subst hu; subst hl
    exact h2 p (List.mem_of_getElem? hx)
theorem flat_fst2 {α : Type} : ∀ l : List (Value × α), (l.flatMap fun p => [p.1]) = l.map (·.1)
  | [] => rfl
  | b :: l => by simp only [List.flatMap_cons, flat_fst2 l]; rfl
/-- shards -/
theorem s3_open {w : World} {S d : Nat} {v : Value} (h : opz Tryd.prog TT S w (d + 4) 25 [v]) : ∃ ls, S3 w v ls ∧ ∀ l ∈ ls, ∀ r ∈ l, r.length ≤ S := by
  obtain ⟨l, h1, h2, _⟩ := sl_open (α := Value × List (List UInt8)) tl25 tl29 (by decide) (fun p => [p.1]) (fun _ => rfl) (fun p => SS w p.1 p.2 ∧ ∀ r ∈ p.2, r.length ≤ S) (fun es hl h => by
    obtain ⟨u, rfl⟩ := List.length_eq_one_iff.1 hl
    obtain ⟨xs, g1, g2⟩ := rows_open (d := d) h
    refine ⟨(u, xs.map (·.2)), rfl, rows_ss g1 fun p hp => (g2 p hp).1, fun r hr => ?_⟩
    obtain ⟨p, hp, rfl⟩ := List.mem_map.1 hr
    exact (g2 p hp).2) h
  rw [flat_fst2] at h1
  refine ⟨l.map (·.2), ⟨_, h1.to1, by simp, fun i u x hu hx => ?_⟩, fun x hx r hr => ?_⟩
  · rw [List.getElem?_map] at hu hx
    cases hg : l[i]? with
    | none => rw [hg] at hu; cases hu
    | some p =>
      rw [hg] at hu hx
      injection hu with hu
      injection hx with hx
      subst hu; subst hx
      exact (h2 p (List.mem_of_getElem? hg)).1
  · obtain ⟨p, hp, rfl⟩ := List.mem_map.1 hx
    exact (h2 p hp).2 r hr
end Go.Proofs.YtlldgodjfpgbcaaDoor
