/- Literals of arrays and structs. Nothing is claimed here. -/
import Derived.Test.YtlldgodjfpgbcaaHc
import Derived.Test.YtlldgodjfpgbcaaVu
import Derived.Laws.BytesArg
namespace Go.Proofs.Ytlldgodjfpgbcaa
set_option linter.unusedVariables false
set_option linter.unusedSimpArgs false

def mkB (l : List UInt8) : ByteArray := ⟨l.toArray⟩

section
variable {P : Program} {T : Tab} (hT : TabOk P T)
include hT
theorem Qv.arr {K : Value → Prop} {t e : TypeId} {n s b sz by' : Nat} {z ez : Value} {sh : Sh} {ps : Array (Nat × Value)} {cells : Array Value} (ht : look T t = some ⟨.array n e, s, b, z⟩) (he : look T e = some ⟨sh, sz, by', ez⟩)
    (hf : Instr.fill (fun i => some (i * sz, sz)) z.cells ps.toList = some cells) (hk : K (.agg cells)) : Qv P (Instr.build t ps) K := by
  refine Qv.mk (.agg cells) (fun w => ?_) hk
  obtain ⟨u, hu, hs⟩ := shOf_cases hT ht
  cases u <;> simp only [shOf, reduceCtorEq, Sh.array.injEq] at hs
  obtain ⟨rfl, rfl⟩ := hs
  have hzz := (hT _ _ ht).run_zero w
  have hsz := (hT _ _ he).run_size w
  simp only [Instr.build, Sem.run_bind, hzz, run_underlying hu, Result.andThen_ok, hsz, hf, Sem.run_pure]

/-- bytes as a text -/
theorem toStr_run {w : World} {t u e : TypeId} {s b s1 b1 s2 b2 : Nat} {z z1 z2 : Value} (ht : look T t = some ⟨.slice e, s, b, z⟩) (he : look T e = some ⟨.int .u8, s1, b1, z1⟩) (hu : look T u = some ⟨.str, s2, b2, z2⟩) {v : Value} {l : List UInt8} (h : Sl w v (bv l)) :
    (convert t u v).run P w = .ok (.string (mkB l)) w := by
  have ht' := und_slice hT ht
  obtain ⟨x, hx, hs⟩ := shOf_cases hT he
  cases x <;> simp only [shOf, reduceCtorEq, Sh.int.injEq] at hs
  subst hs
  obtain ⟨y, hy, hs⟩ := shOf_cases hT hu
  cases y <;> simp only [shOf, reduceCtorEq] at hs
  rcases h.cases with ⟨rfl, h2⟩ | ⟨b, o, c, rfl, h1, h2, h3⟩
  · have : l = [] := by simpa [bv] using h2
    subst this
    have := run_convert_bytes_nil (P := P) w t e ht' hx 0 0 u hy
    rw [this]; rfl
  · have := run_convert_bytes_arg (P := P) w t e ht' hx b o l.length c (l.map fun b => (b.toNat : Int)) (by simp) (fun i hi => by
      have := h3 i (u8 l[i]) (by simp [bv, hi])
      rw [this]
      simp [u8, hi]) u hy
    simp only [bv_length]
    rw [this]
    congr 1
    simp only [strOfNums, mkB, List.map_map, Value.string.injEq, ByteArray.mk.injEq, Array.mk.injEq]
    conv => rhs; rw [← List.map_id l]
    refine List.map_congr_left fun b _ => ?_
    simp
theorem Rv.toStr {w : World} {K : Value → World → Prop} {t u e : TypeId} {s b s1 b1 s2 b2 : Nat} {z z1 z2 : Value} (ht : look T t = some ⟨.slice e, s, b, z⟩) (he : look T e = some ⟨.int .u8, s1, b1, z1⟩) (hu : look T u = some ⟨.str, s2, b2, z2⟩) {v : Value} {l : List UInt8} (h : Sl w v (bv l))
    (hk : K (.string (mkB l)) w) : Rv P (convert t u v) w K := Rv.mk (toStr_run hT ht he hu h) hk
theorem Rq.toStr {C : World → Prop} {K : Value → Prop} {t u e : TypeId} {s b s1 b1 s2 b2 : Nat} {z z1 z2 : Value} (ht : look T t = some ⟨.slice e, s, b, z⟩) (he : look T e = some ⟨.int .u8, s1, b1, z1⟩) (hu : look T u = some ⟨.str, s2, b2, z2⟩) {v : Value} {l : List UInt8} (h : ∀ w, C w → Sl w v (bv l))
    (hk : K (.string (mkB l))) : Rq P C (convert t u v) K := Rq.mk _ (fun w' hw => toStr_run hT ht he hu (h w' hw)) hk
end
end Go.Proofs.Ytlldgodjfpgbcaa
