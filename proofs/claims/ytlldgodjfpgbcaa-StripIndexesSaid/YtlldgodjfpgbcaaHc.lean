/- copy into a row of one's own; append of noughts. Nothing is claimed here. -/
import Derived.Test.YtlldgodjfpgbcaaHb
import Derived.Laws.CopyRow
import Derived.Lib.AppendZerosOnto
namespace Go.Proofs.Ytlldgodjfpgbcaa
open Go.RowKit
set_option linter.unusedVariables false
set_option linter.unusedSimpArgs false

section
variable {P : Program} {T : Tab} (hT : TabOk P T)
include hT
theorem Rv.copy {w : World} {K : Value → World → Prop} {t e ty : TypeId} {s b by' : Nat} {z ez : Value} {sh : Sh} (ht : look T t = some ⟨.slice e, s, b, z⟩) (he : look T e = some ⟨sh, 1, by', ez⟩)
    {base g n cap : Nat} {xs : List Value} (hown : w.ownsRow base e 1 (.slice (some ⟨g, 0, none⟩) n cap) n xs) {x : Value} {cs : List Value} (hs : Sl w x cs) (h1 : ∀ u ∈ cs, u.oneCell' = true) (hle : cs.length ≤ n)
    (hk : ∀ w', w'.ownsRow base e 1 (.slice (some ⟨g, 0, none⟩) n cap) n (cs ++ xs.drop cs.length) → w.grownBy w' (some g) → K (.int .i64 cs.length) w') :
    Rv P (Builtin.copy_ #[t, t] ty #[.slice (some ⟨g, 0, none⟩) n cap, x]) w K := by
  have hu := und_slice hT ht
  obtain ⟨i, hi, hiz, his, hib⟩ := (hT _ _ he).inf
  have hsz : (P.info? e).map (·.size) = some 1 := by rw [hi]; simp [his]
  rcases hs.cases with ⟨rfl, rfl⟩ | ⟨b', o, c, rfl, e1, e2, hr⟩
  · refine Rv.mk (run_copy_nil (P := P) w t t ty e ⟨g, 0, none⟩ n cap hu (by rw [hi]; rfl)) (hk w (by simpa using hown) ⟨rfl, rfl, rfl, Nat.le_refl _, fun _ _ _ => rfl⟩)
  · rcases hown.2 with ⟨h', _⟩ | ⟨g', cap', cur, h', hb, hg, hnc, hcm, hcs, htake⟩
    · simp at h'
    simp only [Value.slice.injEq, Option.some.injEq, Addr.mk.injEq, and_true, true_and] at h'
    obtain ⟨rfl, rfl⟩ := h'
    have hn : cs.length = Nat.min cs.length n := (Nat.min_eq_left hle).symm
    have hr2 := run_copy_row (P := P) w t t ty e g 0 n cap ⟨b', o, none⟩ cs.length c cur e cs hu hsz hg hn (fun j v hj => by rw [Addr.add_lit]; exact hr j v hj) (by omega) h1
    simp only [List.take_zero, List.nil_append, Nat.zero_add] at hr2
    refine Rv.mk hr2 (hk _ ⟨?_, .inr ⟨g, cap, _, rfl, hb, setRow_heap w g cur _ e _ hg, hnc, hcm, ?_, ?_⟩⟩ ⟨rfl, rfl, rfl, by simp, fun k _ hk => setRow_other w g k _ (fun e => hk (by simp [e]))⟩)
    · have := hown.1; simp; omega
    · simp only [List.size_toArray, List.length_append, List.length_drop, Array.length_toList]; omega
    · rw [← htake, List.drop_take, List.take_append, List.take_of_length_le (by omega)]

theorem Rv.appendZ {w : World} {K : Value → World → Prop} {t e ty tn : TypeId} {s b by' : Nat} {z ez : Value} {sh : Sh} {kn kq : IntKind} (ht : look T t = some ⟨.slice e, s, b, z⟩) (he : look T e = some ⟨sh, 1, by', ez⟩) (htn : P.underlying tn = some (.int kn)) (hz : cellsL ez = [ez]) (hz1 : ez.oneCell' = true)
    {base n : Nat} {v : Value} {xs : List Value} (hown : w.ownsRow base e 1 v n xs) {m : Nat} {mi : Int} (hm : mi = m)
    (h63 : n + m ≤ maxLen) (hby : (n + m) * by' ≤ 140737488355328) (hbase : base ≤ w.heap.size)
    (hk : ∀ v' w', w'.ownsRow base e 1 v' (n + m) (xs ++ List.replicate m ez) → w.grownBy w' v.ownBlock → (v'.ownBlock = v.ownBlock ∨ v'.ownBlock = some w.heap.size) → K v' w') :
    Rv P (Builtin.append_ #[t, tn] ty #[v, .int kq mi]) w K := by
  subst hm
  have hu := und_slice hT ht
  obtain ⟨i, hi, hiz, his, hib⟩ := (hT _ _ he).inf
  dsimp only at his hib
  have hez : ez.cells = #[ez] := by rw [cellsL_eq, hz]
  have hzc : ∀ q, Builtin.zeroCells ez.cells q = (List.replicate q ez).toArray := by
    intro q
    rw [hez]
    apply Array.ext'
    simp only [Builtin.zeroCells, List.size_toArray, List.length_singleton, Nat.mul_one]
    apply List.ext_getElem?
    intro j
    by_cases hj : j < q
    · simp [hj, Nat.mod_one]
    · simp [hj]
  have hby2 : m * i.bytes ≤ 140737488355328 := Nat.le_trans (Nat.mul_le_mul_right _ (Nat.le_add_left m n)) (by rw [hib]; exact hby)
  have hw : IntKind.i64.wrap (m : Int) = m := by rw [IntKind.wrap_i64]; simp only [maxLen] at h63; omega
  have h48i : ¬ (281474976710656 < (m : Int) * (i.bytes : Int)) := by rw [← Int.natCast_mul]; omega
  have hneg : ¬ ((m : Int) < 0) := by omega
  have grown : ∀ (cap : Nat), n + m ≤ cap → cap ≤ maxLen → ∀ (row : Option Nat),
      (w.drew.alloc (.cells ((xs ++ List.replicate m ez).toArray ++ Builtin.zeroCells ez.cells (cap - (n + m))) e)).ownsRow base e 1 (.slice (some ⟨w.heap.size, 0, none⟩) (n + m) cap) (n + m) (xs ++ List.replicate m ez) ∧
      w.grownBy (w.drew.alloc (.cells ((xs ++ List.replicate m ez).toArray ++ Builtin.zeroCells ez.cells (cap - (n + m))) e)) row := by
    intro cap h1 h2 row
    have hl := hown.1
    refine ⟨⟨by simp; omega, .inr ⟨w.heap.size, _, _, rfl, hbase, heap_alloc_new w.drew _, h1, h2, ?_, ?_⟩⟩, ⟨rfl, rfl, rfl, by simp, fun k hk _ => Below.heap_alloc w.drew _ k hk⟩⟩
    · rw [hzc]; simp; omega
    · rw [hzc]
      simp only [List.append_toArray]
      rw [List.take_left' (by simp; omega)]
  simp only [maxLen] at h63
  by_cases hm0 : m = 0
  · subst hm0
    have hl := hown.1
    refine Rv.mk (w' := w) (v := v) ?_ (hk v w (by simpa using hown) ⟨rfl, rfl, rfl, Nat.le_refl _, fun _ _ _ => rfl⟩ (.inl rfl))
    rcases hown.2 with ⟨rfl, rfl⟩ | ⟨g, cap, cur, rfl, hbg, hg, hnc, hcm, hcs, htake⟩
    · have hw0 : IntKind.i64.wrap 0 = 0 := by decide
      simp [Builtin.append_, run_underlying hu, run_underlying htn, sizeOf, typeInfo, hi, asInt, asIntOf, hw0]
    · have hw0 : IntKind.i64.wrap 0 = 0 := by decide
      simp [Builtin.append_, run_underlying hu, run_underlying htn, sizeOf, typeInfo, hi, asInt, asIntOf, hw0, hnc, storeCells]
  · rcases hown.2 with ⟨rfl, rfl⟩ | ⟨g, cap, cur, rfl, hbg, hg, hnc, hcm, hcs, htake⟩
    · have hx : xs = [] := List.eq_nil_of_length_eq_zero (by simpa using hown.1)
      subst hx
      have hr := Lib.run_append_nil_zeros (P := P) w t tn ty e i ez kq kn hu htn hi hiz m (by omega) (by omega) (by omega) (by omega)
      have hge := grownCap_ge w m 0 e
      have hcm := grownCap_le_maxLen w m 0 e (by simp only [maxLen]; omega)
      have hgr := grown (grownCap w m 0 e) (by omega) hcm (Value.ownBlock (.slice none 0 0))
      rw [hzc m] at hr
      simp only [Nat.zero_add, List.nil_append] at hgr
      refine Rv.mk hr (hk _ _ ?_ ?_ (.inr rfl))
      · simpa using hgr.1
      · simpa using hgr.2
    · by_cases hroom : n + m ≤ cap
      · have hst := run_storeCells_at P g (n * 1) e (List.replicate m ez) 0 cur w hg (by simp; omega) (by intro u hu; rw [List.eq_of_mem_replicate hu]; exact hz1)
        simp only [Nat.add_zero, List.length_replicate] at hst
        have hr : (Builtin.append_ #[t, tn] ty #[.slice (some ⟨g, 0, none⟩) n cap, .int kq m]).run P w = .ok (.slice (some ⟨g, 0, none⟩) (n + m) cap) (w.setRow g (cur.toList.take (n * 1) ++ List.replicate m ez ++ cur.toList.drop (n * 1 + m)).toArray) := by
          simp only [Nat.mul_one] at hst
          simp [Builtin.append_, run_underlying hu, run_underlying htn, sizeOf, typeInfo, zeroValue, hi, hiz, asInt, asIntOf, hw, hneg, h48i, hroom, his, hm0, hzc, Addr.add_lit, hst]
        have hl := hown.1
        refine Rv.mk hr (hk _ _ ⟨by simp; omega, .inr ⟨g, cap, _, rfl, hbg, setRow_heap w g cur _ e _ hg, hroom, hcm, ?_, ?_⟩⟩ ⟨rfl, rfl, rfl, by simp, fun k _ hk => setRow_other w g k _ (fun e => hk (by simp [Value.ownBlock, e]))⟩ (.inl rfl))
        · simp only [List.size_toArray, List.length_append, List.length_take, List.length_drop, Array.length_toList, List.length_replicate]; omega
        · simp only [Nat.mul_one] at htake ⊢
          rw [htake, List.take_left' (by simp; omega)]
      · have holds : ∀ j u, xs[j]? = some u → w.cell? ((⟨g, 0, none⟩ : Addr).add j) = some u := hown.cells (g := g) rfl
        have hf := run_firstCells_some (P := P) w.drew i.size n ⟨g, 0, none⟩ n cap xs (by rw [his]; exact hown.1) (fun j u hj => holds j u hj)
        have hr := Lib.run_append_grow_zeros (P := P) w t tn ty e i ez kq kn hu htn hi hiz (some ⟨g, 0, none⟩) n cap xs hf m (by omega) (by omega) (by omega) (by omega) (by omega) (growslice_fits (by omega) (by rw [hib]; exact hby))
        have hge := grownCap_ge w (n + m) cap e
        have hcm2 := grownCap_le_maxLen w (n + m) cap e (by simp only [maxLen]; omega)
        have hgr := grown (grownCap w (n + m) cap e) hge hcm2 (Value.ownBlock (.slice (some ⟨g, 0, none⟩) n cap))
        rw [hzc m, show xs.toArray ++ (List.replicate m ez).toArray = (xs ++ List.replicate m ez).toArray from List.append_toArray xs _] at hr
        exact Rv.mk hr (hk _ _ hgr.1 hgr.2 (.inr rfl))
end
end Go.Proofs.Ytlldgodjfpgbcaa
