/- Plan: the reference's copies. Nothing is claimed here. -/
import Derived.Test.YthifnfoppamkiaaIi
namespace Go.Proofs.Ythifnfoppamkiaa
open Go.RowKit
set_option linter.unusedVariables false
set_option linter.unusedSimpArgs false
set_option maxRecDepth 100000

def cfC (c : PC) : List Value := [.int .i64 c.ms, .int .i64 c.sv, .int .i64 c.cp, .int .i64 c.k, .int .i64 c.m, .int .i64 c.room, .int .i64 c.lim]
def cfV (c : PC) : Value := .agg #[.int .i64 c.ms, .int .i64 c.sv, .int .i64 c.cp, .int .i64 c.k, .int .i64 c.m, .int .i64 c.room, .int .i64 c.lim]
set_option maxHeartbeats 8000000 in
theorem copiesR_fn (v lv : Value) (ps : List (PV × Value)) (live : List Bool) (c : PC) (w0 : World) (h : VolS w0 v ps) (hl : SlE w0 lv (boolC live)) (hll : live.length ≤ 100) :
    Fn Try.prog 25 #[v, lv, cfV c] w0 fun r w' => ActS w0 (firstS (fun _ v => lackS (pvs ps) live c v) (pvs ps)) r w' := by
  obtain ⟨va, vc, rfl⟩ := h.sl.shape
  have hL := Sep.start Try.prog w0
  have hB := Nat.le_refl w0.heap.size
  have hfew := h.few
  unfold cfV
  refine Fn.mk Try.func25 rfl (by kernel_rfl) Try.ntmps25 rfl (by rw [Try.results25]) ?_
  repeat (first | (refine RunH ?_; intro w hL hB; try clear w) | (refine Both.mk ?_ ?_ <;> conv => whnf) | fail)
  (refine Nw.sep hL hB (fun b5 w hL hB hb5 => ?_); conv => whnf)
  repeat (first | (refine RunH ?_; intro w hL hB; try clear w) | (refine Both.mk ?_ ?_ <;> conv => whnf) | fail)
  (refine Nw.sep hL hB (fun b6 w hL hB hb6 => ?_); conv => whnf)
  repeat (first | (refine RunH ?_; intro w hL hB; try clear w) | (refine Both.mk ?_ ?_ <;> conv => whnf) | fail)
  refine V.loop (α := Nat) (fun z => [(0, .slice va ps.length vc), (1, lv), (5, .pointer (some ⟨b5, 0, none⟩)), (6, .pointer (some ⟨b6, 0, none⟩)), (7, .bool false), (8, .int .i64 z)])
    (fun z w' => z ≤ ps.length ∧ w0.heap.size ≤ w'.heap.size ∧ (∀ (i : Nat) (hi : i < z) (hp : i < (pvs ps).length), atRuleS (fun _ v => lackS (pvs ps) live c v) i (pvs ps)[i] = none) ∧ Sep Try.prog w0.heap.size w0 w' [.blk b6 [.int .i64 0, .int .i64 0, .int .i64 0, .slice none 0 0, .slice none 0 0] 32, .blk b5 (cfC c) 26]) (fun z => ps.length - z) 0 ⟨rfl, rfl, rfl, rfl, rfl, rfl, trivial⟩ ⟨by omega, hB, by intro i hi; omega, hL⟩ ?_
  rintro k w ⟨hk, hB, hno, hL⟩
  repeat (first | (refine RunH ?_; intro w hL hB; try clear w) | (refine Both.mk ?_ ?_ <;> conv => whnf) | fail)
  refine Br.dec (fun hlt => ?_) (fun hlt => ?_)
  · have hke : k < ps.length := by omega
    have hge : ps[k]? = some ps[k] := List.getElem?_eq_getElem hke
    have hmem := List.getElem_mem hke
    have hpv : (pvs ps)[k]? = some ps[k].1 := by simp [pvs, hge]
    generalize hev : ps[k] = pv at *
    obtain ⟨p, nv⟩ := pv
    have hns := h.ns _ hmem
    have hten := h.ten _ hmem
    dsimp only at hns hten hpv
    obtain ⟨na, nc, hnv⟩ := hns.shape
    rw [numC_len] at hnv
    subst hnv
    obtain ⟨b, o, rfl, hr⟩ := (h.sl.below hL.below).addr (by omega)
    repeat (first | (refine RunH ?_; intro w hL hB; try clear w) | (refine Both.mk ?_ ?_ <;> conv => whnf) | fail)
    intro o' ho'
    conv => whnf
    refine Ld.rowN ttOk pvC_len hr rfl rfl rfl hge (by omega) ?_
    conv => whnf
    (refine Nw.sep hL hB (fun b9 w hL hB hb9 => ?_); conv => whnf)
    repeat (first | (refine RunH ?_; intro w hL hB; try clear w) | (refine Both.mk ?_ ?_ <;> conv => whnf) | fail)
    refine (livingR_fn lv _ live p.ns _ (hl.below hL.below) (hns.below hL.below) (by omega)).mono fun r w hr => ?_
    obtain ⟨hown, hbl⟩ := hr
    replace hL := hL.addRow hB hbl hown
    replace hB := Nat.le_trans hB hbl.size
    obtain ⟨ka, kc, rfl⟩ := (hL.rowN (i := 0) rfl).shape
    dsimp only [pvC, cellsL, overL, splice] at hL
    conv => whnf
    repeat (first | (refine RunH ?_; intro w hL hB; try clear w) | (refine Both.mk ?_ ?_ <;> conv => whnf) | fail)
    refine (freeR_fn _ lv _ ps live p.ns _ (h.below hL.below) (hl.below hL.below) hll (hns.below hL.below)).mono fun r w hr => ?_
    obtain ⟨hown, hbl⟩ := hr
    have hf64 := freeS_le (pvs ps) live p.ns
    have hlk : ∀ a, lackS (pvs ps) live c p = a → atRuleS (fun _ v => lackS (pvs ps) live c v) k p = if p.ns = [] then none else a.map fun a => { a with vol := p.id } := fun a e => by unfold atRuleS; dsimp only; rw [e]
    unfold lackS at hlk
    generalize freeS (pvs ps) live p.ns = fr at *
    replace hL := hL.addRow hB hbl hown
    replace hB := Nat.le_trans hB hbl.size
    obtain ⟨fa, fc, rfl⟩ := (hL.rowN (i := 0) rfl).shape
    have hkl : (livingS live p.ns).length ≤ p.ns.length := List.length_filter_le _ _
    generalize livingS live p.ns = kp at *
    have hsk : ∀ {z : Nat}, z = k + 1 → atRuleS (fun _ v => lackS (pvs ps) live c v) k p = none → ∀ (i : Nat) (hi : i < z) (hp : i < (pvs ps).length), atRuleS (fun _ v => lackS (pvs ps) live c v) i (pvs ps)[i] = none := by
      rintro z rfl h0 i hi hp
      by_cases e : i = k
      · subst e
        obtain ⟨_, he⟩ := List.getElem?_eq_some_iff.1 hpv
        rw [he]; exact h0
      · exact hno i (by omega) hp
    by_cases hc : (p.st ≠ 0 ∧ p.st ≠ 1) ∨ kp = [] ∨ (p.fz = false ∧ (c.cp ≤ kp.length ∨ fr = []))
    · have hnone := hlk none (by rw [if_pos hc])
      rw [Option.map_none, ite_self] at hnone
      have hc' : (p.st ≠ 0 ∧ p.st ≠ 1) ∨ kp.length = 0 ∨ (p.fz = false ∧ (c.cp ≤ kp.length ∨ fr.length = 0)) := by
        rw [List.length_eq_zero_iff, List.length_eq_zero_iff]; exact hc
      conv => whnf
      repeat' (first | (refine RunH ?_; intro w hL hB; try clear w) | (refine Br.dec (fun hbr => ?_) (fun hbr => ?_) <;> conv => whnf) | (refine Br.mk (fun hbr => ?_) (fun hbr => ?_) <;> conv => whnf) | (refine Both.mk ?_ ?_ <;> conv => whnf) | fail)
      all_goals first
        | (refine ⟨k + 1, ⟨rfl, rfl, rfl, rfl, rfl, rfl, trivial⟩, ⟨hke, hB, hsk rfl hnone, hL.tl.tl.tl⟩, (by first | omega | (dsimp only; omega))⟩; done)
        | (exfalso; clear hL hlk hno hsk; rcases hc' with ⟨_, _⟩ | hq | ⟨hq, hq' | hq'⟩ <;> first | omega | (simp_all; done) | (simp_all; omega))
    · have hs1 : p.st = 0 ∨ p.st = 1 := Decidable.byContradiction fun e => hc (.inl (by omega))
      have hk1 : 0 < kp.length := List.length_pos_iff.2 fun e => hc (.inr (.inl e))
      have hf1 : p.fz = true ∨ (p.fz = false ∧ (kp.length : Int) < c.cp ∧ 0 < fr.length) := by
        cases hz : p.fz
        · exact .inr ⟨rfl, by have : ¬ c.cp ≤ kp.length := fun e => hc (.inr (.inr ⟨hz, .inl e⟩)); omega, List.length_pos_iff.2 fun e => hc (.inr (.inr ⟨hz, .inr e⟩))⟩
        · exact .inl rfl
      have hsome := hlk _ (if_neg hc)
      have hpn : p.ns ≠ [] := fun e => by rw [e, List.length_nil] at hkl; omega
      rw [if_neg hpn, Option.map_some] at hsome
      generalize hlq : (c.cp - (kp.length : Int)).toNat = lq at hsome
      obtain ⟨hkp, hpe⟩ := List.getElem?_eq_some_iff.1 hpv
      have hfirst := firstS_some hkp (fun i hi => hno i hi (by omega)) (by rw [hpe]; exact hsome)
      rw [hfirst]
      clear hfirst hsome hlk hno hsk hc
      have hcut : ∀ z, z < fr.length → kp.length + z < c.cp → z < lq := fun z h1 h2 => by omega
      rcases hs1 with hs1 | hs1 <;> rcases hf1 with hz | ⟨hz, hq1, hq2⟩
      all_goals
        conv => whnf
        repeat (first | (refine RunH ?_; intro w hL hB; try clear w) | (refine Both.mk ?_ ?_ <;> conv => whnf) | fail)
        refine (cloneR_fn _ kp _ (hL.rowN (i := 1) rfl).to1.e (by omega)).mono fun r w hr => ?_
        obtain ⟨hown, hbl⟩ := hr
        replace hL := hL.addRow hB hbl hown
        replace hB := Nat.le_trans hB hbl.size
        conv => whnf
        repeat (first | (refine RunH ?_; intro w hL hB; try clear w) | (refine Both.mk ?_ ?_ <;> conv => whnf) | fail)
        refine V.loop (α := Nat × Value) (fun z => [(5, .pointer (some ⟨b5, 0, none⟩)), (6, .pointer (some ⟨b6, 0, none⟩)), (9, .pointer (some ⟨b9, 0, none⟩)), (10, .slice ka kp.length kc), (11, .slice fa fr.length fc), (12, z.2), (13, .int .i64 z.1)])
          (fun z w' => z.1 ≤ fr.length ∧ z.1 ≤ lq ∧ w0.heap.size ≤ w'.heap.size ∧ Sep Try.prog w0.heap.size w0 w' [.row 3 1 z.2 (kp.length + z.1) (numC (kp ++ fr.take z.1)), .row 3 1 (.slice fa fr.length fc) fr.length (numC fr), .row 3 1 (.slice ka kp.length kc) kp.length (numC kp), .blk b9 (pvC (p, .slice na p.ns.length nc)) 30, .blk b6 [.int .i64 0, .int .i64 0, .int .i64 0, .slice none 0 0, .slice none 0 0] 32, .blk b5 (cfC c) 26]) (fun z => fr.length - z.1) (0, _) ⟨rfl, rfl, rfl, rfl, rfl, rfl, rfl, trivial⟩ ⟨by omega, by omega, hB, by dsimp only; rw [List.take_zero, List.append_nil]; exact hL⟩ ?_
        rintro ⟨z, out⟩ w ⟨hz1, hz2, hB, hL⟩
        dsimp only at *
        obtain ⟨oa, oc, rfl⟩ := (hL.rowN (i := 0) rfl).shape
        by_cases hgo : z < fr.length ∧ kp.length + z < c.cp
        · have hgz : fr[z]? = some fr[z] := List.getElem?_eq_getElem hgo.1
          have hts := List.take_succ_eq_append_getElem hgo.1
          generalize fr[z] = x at hgz hts
          obtain ⟨bn, on, rfl, hrn⟩ := (hL.rowN (i := 1) rfl).addr (by omega)
          repeat (first | (refine RunH ?_; intro w hL hB; try clear w) | (refine Both.mk ?_ ?_ <;> conv => whnf) | fail)
          intro o' ho'
          conv => whnf
          refine Ld.row1 ttOk hrn rfl rfl (k := z) (numC_get hgz) (by omega) ?_
          conv => whnf
          repeat (first | (refine RunH ?_; intro w hL hB; try clear w) | (refine Both.mk ?_ ?_ <;> conv => whnf) | fail)
          refine Rv.buildS ttOk hL tl24 tl3 rfl rfl (by intro u hu; simp only [List.mem_singleton] at hu; subst hu; rfl) (by decide) (by decide) hB fun bo w hL hB => ?_
          conv => whnf
          refine Rv.appendS ttOk hL tl24 tl3 rfl (by decide) 1 rfl (hL.rowN (i := 0) rfl) (allOne_mem rfl) (by simp only [maxLen]; omega) (by omega) hB fun vo w hL hB => ?_
          dsimp only [List.set] at hL
          conv => whnf
          repeat (first | (refine RunH ?_; intro w hL hB; try clear w) | (refine Both.mk ?_ ?_ <;> conv => whnf) | fail)
          refine ⟨(z + 1, vo), ⟨rfl, rfl, rfl, rfl, rfl, rfl, rfl, trivial⟩, ⟨by omega, by omega, hB, ?_⟩, (by first | omega | (dsimp only; omega))⟩
          have h9 := hL.tl
          rw [hts, ← List.append_assoc, numC_snoc]
          exact h9
        · have hend : fr.take z = fr.take lq := by
            by_cases h1 : z = fr.length
            · rw [List.take_of_length_le (by omega), List.take_of_length_le (by omega)]
            · have : z = lq := by omega
              rw [this]
          rw [hend] at hL
          rcases Nat.lt_or_ge z fr.length with h1 | h1
          all_goals
            repeat (first | (refine RunH ?_; intro w hL hB; try clear w) | (refine Both.mk ?_ ?_ <;> conv => whnf) | fail)
            refine ⟨_, _, rfl, ?_⟩
            have h9 := hL.sub (L' := [.row 3 1 (.slice oa (kp.length + z) oc) (kp.length + z) (numC (kp ++ fr.take lq)), .row 3 1 (.slice ka kp.length kc) kp.length (numC kp)]) (.cons_cons _ (.cons _ (.cons_cons _ (List.nil_sublist _))))
            have h8 := h9.perm (List.Perm.swap _ _ _)
            have e8 : kp.length + z = (kp ++ fr.take lq).length := by rw [← hend, List.length_append, List.length_take]; omega
            dsimp only
            rw [← e8]
            exact h8
  · obtain rfl : k = ps.length := by omega
    have hnone : firstS (fun _ v => lackS (pvs ps) live c v) (pvs ps) = none := firstS_none fun i hi => hno i (by simpa [pvs] using hi) hi
    rw [hnone]
    repeat (first | (refine RunH ?_; intro w hL hB; try clear w) | (refine Both.mk ?_ ?_ <;> conv => whnf) | fail)
    exact ⟨rfl, hL.below⟩
end Go.Proofs.Ythifnfoppamkiaa
