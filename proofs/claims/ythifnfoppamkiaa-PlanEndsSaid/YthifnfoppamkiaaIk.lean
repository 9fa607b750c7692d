/- Plan: the reference's shards. Nothing is claimed here. -/
import Derived.Test.YthifnfoppamkiaaIj
namespace Go.Proofs.Ythifnfoppamkiaa
open Go.RowKit
set_option linter.unusedVariables false
set_option linter.unusedSimpArgs false
set_option maxRecDepth 100000

/-- of the first k volumes a rule says nothing -/
def PreS (r : Nat → PV → Option PA) (l : List PV) (k : Nat) : Prop := ∀ (i : Nat) (hi : i < k) (hp : i < l.length), atRuleS r i l[i] = none
theorem PreS.zero (r : Nat → PV → Option PA) (l : List PV) : PreS r l 0 := by intro i hi; omega
theorem PreS.snoc {r : Nat → PV → Option PA} {l : List PV} {k : Nat} {v : PV} (h : PreS r l k) (hv : l[k]? = some v) (h0 : atRuleS r k v = none) : PreS r l (k + 1) := by
  intro i hi hp
  by_cases e : i = k
  · subst e
    obtain ⟨_, he⟩ := List.getElem?_eq_some_iff.1 hv
    rw [he]; exact h0
  · exact h i (by omega) hp
theorem PreS.none {r : Nat → PV → Option PA} {l : List PV} (h : PreS r l l.length) : firstS r l = none := firstS_none fun i hi => h i hi hi
theorem PreS.some {r : Nat → PV → Option PA} {l : List PV} {k : Nat} {v : PV} {a : PA} (h : PreS r l k) (hv : l[k]? = some v) (ha : atRuleS r k v = some a) : firstS r l = some a := by
  obtain ⟨hk, he⟩ := List.getElem?_eq_some_iff.1 hv
  exact firstS_some hk (fun i hi => h i hi (by omega)) (by rw [he]; exact ha)
theorem atRule_none {r : Nat → PV → Option PA} {i : Nat} {v : PV} (h : v.ns ≠ [] → r i v = none) : atRuleS r i v = none := by
  unfold atRuleS
  split
  · rfl
  · rename_i hn; rw [h hn]; rfl
theorem atRule_some {r : Nat → PV → Option PA} {i : Nat} {v : PV} {a : PA} (hn : v.ns ≠ []) (h : r i v = some a) : atRuleS r i v = some { a with vol := v.id } := by
  unfold atRuleS
  rw [if_neg hn, h]; rfl
theorem pvs_get {ps : List (PV × Value)} {k : Nat} {p : PV × Value} (h : ps[k]? = some p) : (pvs ps)[k]? = some p.1 := by simp [pvs, h]
theorem pvs_len (ps : List (PV × Value)) : (pvs ps).length = ps.length := by simp [pvs]
/-- two rows of numbers that come back -/
theorem ActS.mk {w0 w : World} {o : Option PA} {a : PA} {r kv nv : Value} (ho : o = some a) (hr : r = .tuple #[actV a kv nv, .bool true])
    (hL : Sep Try.prog w0.heap.size w0 w [.row 3 1 kv a.keep.length (numC a.keep), .row 3 1 nv a.ns.length (numC a.ns)]) : ActS w0 o r w := by
  subst ho
  exact ⟨kv, nv, hr, hL⟩
/-- what is left of a slice of which j are taken -/
def SufV (fa : Option Addr) (n c j : Nat) (fv : Value) : Prop := ∃ a', fv = .slice a' (n - j) (c - j) ∧ (j < n → ∃ b, fa = some ⟨b, 0, none⟩ ∧ a' = some ⟨b, j, none⟩)
theorem SufV.start {w : World} {base : Nat} {e : TypeId} {fa : Option Addr} {n c : Nat} {xs : List Value} (h : w.ownsRow base e 1 (.slice fa n c) n xs) : SufV fa n c 0 (.slice fa n c) := by
  refine ⟨fa, by simp, fun hn => ?_⟩
  rcases own_shape h with ⟨e, h0⟩ | ⟨g, c9, e, _⟩
  · omega
  · injection e with e1 e2 e3
    exact ⟨g, e1, e1⟩

set_option maxHeartbeats 16000000 in
theorem shardsR_fn (v lv : Value) (ps : List (PV × Value)) (live : List Bool) (c : PC) (w0 : World) (h : VolS w0 v ps) (hl : SlE w0 lv (boolC live)) (hll : live.length ≤ 100) :
    Fn Try.prog 26 #[v, lv, cfV c] w0 fun r w' => ActS w0 (firstS (fun _ v => brokeS (pvs ps) live c v) (pvs ps)) r w' := by
  obtain ⟨va, vc, rfl⟩ := h.sl.shape
  have hL := Sep.start Try.prog w0
  have hB := Nat.le_refl w0.heap.size
  have hfew := h.few
  unfold cfV
  refine Fn.mk Try.func26 rfl (by kernel_rfl) Try.ntmps26 rfl (by rw [Try.results26]) ?_
  repeat (first | (refine RunH ?_; intro w hL hB; try clear w) | (refine Both.mk ?_ ?_ <;> conv => whnf) | fail)
  (refine Nw.sep hL hB (fun b5 w hL hB hb5 => ?_); conv => whnf)
  repeat (first | (refine RunH ?_; intro w hL hB; try clear w) | (refine Both.mk ?_ ?_ <;> conv => whnf) | fail)
  (refine Nw.sep hL hB (fun b6 w hL hB hb6 => ?_); conv => whnf)
  repeat (first | (refine RunH ?_; intro w hL hB; try clear w) | (refine Both.mk ?_ ?_ <;> conv => whnf) | fail)
  refine V.loop (α := Nat) (fun z => [(0, .slice va ps.length vc), (1, lv), (5, .pointer (some ⟨b5, 0, none⟩)), (6, .pointer (some ⟨b6, 0, none⟩)), (7, .bool false), (8, .int .i64 z)])
    (fun z w' => z ≤ ps.length ∧ w0.heap.size ≤ w'.heap.size ∧ PreS (fun _ v => brokeS (pvs ps) live c v) (pvs ps) z ∧ Sep Try.prog w0.heap.size w0 w' [.blk b6 [.int .i64 0, .int .i64 0, .int .i64 0, .slice none 0 0, .slice none 0 0] 32, .blk b5 (cfC c) 26]) (fun z => ps.length - z) 0 ⟨rfl, rfl, rfl, rfl, rfl, rfl, trivial⟩ ⟨by omega, hB, PreS.zero _ _, hL⟩ ?_
  rintro k w ⟨hk, hB, hno, hL⟩
  repeat (first | (refine RunH ?_; intro w hL hB; try clear w) | (refine Both.mk ?_ ?_ <;> conv => whnf) | fail)
  refine Br.dec (fun hlt => ?_) (fun hlt => ?_)
  · have hke : k < ps.length := by omega
    have hge : ps[k]? = some ps[k] := List.getElem?_eq_getElem hke
    have hmem := List.getElem_mem hke
    have hpv := pvs_get hge
    generalize hev : ps[k] = pv at *
    obtain ⟨p, nv⟩ := pv
    have hns := h.ns _ hmem
    have hten := h.ten _ hmem
    dsimp only at hns hten hpv
    obtain ⟨na, nc, hnv⟩ := hns.shape
    rw [numC_len] at hnv
    subst hnv
    obtain ⟨b, o, rfl, hr⟩ := (h.sl.below hL.below).addr (by omega)
    repeat (first | (refine RunH ?_; intro w hL hB; try clear w) | (refine Both.mk ?_ ?_ <;> conv => whnf) | fail)
    intro o' ho'
    conv => whnf
    refine Ld.rowN ttOk pvC_len hr rfl rfl rfl hge (by omega) ?_
    conv => whnf
    (refine Nw.sep hL hB (fun b9 w hL hB hb9 => ?_); conv => whnf)
    repeat (first | (refine RunH ?_; intro w hL hB; try clear w) | (refine Both.mk ?_ ?_ <;> conv => whnf) | fail)
    dsimp only [pvC, cellsL, overL, splice] at hL
    refine (livingR_fn lv _ live p.ns _ (hl.below hL.below) (hns.below hL.below) (by omega)).mono fun r w hr => ?_
    obtain ⟨hown, hbl⟩ := hr
    replace hL := hL.addRow hB hbl hown
    replace hB := Nat.le_trans hB hbl.size
    obtain ⟨ka, kc, rfl⟩ := (hL.rowN (i := 0) rfl).shape
    conv => whnf
    repeat (first | (refine RunH ?_; intro w hL hB; try clear w) | (refine Both.mk ?_ ?_ <;> conv => whnf) | fail)
    refine (freeR_fn _ lv _ ps live (livingS live p.ns) _ (h.below hL.below) (hl.below hL.below) hll (hL.rowN (i := 0) rfl).to1.e).mono fun r w hr => ?_
    obtain ⟨hown, hbl⟩ := hr
    have hf64 := freeS_le (pvs ps) live (livingS live p.ns)
    have hlk : ∀ a, brokeS (pvs ps) live c p = a → brokeS (pvs ps) live c p = a := fun a e => e
    conv at hlk => enter [a]; lhs; unfold brokeS
    generalize freeS (pvs ps) live (livingS live p.ns) = fr at *
    replace hL := hL.addRow hB hbl hown
    replace hB := Nat.le_trans hB hbl.size
    obtain ⟨fa, fc, rfl⟩ := (hL.rowN (i := 0) rfl).shape
    have hkl : (livingS live p.ns).length ≤ p.ns.length := List.length_filter_le _ _
    generalize livingS live p.ns = kp at *
    by_cases hc : p.st ≠ 2 ∨ (kp.length : Int) < c.k ∨ (p.fz = false ∧ (kp.length = p.ns.length ∨ fr = []))
    · have hnone := hno.snoc hpv (atRule_none fun _ => hlk none (if_pos hc))
      have hc' : p.st ≠ 2 ∨ (kp.length : Int) < c.k ∨ (p.fz = false ∧ (kp.length = p.ns.length ∨ fr.length = 0)) := by
        rw [List.length_eq_zero_iff]; exact hc
      conv => whnf
      repeat' (first | (refine RunH ?_; intro w hL hB; try clear w) | (refine Br.dec (fun hbr => ?_) (fun hbr => ?_) <;> conv => whnf) | (refine Br.mk (fun hbr => ?_) (fun hbr => ?_) <;> conv => whnf) | (refine Both.mk ?_ ?_ <;> conv => whnf) | fail)
      all_goals first
        | (refine ⟨k + 1, ⟨rfl, rfl, rfl, rfl, rfl, rfl, trivial⟩, ⟨hke, hB, hnone, hL.tl.tl.tl⟩, (by first | omega | (dsimp only; omega))⟩; done)
        | (exfalso; clear hL hlk hno hnone; rcases hc' with hq | hq | ⟨hq, hq' | hq'⟩ <;> first | omega | (simp_all; done) | (simp_all; omega))
    · have hs1 : p.st = 2 := Decidable.byContradiction fun e => hc (.inl e)
      have hk1 : c.k ≤ kp.length := Int.not_lt.1 fun e => hc (.inr (.inl e))
      have hf1 : p.fz = true ∨ (p.fz = false ∧ kp.length < p.ns.length ∧ 0 < fr.length) := by
        cases hz : p.fz
        · exact .inr ⟨rfl, by have : ¬ kp.length = p.ns.length := fun e => hc (.inr (.inr ⟨hz, .inl e⟩)); omega, List.length_pos_iff.2 fun e => hc (.inr (.inr ⟨hz, .inr e⟩))⟩
        · exact .inl rfl
      by_cases hp0 : p.ns.length = 0
      · have hnone := hno.snoc hpv (atRule_none fun hn => absurd (List.length_eq_zero_iff.1 hp0) hn)
        conv => whnf
        repeat (first | (refine RunH ?_; intro w hL hB; try clear w) | (refine Both.mk ?_ ?_ <;> conv => whnf) | fail)
        refine ⟨k + 1, ⟨rfl, rfl, rfl, rfl, rfl, rfl, trivial⟩, ⟨hke, hB, hnone, hL.tl.tl.tl⟩, (by first | omega | (dsimp only; omega))⟩
      · have hpn : p.ns ≠ [] := fun e => hp0 (by rw [e]; rfl)
        have hfirst := hno.some hpv (atRule_some hpn (hlk _ (if_neg hc)))
        dsimp only at hfirst
        rw [hfirst]
        clear hfirst hlk hno hc
        have hpl := patchS_len live p.ns fr
        generalize hpt : patchS live p.ns fr = pt at *
        have hsuf := SufV.start (hL.at (i := 0) rfl)
        rcases hf1 with hz | ⟨hz, hq1, hq2⟩
        all_goals
          conv => whnf
          repeat (first | (refine RunH ?_; intro w hL hB; try clear w) | (refine Both.mk ?_ ?_ <;> conv => whnf) | fail)
          refine V.loop (α := Nat × Nat × Value × Value × Value × List Int) (fun z => [(1, lv), (6, .pointer (some ⟨b6, 0, none⟩)), (9, .pointer (some ⟨b9, 0, none⟩)), (11, z.2.2.1), (12, z.2.2.2.1), (13, z.2.2.2.2.1), (14, .int .i64 z.1)])
            (fun z w' => z.1 ≤ p.ns.length ∧ z.2.1 ≤ fr.length ∧ SufV fa fr.length fc z.2.1 z.2.2.1 ∧ z.2.2.2.2.2.length = z.1 ∧ pt = z.2.2.2.2.2 ++ patchS live (p.ns.drop z.1) (fr.drop z.2.1) ∧ w0.heap.size ≤ w'.heap.size ∧ Sep Try.prog w0.heap.size w0 w' [.row 3 1 z.2.2.2.1 z.1 (numC ((p.ns.take z.1).map (deadS live))), .row 3 1 z.2.2.2.2.1 z.1 (numC z.2.2.2.2.2), .row 3 1 (.slice fa fr.length fc) fr.length (numC fr), .blk b9 (pvC (p, .slice na p.ns.length nc)) 30, .blk b6 [.int .i64 0, .int .i64 0, .int .i64 0, .slice none 0 0, .slice none 0 0] 32]) (fun z => p.ns.length - z.1) (0, 0, .slice fa fr.length fc, .slice none 0 0, .slice none 0 0, []) ⟨rfl, rfl, rfl, rfl, rfl, rfl, rfl, trivial⟩ ⟨Nat.zero_le _, Nat.zero_le _, hsuf, rfl, hpt.symm, hB, ((hL.pop 1).pop 3).nilRow 3 1 |>.nilRow 3 1⟩ ?_
          rintro ⟨i, j, fv, kv, nv, dn⟩ w ⟨hi, hj, hsv, hdl, hdp, hB, hL⟩
          dsimp only at *
          obtain ⟨a', rfl, hfa⟩ := hsv
          repeat (first | (refine RunH ?_; intro w hL hB; try clear w) | (refine Both.mk ?_ ?_ <;> conv => whnf) | fail)
          refine Br.dec (fun hlt => ?_) (fun hlt => ?_)
          · have hie : i < p.ns.length := by omega
            have hgi : p.ns[i]? = some p.ns[i] := List.getElem?_eq_getElem hie
            have hts := List.take_succ_eq_append_getElem hie
            have hds := List.drop_eq_getElem_cons hie
            generalize p.ns[i] = x at hgi hts hds
            rw [hds] at hdp
            obtain ⟨bn, on, rfl, hrn⟩ := (hns.below hL.below).sl.toN.addr (by omega)
            repeat (first | (refine RunH ?_; intro w hL hB; try clear w) | (refine Both.mk ?_ ?_ <;> conv => whnf) | fail)
            intro o' ho'
            conv => whnf
            refine Ld.row1 ttOk hrn rfl rfl (k := i) (numC_get hgi) (by omega) ?_
            conv => whnf
            repeat (first | (refine RunH ?_; intro w hL hB; try clear w) | (refine Both.mk ?_ ?_ <;> conv => whnf) | fail)
            repeat (first | (refine RunH ?_; intro w hL hB; try clear w) | (refine Both.mk ?_ ?_ <;> conv => whnf) | (refine (livesR_fn _ live _ _ (hl.below hL.below)).mono fun r w1 hr => ?_; obtain ⟨hr, hw⟩ := hr; subst hr; subst hw; conv => whnf) | fail)
            have hdd : (p.ns.take (i + 1)).map (deadS live) = (p.ns.take i).map (deadS live) ++ [deadS live x] := by rw [hts, List.map_append]; rfl
            rw [show patchS live (x :: p.ns.drop (i + 1)) (fr.drop j) = if liveS live x then x :: patchS live (p.ns.drop (i + 1)) (fr.drop j) else match fr.drop j with | [] => -1 :: patchS live (p.ns.drop (i + 1)) [] | y :: f => y :: patchS live (p.ns.drop (i + 1)) f from rfl] at hdp
            cases hlv : liveS live x
            · have hdx : deadS live x = -1 := by unfold deadS; rw [hlv]; rfl
              rw [hlv] at hdp
              rw [hdx] at hdd
              repeat (first | (refine RunH ?_; intro w hL hB; try clear w) | (refine Both.mk ?_ ?_ <;> conv => whnf) | fail)
              refine Rv.buildS ttOk hL tl24 tl3 rfl rfl (by intro u hu; simp only [List.mem_singleton] at hu; subst hu; rfl) (by decide) (by decide) hB fun bo w hL hB => ?_
              conv => whnf
              refine Rv.appendS ttOk hL tl24 tl3 rfl (by decide) 1 rfl (hL.rowN (i := 0) rfl) (allOne_mem rfl) (by simp only [maxLen]; omega) (by omega) hB fun kv' w hL hB => ?_
              dsimp only [List.set] at hL
              conv => whnf
              replace hL := hL.tl
              by_cases hjn : j < fr.length
              · have hgj : fr[j]? = some fr[j] := List.getElem?_eq_getElem hjn
                have hdf := List.drop_eq_getElem_cons hjn
                generalize fr[j] = y at hgj hdf
                rw [hdf] at hdp
                obtain ⟨bf, rfl, rfl⟩ := hfa hjn
                have hnc : fr.length ≤ fc := by
                  rcases own_shape (hL.at (i := 2) rfl) with ⟨e, h0⟩ | ⟨g, c9, e, h1, h2⟩
                  · omega
                  · injection e with e1 e2 e3; omega
                repeat (first | (refine RunH ?_; intro w hL hB; try clear w) | (refine Both.mk ?_ ?_ <;> conv => whnf) | fail)
                intro o'' ho''
                conv => whnf
                refine Ld.row1 ttOk (hL.rowN (i := 2) rfl).rowOf rfl rfl (k := j) (numC_get hgj) (by omega) ?_
                conv => whnf
                repeat (first | (refine RunH ?_; intro w hL hB; try clear w) | (refine Both.mk ?_ ?_ <;> conv => whnf) | fail)
                intro o3 n' c2 q1 q2 q3 q4
                conv => whnf
                repeat (first | (refine RunH ?_; intro w hL hB; try clear w) | (refine Both.mk ?_ ?_ <;> conv => whnf) | fail)
                refine Rv.buildS ttOk hL tl24 tl3 rfl rfl (by intro u hu; simp only [List.mem_singleton] at hu; subst hu; rfl) (by decide) (by decide) hB fun bo w hL hB => ?_
                conv => whnf
                refine Rv.appendS ttOk hL tl24 tl3 rfl (by decide) 2 rfl (hL.rowN (i := 0) rfl) (allOne_mem rfl) (by simp only [maxLen]; omega) (by omega) hB fun nv' w hL hB => ?_
                dsimp only [List.set] at hL
                conv => whnf
                repeat (first | (refine RunH ?_; intro w hL hB; try clear w) | (refine Both.mk ?_ ?_ <;> conv => whnf) | fail)
                replace hL := hL.tl
                obtain rfl : n' = fr.length - (j + 1) := by omega
                obtain rfl : c2 = fc - (j + 1) := by omega
                refine ⟨(i + 1, j + 1, _, kv', nv', dn ++ [y]), ⟨rfl, rfl, rfl, rfl, rfl, rfl, rfl, trivial⟩, ⟨by omega, by dsimp only; omega, ⟨_, rfl, ?_⟩, by simp [hdl], ?_, hB, ?_⟩, (by first | omega | (dsimp only; omega))⟩
                · intro h1
                  dsimp only at h1
                  obtain rfl : o3 = j + 1 := by omega
                  exact ⟨bf, rfl, rfl⟩
                · rw [hdp]; simp
                · rw [hdd, numC_snoc, numC_snoc]
                  exact hL
              · have hjn' : j = fr.length := by omega
                subst hjn'
                rw [List.drop_length] at hdp
                repeat (first | (refine RunH ?_; intro w hL hB; try clear w) | (refine Both.mk ?_ ?_ <;> conv => whnf) | fail)
                refine Rv.buildS ttOk hL tl24 tl3 rfl rfl (by intro u hu; simp only [List.mem_singleton] at hu; subst hu; rfl) (by decide) (by decide) hB fun bo w hL hB => ?_
                conv => whnf
                refine Rv.appendS ttOk hL tl24 tl3 rfl (by decide) 2 rfl (hL.rowN (i := 0) rfl) (allOne_mem rfl) (by simp only [maxLen]; omega) (by omega) hB fun nv' w hL hB => ?_
                dsimp only [List.set] at hL
                conv => whnf
                repeat (first | (refine RunH ?_; intro w hL hB; try clear w) | (refine Both.mk ?_ ?_ <;> conv => whnf) | fail)
                replace hL := hL.tl
                refine ⟨(i + 1, fr.length, _, kv', nv', dn ++ [-1]), ⟨rfl, rfl, rfl, rfl, rfl, rfl, rfl, trivial⟩, ⟨by omega, by omega, ⟨_, rfl, hfa⟩, by simp [hdl], ?_, hB, ?_⟩, (by first | omega | (dsimp only; omega))⟩
                · rw [hdp, List.drop_length]; simp
                · rw [hdd, numC_snoc, numC_snoc]
                  exact hL
            · have hdx : deadS live x = x := by unfold deadS; rw [hlv]; rfl
              have hx0 := (liveS_lt hlv).1
              rw [hlv] at hdp
              rw [hdx] at hdd
              repeat (first | (refine RunH ?_; intro w hL hB; try clear w) | (refine Both.mk ?_ ?_ <;> conv => whnf) | fail)
              refine Rv.buildS ttOk hL tl24 tl3 rfl rfl (by intro u hu; simp only [List.mem_singleton] at hu; subst hu; rfl) (by decide) (by decide) hB fun bo w hL hB => ?_
              conv => whnf
              refine Rv.appendS ttOk hL tl24 tl3 rfl (by decide) 1 rfl (hL.rowN (i := 0) rfl) (allOne_mem rfl) (by simp only [maxLen]; omega) (by omega) hB fun kv' w hL hB => ?_
              dsimp only [List.set] at hL
              conv => whnf
              replace hL := hL.tl
              repeat (first | (refine RunH ?_; intro w hL hB; try clear w) | (refine Both.mk ?_ ?_ <;> conv => whnf) | fail)
              refine Rv.buildS ttOk hL tl24 tl3 rfl rfl (by intro u hu; simp only [List.mem_singleton] at hu; subst hu; rfl) (by decide) (by decide) hB fun bo w hL hB => ?_
              conv => whnf
              refine Rv.appendS ttOk hL tl24 tl3 rfl (by decide) 2 rfl (hL.rowN (i := 0) rfl) (allOne_mem rfl) (by simp only [maxLen]; omega) (by omega) hB fun nv' w hL hB => ?_
              dsimp only [List.set] at hL
              conv => whnf
              repeat (first | (refine RunH ?_; intro w hL hB; try clear w) | (refine Both.mk ?_ ?_ <;> conv => whnf) | fail)
              replace hL := hL.tl
              refine ⟨(i + 1, j, _, kv', nv', dn ++ [x]), ⟨rfl, rfl, rfl, rfl, rfl, rfl, rfl, trivial⟩, ⟨by omega, by omega, ⟨_, rfl, hfa⟩, by simp [hdl], ?_, hB, ?_⟩, (by first | omega | (dsimp only; omega))⟩
              · rw [hdp]; simp
              · rw [hdd, numC_snoc, numC_snoc]
                exact hL
          · have hie : i = p.ns.length := by omega
            subst hie
            rw [List.drop_length, List.take_length] at *
            rw [show patchS live [] (fr.drop j) = [] from rfl, List.append_nil] at hdp
            subst hdp
            obtain ⟨ca, cc, rfl⟩ := (hL.rowN (i := 0) rfl).shape
            obtain ⟨da, dc, rfl⟩ := (hL.rowN (i := 1) rfl).shape
            repeat (first | (refine RunH ?_; intro w hL hB; try clear w) | (refine Both.mk ?_ ?_ <;> conv => whnf) | fail)
            refine ActS.mk (kv := .slice ca p.ns.length cc) (nv := .slice da p.ns.length dc) rfl ?_ ?_
            · unfold actV; rw [hs1]; rfl
            · have h9 := hL.sub (L' := [.row 3 1 (.slice ca p.ns.length cc) p.ns.length (numC (p.ns.map (deadS live))), .row 3 1 (.slice da p.ns.length dc) p.ns.length (numC pt)]) (.cons_cons _ (.cons_cons _ (List.nil_sublist _)))
              dsimp only
              rw [hpl, List.length_map]
              exact h9
  · obtain rfl : k = ps.length := by omega
    rw [PreS.none (by rw [pvs_len]; exact hno)]
    repeat (first | (refine RunH ?_; intro w hL hB; try clear w) | (refine Both.mk ?_ ?_ <;> conv => whnf) | fail)
    exact ⟨rfl, hL.below⟩
end Go.Proofs.Ythifnfoppamkiaa
