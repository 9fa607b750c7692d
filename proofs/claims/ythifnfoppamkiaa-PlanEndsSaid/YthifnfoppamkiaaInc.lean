/- Plan: PlanEnds. Nothing is claimed here. -/
import Derived.Test.YthifnfoppamkiaaInb
namespace Go.Proofs.Ythifnfoppamkiaa
open Go.RowKit
set_option linter.unusedVariables false
set_option linter.unusedSimpArgs false
set_option maxRecDepth 100000

/-- the row of a volume's nodes -/
def rR (p : PV × Value) : Res := .row 3 1 p.2 p.1.ns.length (numC p.1.ns)
theorem rR_sl {w : World} {p : PV × Value} (h : (rR p).holds Try.prog w) : SlE w p.2 (numC p.1.ns) := by
  have h1 : w.ownsRow 0 3 1 p.2 p.1.ns.length (numC p.1.ns) := h
  have h2 := (SlN.of_own h1)
  exact h2.to1.e
theorem numss_len (nss : List (List Int × Value)) : (nss.map (·.2)).length = nss.length := by simp
set_option maxHeartbeats 32000000 in
theorem planEnds_fn (vn vst vfz : Value) (nss : List (List Int × Value)) (sts : List Int) (fz : List Bool) (s : Int) (c : PC) (sz : Int) (w0 : World) (hn : SlE w0 vn (nss.map (·.2))) (hne : ∀ p ∈ nss, SlE w0 p.2 (numC p.1)) (hst : SlE w0 vst (numC sts)) (hfz : SlE w0 vfz (boolC fz)) :
    Fn Try.prog 5 #[vn, vst, vfz, .int .i64 s, cfV c, .int .i64 sz] w0 fun r w' => r = .bool true ∧ Below w0.heap.size w0 w' := by
  obtain ⟨va, vc, rfl⟩ := hn.shape
  rw [numss_len] at hn ⊢
  have hL := Sep.start Try.prog w0
  have hB := Nat.le_refl w0.heap.size
  obtain ⟨sta, stc, rfl⟩ := hst.shape
  obtain ⟨fza, fzc, rfl⟩ := hfz.shape
  rw [numC_len] at hst ⊢
  rw [boolC_len] at hfz ⊢
  unfold cfV
  refine Fn.mk Try.func5 rfl (by kernel_rfl) Try.ntmps5 rfl (by rw [Try.results5]) ?_
  repeat (first | (refine RunH ?_; intro w hL hB; try clear w) | (refine Both.mk ?_ ?_ <;> conv => whnf) | fail)
  (refine Nw.sep hL hB (fun b10 w hL hB hb10 => ?_); conv => whnf)
  by_cases hg : nss.length ≤ 12 ∧ 1 ≤ s ∧ s ≤ 20 ∧ 1 ≤ c.cp ∧ c.cp ≤ 5 ∧ c.cp ≤ s ∧ 1 ≤ c.k ∧ 0 ≤ c.m ∧ c.k ≤ 10 ∧ c.m ≤ 4 ∧ 1 ≤ c.lim
  case neg =>
    repeat' (first | (refine RunH ?_; intro w hL hB; try clear w) | (refine Br.dec (fun hbr => ?_) (fun hbr => ?_) <;> conv => whnf) | (refine Br.mk (fun hbr => ?_) (fun hbr => ?_) <;> conv => whnf) | (refine Both.mk ?_ ?_ <;> conv => whnf) | (refine Br.dec (fun hbr => ?_) (fun hbr => ?_); conv => whnf) | (refine (known_fn _).mono fun r w hr => ?_; obtain ⟨hr, hw⟩ := hr; subst hr; replace hL := hL.call hB (Turns.of_below hw); replace hB := Nat.le_trans hB hw.size; conv => whnf) | fail)
    all_goals first
      | exact ⟨rfl, hL.below⟩
      | (exfalso; omega)
  obtain ⟨h12, hs1, hs20, hc1, hc5, hcS, hk1, hm0, hk10, hm4, hl1⟩ := hg
  obtain ⟨S, rfl⟩ := Int.eq_ofNat_of_zero_le (show 0 ≤ s by omega)
  repeat (first | (refine RunH ?_; intro w hL hB; try clear w) | (refine Both.mk ?_ ?_ <;> conv => whnf) | fail)
  refine V.loop (α := Nat × Value) (fun z => [(0, .slice va nss.length vc), (1, .slice sta sts.length stc), (2, .slice fza fz.length fzc), (3, .int .i64 (S : Int)), (5, .int .i64 sz), (10, .pointer (some ⟨b10, 0, none⟩)), (13, .slice none 0 0), (14, z.2), (15, .slice none 0 0), (16, .int .i64 z.1)])
    (fun z w' => z.1 ≤ S ∧ w0.heap.size ≤ w'.heap.size ∧ Sep Try.prog w0.heap.size w0 w' [.row 4 1 z.2 z.1 (boolC (List.replicate z.1 true)), .blk b10 (cfC c) 26]) (fun z => S - z.1) (0, .slice none 0 0) ⟨rfl, rfl, rfl, rfl, rfl, rfl, rfl, rfl, rfl, rfl, trivial⟩ ⟨Nat.zero_le _, hB, hL.nilRow 4 1⟩ ?_
  clear hL hB
  rintro ⟨i, lv⟩ w ⟨hi, hB, hL⟩
  dsimp only at hi hL
  repeat (first | (refine RunH ?_; intro w hL hB; try clear w) | (refine Both.mk ?_ ?_ <;> conv => whnf) | fail)
  refine Br.dec (fun hlt => ?_) (fun hlt => ?_)
  · have hlt2 : (i : Int) < (S : Int) := hlt
    repeat (first | (refine RunH ?_; intro w hL hB; try clear w) | (refine Both.mk ?_ ?_ <;> conv => whnf) | fail)
    refine Rv.buildS ttOk hL tl23 tl4 rfl rfl (by intro u hu; simp only [List.mem_singleton] at hu; subst hu; rfl) (by decide) (by decide) hB fun bo w hL hB => ?_
    conv => whnf
    refine Rv.appendS ttOk hL tl23 tl4 rfl (by decide) 1 rfl (hL.rowN (i := 0) rfl) (allOne_mem rfl) (by simp only [maxLen]; omega) (by omega) hB fun vo w hL hB => ?_
    dsimp only [List.set] at hL
    conv => whnf
    repeat (first | (refine RunH ?_; intro w hL hB; try clear w) | (refine Both.mk ?_ ?_ <;> conv => whnf) | fail)
    refine ⟨(i + 1, vo), ⟨rfl, rfl, rfl, rfl, rfl, rfl, rfl, rfl, rfl, rfl, trivial⟩, ⟨by dsimp only; omega, hB, ?_⟩, (by first | omega | (dsimp only; omega))⟩
    dsimp only
    rw [List.replicate_succ', show boolC (List.replicate i true ++ [true]) = boolC (List.replicate i true) ++ [.bool true] by simp [boolC]]
    exact hL.tl
  have hlt2 : ¬ (i : Int) < (S : Int) := hlt
  obtain rfl : i = S := by omega
  repeat (first | (refine RunH ?_; intro w hL hB; try clear w) | (refine Both.mk ?_ ?_ <;> conv => whnf) | fail)
  refine V.loop (α := Nat × Value × Value × List (PV × Value) × List Res) (fun z => [(0, .slice va nss.length vc), (1, .slice sta sts.length stc), (2, .slice fza fz.length fzc), (3, .int .i64 (i : Int)), (5, .int .i64 sz), (10, .pointer (some ⟨b10, 0, none⟩)), (13, z.2.1), (14, lv), (15, z.2.2.1), (17, .int .i64 z.1)])
    (fun z w' => z.1 ≤ nss.length ∧ pvs z.2.2.2.1 = volsE i c.cp sts fz (nss.map (·.1)) z.1 ∧ (∀ p ∈ z.2.2.2.1, rR p ∈ z.2.2.2.2) ∧ w0.heap.size ≤ w'.heap.size ∧ Sep Try.prog w0.heap.size w0 w' (.row 30 6 z.2.1 z.2.2.2.1.length (z.2.2.2.1.flatMap pvC) :: .row 3 1 z.2.2.1 z.1 (numC (List.replicate z.1 (max 0 sz))) :: .row 4 1 lv i (boolC (List.replicate i true)) :: .blk b10 (cfC c) 26 :: z.2.2.2.2)) (fun z => nss.length - z.1) (0, .slice none 0 0, .slice none 0 0, [], []) ⟨rfl, rfl, rfl, rfl, rfl, rfl, rfl, rfl, rfl, rfl, trivial⟩ ⟨Nat.zero_le _, rfl, by simp, hB, (hL.nilRow 3 1).nilRow 30 6⟩ ?_
  clear hL hB
  rintro ⟨z, out, szv, vs, Rs⟩ w ⟨hz, hvs, hRs, hB, hL⟩
  dsimp only at hz hvs hRs hL
  have hvl : vs.length = z := by
    have := congrArg List.length hvs
    rwa [pvs_len, volsE_len] at this
  repeat (first | (refine RunH ?_; intro w hL hB; try clear w) | (refine Both.mk ?_ ?_ <;> conv => whnf) | fail)
  refine Br.dec (fun hlt => ?_) (fun hlt => ?_)
  · have hlt3 : (z : Int) < (nss.length : Int) := hlt
    have hgz : nss[z]? = some nss[z] := List.getElem?_eq_getElem (by omega)
    have hmz := List.getElem_mem (show z < nss.length by omega)
    have hvz : (nss.map (·.2))[z]? = some (nss[z]).2 := by rw [List.getElem?_map, hgz]; rfl
    have hnz : ((nss.map (·.1))[z]?).getD [] = (nss[z]).1 := by rw [List.getElem?_map, hgz]; rfl
    have hvE := volsE_succ i c.cp sts fz (nss.map (·.1)) z
    rw [hnz] at hvE
    have hzn := hne _ hmz
    generalize nss[z] = pz at *
    obtain ⟨ns, nzv⟩ := pz
    dsimp only at hvz hzn hvE
    obtain ⟨nza, nzc, hnzv⟩ := hzn.shape
    rw [numC_len] at hnzv
    subst hnzv
    obtain ⟨bv, ov, rfl, _⟩ := hn.sl.toN.addr (by omega)
    repeat (first | (refine RunH ?_; intro w hL hB; try clear w) | (refine Both.mk ?_ ?_ <;> conv => whnf) | fail)
    (refine Nw.sep hL hB (fun b18 w hL hB hb18 => ?_); conv => whnf)
    repeat (first | (refine Br.go ?_; first | ((first | refine Br.tt ?_ | refine Br.ff ?_ | refine Br.y ?_ | refine Br.n ?_ | refine Br.t ?_ | refine Br.f ?_ | fail); conv => whnf) | refine Br.not ?_ | fail) | (refine Ld.go ?_; first | ((first | refine Ld.x ttOk hL ?_ | refine Ld.p ttOk hL ?_ | fail); conv => whnf) | fail) | (refine St.x ttOk hL hB (fun w hL hB => ?_); dsimp only [List.set, splice, overL, cellsL, takeL, dropL, List.drop, List.take] at hL; conv => whnf) | (refine Lq.go ?_; first | ((first | refine Lq.x ttOk hL.cls ?_ | refine Lq.x ttOk (fun _ h => h) ?_ | refine Lq.p ttOk hL.cls ?_ | refine Lq.p ttOk (fun _ h => h) ?_ | fail); conv => whnf) | fail) | (refine Ar.go ?_; first | ((first | refine Ar.s ?_ | refine Ar.u ?_ | refine Ar.h ?_ | refine Ar.b ?_ | fail); conv => whnf) | fail) | ((first | refine Chk.m ?_ | refine Qv.str ttOk rfl rfl rfl ?_ | refine An.x hL ?_ | fail); conv => whnf) | (refine Both.mk ?_ ?_ <;> conv => whnf) | fail)
    refine V.seq ?_
    refine V.join (α := Unit) (fun _ => [(0, .slice (some ⟨bv, ov, none⟩) nss.length vc), (1, .slice sta sts.length stc), (2, .slice fza fz.length fzc), (3, .int .i64 (i : Int)), (5, .int .i64 sz), (10, .pointer (some ⟨b10, 0, none⟩)), (13, out), (14, lv), (15, szv), (17, .int .i64 z), (18, .pointer (some ⟨b18, 0, none⟩))]) (fun _ w' => w0.heap.size ≤ w'.heap.size ∧ Sep Try.prog w0.heap.size w0 w' (.blk b18 [.int .i64 ((z : Int) + 1), .int .i64 (stE sts z), .int .i64 1, .slice none 0 0, .bool false, .int .i64 0] 30 :: .row 30 6 out vs.length (vs.flatMap pvC) :: .row 3 1 szv z (numC (List.replicate z (max 0 sz))) :: .row 4 1 lv i (boolC (List.replicate i true)) :: .blk b10 (cfC c) 26 :: Rs)) ?_ ?_
    · by_cases h1 : z < sts.length
      · have hgs : sts[z]? = some sts[z] := List.getElem?_eq_getElem h1
        obtain ⟨bs, os, rfl, _⟩ := hst.sl.toN.addr (by omega)
        have hse : stE sts z = if 0 < sts[z] then (sts[z]).tmod 2 else 0 := by unfold stE; rw [hgs]
        generalize sts[z] = x at hgs hse
        by_cases hx : 0 < x
        · rw [if_pos hx] at hse
          repeat (first | (refine RunH ?_; intro w hL hB; try clear w) | (refine Both.mk ?_ ?_ <;> conv => whnf) | fail)
          intro o1 ho1
          conv => whnf
          repeat (first | (refine RunH ?_; intro w hL hB; try clear w) | (refine Both.mk ?_ ?_ <;> conv => whnf) | fail)
          refine Ld.row1 ttOk (hst.below hL.below).sl.toN.rowOf rfl rfl (k := z) (v := .int .i64 x) (numC_get hgs) (by omega) ?_
          conv => whnf
          repeat (first | (refine RunH ?_; intro w hL hB; try clear w) | (refine Both.mk ?_ ?_ <;> conv => whnf) | fail)
          intro o2 ho2
          conv => whnf
          refine Ld.row1 ttOk (hst.below hL.below).sl.toN.rowOf rfl rfl (k := z) (v := .int .i64 x) (numC_get hgs) (by omega) ?_
          conv => whnf
          repeat (first | (refine RunH ?_; intro w hL hB; try clear w) | (refine Both.mk ?_ ?_ <;> conv => whnf) | (refine Rem.mk (by omega) ?_; conv => whnf) | fail)
          exact ⟨(), ⟨rfl, rfl, rfl, rfl, rfl, rfl, rfl, rfl, rfl, rfl, rfl, trivial⟩, hB, by rw [hse]; exact hL⟩
        · rw [if_neg hx] at hse
          repeat (first | (refine RunH ?_; intro w hL hB; try clear w) | (refine Both.mk ?_ ?_ <;> conv => whnf) | fail)
          intro o1 ho1
          conv => whnf
          repeat (first | (refine RunH ?_; intro w hL hB; try clear w) | (refine Both.mk ?_ ?_ <;> conv => whnf) | fail)
          refine Ld.row1 ttOk (hst.below hL.below).sl.toN.rowOf rfl rfl (k := z) (v := .int .i64 x) (numC_get hgs) (by omega) ?_
          conv => whnf
          repeat (first | (refine RunH ?_; intro w hL hB; try clear w) | (refine Both.mk ?_ ?_ <;> conv => whnf) | fail)
          exact ⟨(), ⟨rfl, rfl, rfl, rfl, rfl, rfl, rfl, rfl, rfl, rfl, rfl, trivial⟩, hB, by rw [hse]; exact hL⟩
      · have hse : stE sts z = 0 := by unfold stE; rw [List.getElem?_eq_none (by omega)]
        repeat (first | (refine RunH ?_; intro w hL hB; try clear w) | (refine Both.mk ?_ ?_ <;> conv => whnf) | fail)
        exact ⟨(), ⟨rfl, rfl, rfl, rfl, rfl, rfl, rfl, rfl, rfl, rfl, rfl, trivial⟩, hB, by rw [hse]; exact hL⟩
    clear hL hB
    rintro _ w ⟨hB, hL⟩
    refine V.seq ?_
    refine V.join (α := Unit) (fun _ => [(0, .slice (some ⟨bv, ov, none⟩) nss.length vc), (1, .slice sta sts.length stc), (2, .slice fza fz.length fzc), (3, .int .i64 (i : Int)), (5, .int .i64 sz), (10, .pointer (some ⟨b10, 0, none⟩)), (13, out), (14, lv), (15, szv), (17, .int .i64 z), (18, .pointer (some ⟨b18, 0, none⟩))]) (fun _ w' => w0.heap.size ≤ w'.heap.size ∧ Sep Try.prog w0.heap.size w0 w' (.blk b18 [.int .i64 ((z : Int) + 1), .int .i64 (stE sts z), .int .i64 1, .slice none 0 0, .bool ((fz[z]?).getD false), .int .i64 0] 30 :: .row 30 6 out vs.length (vs.flatMap pvC) :: .row 3 1 szv z (numC (List.replicate z (max 0 sz))) :: .row 4 1 lv i (boolC (List.replicate i true)) :: .blk b10 (cfC c) 26 :: Rs)) ?_ ?_
    · by_cases h1 : z < fz.length
      · have hgs : fz[z]? = some fz[z] := List.getElem?_eq_getElem h1
        obtain ⟨bs, os, rfl, _⟩ := hfz.sl.toN.addr (by omega)
        generalize fz[z] = x at hgs
        rw [hgs]
        repeat (first | (refine RunH ?_; intro w hL hB; try clear w) | (refine Both.mk ?_ ?_ <;> conv => whnf) | fail)
        intro o1 ho1
        conv => whnf
        repeat (first | (refine RunH ?_; intro w hL hB; try clear w) | (refine Both.mk ?_ ?_ <;> conv => whnf) | fail)
        refine Ld.row1 ttOk (hfz.below hL.below).sl.toN.rowOf rfl rfl (k := z) (v := .bool x) (boolC_get hgs) (by omega) ?_
        conv => whnf
        repeat (first | (refine RunH ?_; intro w hL hB; try clear w) | (refine Both.mk ?_ ?_ <;> conv => whnf) | fail)
        exact ⟨(), ⟨rfl, rfl, rfl, rfl, rfl, rfl, rfl, rfl, rfl, rfl, rfl, trivial⟩, hB, hL⟩
      · rw [List.getElem?_eq_none (by omega)]
        repeat (first | (refine RunH ?_; intro w hL hB; try clear w) | (refine Both.mk ?_ ?_ <;> conv => whnf) | fail)
        exact ⟨(), ⟨rfl, rfl, rfl, rfl, rfl, rfl, rfl, rfl, rfl, rfl, rfl, trivial⟩, hB, hL⟩
    clear hL hB
    rintro _ w ⟨hB, hL⟩
    repeat (first | (refine RunH ?_; intro w hL hB; try clear w) | (refine Both.mk ?_ ?_ <;> conv => whnf) | fail)
    refine V.loop (α := Nat × Value) (fun y => [(0, .slice (some ⟨bv, ov, none⟩) nss.length vc), (1, .slice sta sts.length stc), (2, .slice fza fz.length fzc), (3, .int .i64 (i : Int)), (5, .int .i64 sz), (10, .pointer (some ⟨b10, 0, none⟩)), (13, out), (14, lv), (15, szv), (17, .int .i64 z), (18, .pointer (some ⟨b18, 0, none⟩)), (19, .int .i64 y.1)])
      (fun y w' => y.1 ≤ ns.length ∧ (y.1 : Int) ≤ c.cp ∧ w0.heap.size ≤ w'.heap.size ∧ Sep Try.prog w0.heap.size w0 w' (.blk b18 [.int .i64 ((z : Int) + 1), .int .i64 (stE sts z), .int .i64 1, y.2, .bool ((fz[z]?).getD false), .int .i64 0] 30 :: .row 3 1 y.2 (foldD i (ns.take y.1)).length (numC (foldD i (ns.take y.1))) :: .row 30 6 out vs.length (vs.flatMap pvC) :: .row 3 1 szv z (numC (List.replicate z (max 0 sz))) :: .row 4 1 lv i (boolC (List.replicate i true)) :: .blk b10 (cfC c) 26 :: Rs)) (fun y => ns.length - y.1) (0, .slice none 0 0) ⟨rfl, rfl, rfl, rfl, rfl, rfl, rfl, rfl, rfl, rfl, rfl, rfl, trivial⟩ ⟨Nat.zero_le _, by dsimp only; omega, hB, (hL.nilRow 3 1).perm (List.Perm.swap _ _ _)⟩ ?_
    clear hL hB
    rintro ⟨k, nvv⟩ w ⟨hk, hkc, hB, hL⟩
    dsimp only at hk hkc hL
    have hacc := (foldD_props (S := (i : Int)) (by omega) (ns.take k))
    obtain ⟨xa, xc, rfl⟩ := (hL.rowN (i := 1) rfl).shape
    by_cases hgo : (k : Int) < ns.length ∧ (k : Int) < c.cp
    · obtain ⟨hg1, hg2⟩ := hgo
      have hgk : ns[k]? = some ns[k] := List.getElem?_eq_getElem (by omega)
      have hts := List.take_succ_eq_append_getElem (show k < ns.length by omega)
      obtain ⟨bn, on, rfl, _⟩ := hzn.sl.toN.addr (by omega)
      generalize ns[k] = x at hgk hts
      have hfs : foldD i (ns.take (k + 1)) = stepD i (foldD i (ns.take k)) x := by rw [hts, foldD_snoc]
      have hmr := modI_rng (n := x) (S := (i : Int)) (by omega)
      generalize hac : foldD i (ns.take k) = acc at *
      have hrv := (hn.below hL.below).sl.toN.rowOf
      repeat (first | (refine RunH ?_; intro w hL hB; try clear w) | (refine Both.mk ?_ ?_ <;> conv => whnf) | fail)
      intro o1 ho1
      conv => whnf
      refine Ld.row1 ttOk hrv rfl rfl (k := z) hvz (by omega) ?_
      conv => whnf
      repeat (first | (refine RunH ?_; intro w hL hB; try clear w) | (refine Both.mk ?_ ?_ <;> conv => whnf) | fail)
      intro o2 ho2
      conv => whnf
      refine Ld.row1 ttOk hrv rfl rfl (k := z) hvz (by omega) ?_
      conv => whnf
      repeat (first | (refine RunH ?_; intro w hL hB; try clear w) | (refine Both.mk ?_ ?_ <;> conv => whnf) | fail)
      intro o3 ho3
      conv => whnf
      refine Ld.row1 ttOk (hzn.below hL.below).sl.toN.rowOf rfl rfl (k := k) (numC_get hgk) (by omega) ?_
      conv => whnf
      repeat (first | (refine Br.go ?_; first | ((first | refine Br.tt ?_ | refine Br.ff ?_ | refine Br.y ?_ | refine Br.n ?_ | refine Br.t ?_ | refine Br.f ?_ | fail); conv => whnf) | refine Br.not ?_ | fail) | (refine Ld.go ?_; first | ((first | refine Ld.x ttOk hL ?_ | refine Ld.p ttOk hL ?_ | fail); conv => whnf) | fail) | (refine St.x ttOk hL hB (fun w hL hB => ?_); dsimp only [List.set, splice, overL, cellsL, takeL, dropL, List.drop, List.take] at hL; conv => whnf) | (refine Lq.go ?_; first | ((first | refine Lq.x ttOk hL.cls ?_ | refine Lq.x ttOk (fun _ h => h) ?_ | refine Lq.p ttOk hL.cls ?_ | refine Lq.p ttOk (fun _ h => h) ?_ | fail); conv => whnf) | fail) | (refine Ar.go ?_; first | ((first | refine Ar.s ?_ | refine Ar.u ?_ | refine Ar.h ?_ | refine Ar.b ?_ | fail); conv => whnf) | fail) | ((first | refine Chk.m ?_ | refine Qv.str ttOk rfl rfl rfl ?_ | refine An.x hL ?_ | fail); conv => whnf) | (refine Both.mk ?_ ?_ <;> conv => whnf) | (refine Rem.mk (by omega) ?_; conv => whnf) | fail)
      refine V.seq ?_
      refine V.join (α := Unit) (fun _ => [(0, .slice (some ⟨bv, ov, none⟩) nss.length vc), (1, .slice sta sts.length stc), (2, .slice fza fz.length fzc), (3, .int .i64 (i : Int)), (5, .int .i64 sz), (10, .pointer (some ⟨b10, 0, none⟩)), (13, out), (14, lv), (15, szv), (17, .int .i64 z), (18, .pointer (some ⟨b18, 0, none⟩)), (19, .int .i64 k), (20, .int .i64 (modI x i))]) (fun _ w' => w0.heap.size ≤ w'.heap.size ∧ Sep Try.prog w0.heap.size w0 w' (.blk b18 [.int .i64 ((z : Int) + 1), .int .i64 (stE sts z), .int .i64 1, .slice xa acc.length xc, .bool ((fz[z]?).getD false), .int .i64 0] 30 :: .row 3 1 (.slice xa acc.length xc) acc.length (numC acc) :: .row 30 6 out vs.length (vs.flatMap pvC) :: .row 3 1 szv z (numC (List.replicate z (max 0 sz))) :: .row 4 1 lv i (boolC (List.replicate i true)) :: .blk b10 (cfC c) 26 :: Rs)) ?_ ?_
      · have htl := Int.tmod_lt_of_pos x (show 0 < (i : Int) by omega)
        have htg := Int.lt_tmod_of_pos x (show 0 < (i : Int) by omega)
        by_cases hx : x.tmod i < 0
        · have e : modI x i = x.tmod i + i := by unfold modI; rw [if_pos hx]
          rw [e]
          repeat (first | (refine RunH ?_; intro w hL hB; try clear w) | (refine Both.mk ?_ ?_ <;> conv => whnf) | fail)
          exact ⟨(), ⟨rfl, rfl, rfl, rfl, rfl, rfl, rfl, rfl, rfl, rfl, rfl, rfl, rfl, trivial⟩, hB, hL⟩
        · have e : modI x i = x.tmod i := by unfold modI; rw [if_neg hx]
          rw [e]
          repeat (first | (refine RunH ?_; intro w hL hB; try clear w) | (refine Both.mk ?_ ?_ <;> conv => whnf) | fail)
          exact ⟨(), ⟨rfl, rfl, rfl, rfl, rfl, rfl, rfl, rfl, rfl, rfl, rfl, rfl, rfl, trivial⟩, hB, hL⟩
      clear hL hB hrv
      rintro _ w ⟨hB, hL⟩
      generalize hmx : modI x i = m at *
      repeat (first | (refine RunH ?_; intro w hL hB; try clear w) | (refine Both.mk ?_ ?_ <;> conv => whnf) | fail)
      have hal9 := hacc.2.2
      rw [List.length_take] at hal9
      refine V.loop (α := Nat) (fun j => [(0, .slice (some ⟨bv, ov, none⟩) nss.length vc), (1, .slice sta sts.length stc), (2, .slice fza fz.length fzc), (3, .int .i64 (i : Int)), (5, .int .i64 sz), (10, .pointer (some ⟨b10, 0, none⟩)), (13, out), (14, lv), (15, szv), (17, .int .i64 z), (18, .pointer (some ⟨b18, 0, none⟩)), (19, .int .i64 k), (20, .int .i64 m), (21, .bool (decide (m ∈ acc.take j))), (22, .int .i64 j)])
        (fun j w' => j ≤ acc.length ∧ w0.heap.size ≤ w'.heap.size ∧ Sep Try.prog w0.heap.size w0 w' (.blk b18 [.int .i64 ((z : Int) + 1), .int .i64 (stE sts z), .int .i64 1, .slice xa acc.length xc, .bool ((fz[z]?).getD false), .int .i64 0] 30 :: .row 3 1 (.slice xa acc.length xc) acc.length (numC acc) :: .row 30 6 out vs.length (vs.flatMap pvC) :: .row 3 1 szv z (numC (List.replicate z (max 0 sz))) :: .row 4 1 lv i (boolC (List.replicate i true)) :: .blk b10 (cfC c) 26 :: Rs)) (fun j => acc.length - j) 0 ⟨rfl, rfl, rfl, rfl, rfl, rfl, rfl, rfl, rfl, rfl, rfl, rfl, rfl, by simp [look], rfl, trivial⟩ ⟨Nat.zero_le _, hB, hL⟩ ?_
      clear hL hB
      rintro j w ⟨hj, hB, hL⟩
      repeat (first | (refine RunH ?_; intro w hL hB; try clear w) | (refine Both.mk ?_ ?_ <;> conv => whnf) | fail)
      refine Br.dec (fun hlt => ?_) (fun hlt => ?_)
      · have hgj : acc[j]? = some acc[j] := List.getElem?_eq_getElem (by omega)
        have htj := List.take_succ_eq_append_getElem (show j < acc.length by omega)
        generalize acc[j] = y at hgj htj
        by_cases hin : m ∈ acc.take j
        · have hin' : m ∈ acc.take (j + 1) := by
            rw [htj]
            exact List.mem_append_left _ hin
          rw [decide_eq_true hin]
          repeat (first | (refine RunH ?_; intro w hL hB; try clear w) | (refine Both.mk ?_ ?_ <;> conv => whnf) | fail)
          exact ⟨j + 1, ⟨rfl, rfl, rfl, rfl, rfl, rfl, rfl, rfl, rfl, rfl, rfl, rfl, rfl, by rw [decide_eq_true hin']; rfl, rfl, trivial⟩, ⟨by omega, hB, hL⟩, (by first | omega | (dsimp only; omega))⟩
        · rw [decide_eq_false hin]
          have hin' : decide (m ∈ acc.take (j + 1)) = decide (y = m) := by
            rw [htj]
            refine decide_eq_decide.2 ⟨fun e => ?_, fun e => List.mem_append_right _ (by rw [e]; exact List.mem_singleton_self _)⟩
            rcases List.mem_append.1 e with e | e
            · exact absurd e hin
            · exact (List.mem_singleton.1 e).symm
          obtain ⟨⟨xb, rfl⟩, _⟩ := own_addr (hL.at (i := 1) rfl) (by omega)
          repeat (first | (refine RunH ?_; intro w hL hB; try clear w) | (refine Both.mk ?_ ?_ <;> conv => whnf) | fail)
          intro o4 ho4
          conv => whnf
          repeat (first | (refine RunH ?_; intro w hL hB; try clear w) | (refine Both.mk ?_ ?_ <;> conv => whnf) | fail)
          refine Ld.row1 ttOk (hL.rowN (i := 1) rfl).rowOf rfl rfl (k := j) (numC_get hgj) (by omega) ?_
          conv => whnf
          repeat (first | (refine RunH ?_; intro w hL hB; try clear w) | (refine Both.mk ?_ ?_ <;> conv => whnf) | fail)
          exact ⟨j + 1, ⟨rfl, rfl, rfl, rfl, rfl, rfl, rfl, rfl, rfl, rfl, rfl, rfl, rfl, by rw [hin']; rfl, rfl, trivial⟩, ⟨by omega, hB, hL⟩, (by first | omega | (dsimp only; omega))⟩
      · obtain rfl : j = acc.length := by omega
        rw [List.take_length]
        have hal := hacc.2.2
        rw [List.length_take] at hal
        by_cases hin : m ∈ acc
        · have hfs' : foldD i (ns.take (k + 1)) = acc := by rw [hfs, stepD, hmx, if_pos hin]
          rw [decide_eq_true hin]
          repeat (first | (refine RunH ?_; intro w hL hB; try clear w) | (refine Both.mk ?_ ?_ <;> conv => whnf) | fail)
          exact ⟨(k + 1, .slice xa acc.length xc), ⟨rfl, rfl, rfl, rfl, rfl, rfl, rfl, rfl, rfl, rfl, rfl, rfl, trivial⟩, ⟨by dsimp only; omega, by dsimp only; omega, hB, by dsimp only; rw [hfs']; exact hL⟩, (by first | omega | (dsimp only; omega))⟩
        · have hfs' : foldD i (ns.take (k + 1)) = acc ++ [m] := by rw [hfs, stepD, hmx, if_neg hin]
          rw [decide_eq_false hin]
          repeat (first | (refine RunH ?_; intro w hL hB; try clear w) | (refine Both.mk ?_ ?_ <;> conv => whnf) | fail)
          refine Rv.buildS ttOk hL tl24 tl3 rfl rfl (by intro u hu; simp only [List.mem_singleton] at hu; subst hu; rfl) (by decide) (by decide) hB fun bo w hL hB => ?_
          conv => whnf
          refine Rv.appendS ttOk hL tl24 tl3 rfl (by decide) 2 rfl (hL.rowN (i := 0) rfl) (allOne_mem rfl) (by simp only [maxLen]; omega) (by omega) hB fun vo w hL hB => ?_
          dsimp only [List.set] at hL
          obtain ⟨ya, yc, rfl⟩ := (hL.rowN (i := 2) rfl).shape
          conv => whnf
          repeat (first | (refine RunH ?_; intro w hL hB; try clear w) | (refine Both.mk ?_ ?_ <;> conv => whnf) | fail)
          refine ⟨(k + 1, .slice ya (acc.length + 1) yc), ⟨rfl, rfl, rfl, rfl, rfl, rfl, rfl, rfl, rfl, rfl, rfl, rfl, trivial⟩, ⟨by dsimp only; omega, by dsimp only; omega, hB, ?_⟩, (by first | omega | (dsimp only; omega))⟩
          dsimp only
          rw [hfs', numC_snoc, List.length_append]
          exact hL.tl
    · have hkend : foldD i (ns.take k) = foldD i (ns.take c.cp.toNat) := by
        by_cases e : (k : Int) < ns.length
        · have : k = c.cp.toNat := by omega
          rw [this]
        · rw [List.take_of_length_le (by omega), List.take_of_length_le (by omega)]
      have hrv := (hn.below hL.below).sl.toN.rowOf
      have hfl := (foldD_props (S := (i : Int)) (by omega) (ns.take c.cp.toNat)).2.2
      rw [List.length_take] at hfl
      rw [hkend] at hL hacc ⊢
      by_cases hnil : foldD i (ns.take c.cp.toNat) = []
      · have hnd : ndE i c.cp z ns = [(z : Int).tmod i] := by unfold ndE; rw [if_pos hnil]
        rw [hnil] at hL ⊢
        have hk0 : (([] : List Int).length : Int) = 0 := rfl
        rcases Nat.lt_or_ge k ns.length with hkl | hkl
        all_goals
          repeat (first | (refine RunH ?_; intro w hL hB; try clear w) | (refine Both.mk ?_ ?_ <;> conv => whnf) | fail)
          intro o1 ho1
          conv => whnf
          refine Ld.row1 ttOk hrv rfl rfl (k := z) hvz (by omega) ?_
          conv => whnf
          repeat (first | (refine RunH ?_; intro w hL hB; try clear w) | (refine Both.mk ?_ ?_ <;> conv => whnf) | (refine Rem.mk (by omega) ?_; conv => whnf) | fail)
          refine Rv.buildS ttOk hL tl24 tl3 rfl rfl (by intro u hu; simp only [List.mem_singleton] at hu; subst hu; rfl) (by decide) (by decide) hB fun bo w hL hB => ?_
          conv => whnf
          repeat (first | (refine Br.go ?_; first | ((first | refine Br.tt ?_ | refine Br.ff ?_ | refine Br.y ?_ | refine Br.n ?_ | refine Br.t ?_ | refine Br.f ?_ | fail); conv => whnf) | refine Br.not ?_ | fail) | (refine Ld.go ?_; first | ((first | refine Ld.x ttOk hL ?_ | refine Ld.p ttOk hL ?_ | fail); conv => whnf) | fail) | (refine St.x ttOk hL hB (fun w hL hB => ?_); dsimp only [List.set, splice, overL, cellsL, takeL, dropL, List.drop, List.take] at hL; conv => whnf) | (refine Lq.go ?_; first | ((first | refine Lq.x ttOk hL.cls ?_ | refine Lq.x ttOk (fun _ h => h) ?_ | refine Lq.p ttOk hL.cls ?_ | refine Lq.p ttOk (fun _ h => h) ?_ | fail); conv => whnf) | fail) | (refine Ar.go ?_; first | ((first | refine Ar.s ?_ | refine Ar.u ?_ | refine Ar.h ?_ | refine Ar.b ?_ | fail); conv => whnf) | fail) | ((first | refine Chk.m ?_ | refine Qv.str ttOk rfl rfl rfl ?_ | refine An.x hL ?_ | fail); conv => whnf) | (refine Both.mk ?_ ?_ <;> conv => whnf) | fail)
          replace hL := (hL.pop 2).perm (List.Perm.swap _ _ _)
          dsimp only [List.eraseIdx] at hL
          replace hL : Sep Try.prog w0.heap.size w0 w (.blk b18 [.int .i64 ((z : Int) + 1), .int .i64 (stE sts z), .int .i64 1, (.slice (some ⟨bo, 0, none⟩) (ndE i c.cp z ns).length 1), .bool ((fz[z]?).getD false), .int .i64 0] 30 :: .row 3 1 (.slice (some ⟨bo, 0, none⟩) (ndE i c.cp z ns).length 1) (ndE i c.cp z ns).length (numC (ndE i c.cp z ns)) :: .row 30 6 out vs.length (vs.flatMap pvC) :: .row 3 1 szv z (numC (List.replicate z (max 0 sz))) :: .row 4 1 lv i (boolC (List.replicate i true)) :: .blk b10 (cfC c) 26 :: Rs) := by rw [hnd]; exact hL
          repeat (first | (refine RunH ?_; intro w hL hB; try clear w) | (refine Both.mk ?_ ?_ <;> conv => whnf) | fail)
          refine Rv.buildS ttOk hL tl22 tl30 rfl rfl (by intro u hu; simp only [List.mem_singleton] at hu; subst hu; rfl) (by decide) (by decide) hB fun bq w hL hB => ?_
          conv => whnf
          refine Rv.appendS ttOk hL tl22 tl30 rfl (by decide) 3 rfl (hL.rowN (i := 0) rfl) (allOne_mem rfl) (by simp only [maxLen]; omega) (by omega) hB fun vo w hL hB => ?_
          dsimp only [List.set] at hL
          conv => whnf
          repeat (first | (refine RunH ?_; intro w hL hB; try clear w) | (refine Both.mk ?_ ?_ <;> conv => whnf) | fail)
          refine Rv.buildS ttOk hL tl24 tl3 rfl rfl (by intro u hu; simp only [List.mem_singleton] at hu; subst hu; rfl) (by decide) (by decide) hB fun br w hL hB => ?_
          conv => whnf
          refine Rv.appendS ttOk hL tl24 tl3 rfl (by decide) 5 rfl (hL.rowN (i := 0) rfl) (allOne_mem rfl) (by simp only [maxLen]; omega) (by omega) hB fun vq w hL hB => ?_
          dsimp only [List.set] at hL
          conv => whnf
          repeat (first | (refine RunH ?_; intro w hL hB; try clear w) | (refine Both.mk ?_ ?_ <;> conv => whnf) | fail)
          refine ⟨(z + 1, vo, vq, vs ++ [(volE i c.cp sts fz z ns, .slice (some ⟨bo, 0, none⟩) (ndE i c.cp z ns).length 1)], rR (volE i c.cp sts fz z ns, .slice (some ⟨bo, 0, none⟩) (ndE i c.cp z ns).length 1) :: Rs), ⟨rfl, rfl, rfl, rfl, rfl, rfl, rfl, rfl, rfl, rfl, trivial⟩, ⟨by dsimp only; omega, ?_, ?_, hB, ?_⟩, (by first | omega | (dsimp only; omega))⟩
          · dsimp only
            rw [hvE, ← hvs]; simp [pvs]
          · intro q hq
            dsimp only at hq ⊢
            rcases List.mem_append.1 hq with hq | hq
            · exact List.mem_cons_of_mem _ (hRs q hq)
            · rw [List.mem_singleton] at hq
              subst hq
              exact List.mem_cons_self ..
          · have h9 := ((hL.pop 0).pop 0).pop 0
            dsimp only [List.eraseIdx] at h9
            dsimp only
            rw [List.length_append, List.flatMap_append, List.replicate_succ', numC_app]
            exact h9.perm (List.perm_middle (l₁ := [_, _, _, _])).symm
      · have hnd : ndE i c.cp z ns = foldD i (ns.take c.cp.toNat) := by unfold ndE; rw [if_neg hnil]
        have hlen : 0 < (ndE i c.cp z ns).length := by rw [hnd]; exact List.length_pos_iff.2 hnil
        have hcl9 : (ndE i c.cp z ns).length ≤ 5 := by rw [hnd]; omega
        rw [← hnd] at hL ⊢
        rcases Nat.lt_or_ge k ns.length with hkl | hkl
        all_goals
          repeat (first | (refine RunH ?_; intro w hL hB; try clear w) | (refine Both.mk ?_ ?_ <;> conv => whnf) | fail)
          intro o1 ho1
          conv => whnf
          refine Ld.row1 ttOk hrv rfl rfl (k := z) hvz (by omega) ?_
          conv => whnf
          repeat (first | (refine RunH ?_; intro w hL hB; try clear w) | (refine Both.mk ?_ ?_ <;> conv => whnf) | fail)
          refine Rv.buildS ttOk hL tl22 tl30 rfl rfl (by intro u hu; simp only [List.mem_singleton] at hu; subst hu; rfl) (by decide) (by decide) hB fun bq w hL hB => ?_
          conv => whnf
          refine Rv.appendS ttOk hL tl22 tl30 rfl (by decide) 3 rfl (hL.rowN (i := 0) rfl) (allOne_mem rfl) (by simp only [maxLen]; omega) (by omega) hB fun vo w hL hB => ?_
          dsimp only [List.set] at hL
          conv => whnf
          repeat (first | (refine RunH ?_; intro w hL hB; try clear w) | (refine Both.mk ?_ ?_ <;> conv => whnf) | fail)
          refine Rv.buildS ttOk hL tl24 tl3 rfl rfl (by intro u hu; simp only [List.mem_singleton] at hu; subst hu; rfl) (by decide) (by decide) hB fun br w hL hB => ?_
          conv => whnf
          refine Rv.appendS ttOk hL tl24 tl3 rfl (by decide) 5 rfl (hL.rowN (i := 0) rfl) (allOne_mem rfl) (by simp only [maxLen]; omega) (by omega) hB fun vq w hL hB => ?_
          dsimp only [List.set] at hL
          conv => whnf
          repeat (first | (refine RunH ?_; intro w hL hB; try clear w) | (refine Both.mk ?_ ?_ <;> conv => whnf) | fail)
          refine ⟨(z + 1, vo, vq, vs ++ [(volE i c.cp sts fz z ns, .slice xa (ndE i c.cp z ns).length xc)], rR (volE i c.cp sts fz z ns, .slice xa (ndE i c.cp z ns).length xc) :: Rs), ⟨rfl, rfl, rfl, rfl, rfl, rfl, rfl, rfl, rfl, rfl, trivial⟩, ⟨by dsimp only; omega, ?_, ?_, hB, ?_⟩, (by first | omega | (dsimp only; omega))⟩
          · dsimp only
            rw [hvE, ← hvs]; simp [pvs]
          · intro q hq
            dsimp only at hq ⊢
            rcases List.mem_append.1 hq with hq | hq
            · exact List.mem_cons_of_mem _ (hRs q hq)
            · rw [List.mem_singleton] at hq
              subst hq
              exact List.mem_cons_self ..
          · have h9 := ((hL.pop 0).pop 0).pop 0
            dsimp only [List.eraseIdx] at h9
            dsimp only
            rw [List.length_append, List.flatMap_append, List.replicate_succ', numC_app]
            exact h9.perm (List.perm_middle (l₁ := [_, _, _, _])).symm
  · have hlt3 : ¬ (z : Int) < (nss.length : Int) := hlt
    obtain rfl : z = nss.length := by omega
    have hC : EndC i (List.replicate i true) c := ⟨by omega, by omega, rfl, hc1, hc5, hcS, hk1, hk10, hm0, hm4⟩
    have hI : EndI i c (pvs vs) := by rw [hvs]; exact volsE_end (by omega) hc1 h12
    have hle := left_le (sizes := List.replicate nss.length (max 0 sz)) hC hI
    repeat (first | (refine RunH ?_; intro w hL hB; try clear w) | (refine Both.mk ?_ ?_ <;> conv => whnf) | fail)
    refine V.loop (α := Nat × List (PV × Value) × List Res) (fun y => [(10, .pointer (some ⟨b10, 0, none⟩)), (13, out), (14, lv), (15, szv), (23, .int .i64 y.1)])
      (fun y w' => y.2.1.length = nss.length ∧ EndI i c (pvs y.2.1) ∧ y.1 + leftS i (List.replicate nss.length (max 0 sz)) c (pvs y.2.1) ≤ 1044 ∧ (∀ p ∈ y.2.1, rR p ∈ y.2.2) ∧ w0.heap.size ≤ w'.heap.size ∧ Sep Try.prog w0.heap.size w0 w' (.row 30 6 out y.2.1.length (y.2.1.flatMap pvC) :: .row 3 1 szv nss.length (numC (List.replicate nss.length (max 0 sz))) :: .row 4 1 lv i (boolC (List.replicate i true)) :: .blk b10 (cfC c) 26 :: y.2.2)) (fun y => 2000 - y.1) (0, vs, Rs) ⟨rfl, rfl, rfl, rfl, rfl, trivial⟩ ⟨hvl, hI, by dsimp only; omega, hRs, hB, hL⟩ ?_
    clear hL hB hI hle hvs hvl hRs
    rintro ⟨rd, vs, Rs⟩ w ⟨hvl, hI, hrd, hRs, hB, hL⟩
    dsimp only at hvl hI hrd hRs hL
    have hV : VolS w out vs := ⟨hL.rowN (i := 0) rfl, fun p hp => rR_sl (hL.hold (rR p) (List.mem_cons_of_mem _ (List.mem_cons_of_mem _ (List.mem_cons_of_mem _ (List.mem_cons_of_mem _ (hRs p hp)))))), by omega, fun p hp => by
      have h1 := hI.each p.1 (List.mem_map_of_mem hp)
      rcases h1.st with ⟨_, h2⟩ | ⟨_, _, h2⟩ <;> omega⟩
    repeat (first | (refine RunH ?_; intro w hL hB; try clear w) | (refine Both.mk ?_ ?_ <;> conv => whnf) | fail)
    refine (next_fn _ _ _ vs (List.replicate i true) (List.replicate nss.length (max 0 sz)) c w hV (hL.rowN (i := 2) rfl).to1.e (hL.rowN (i := 1) rfl).to1.e (by omega)).mono fun r w' hx => ?_
    rcases hx.cases with ⟨hro, rfl, hbl⟩ | ⟨a, ka, kc, ea, ec, hro, rfl, hS⟩
    · replace hL := hL.call hB (Turns.of_below hbl)
      replace hB := Nat.le_trans hB hbl.size
      have hend := next_end hC hI hro
      replace hV := hV.below hbl
      unfold noneV
      conv => whnf
      repeat (first | (refine RunH ?_; intro w hL hB; try clear w) | (refine Both.mk ?_ ?_ <;> conv => whnf) | fail)
      (refine Nw.sep hL hB (fun b24 w hL hB hb24 => ?_); conv => whnf)
      repeat (first | (refine RunH ?_; intro w hL hB; try clear w) | (refine Both.mk ?_ ?_ <;> conv => whnf) | fail)
      have hV2 : VolS w out vs := ⟨hL.rowN (i := 1) rfl, fun p hp => rR_sl (hL.hold (rR p) (List.mem_cons_of_mem _ (List.mem_cons_of_mem _ (List.mem_cons_of_mem _ (List.mem_cons_of_mem _ (List.mem_cons_of_mem _ (hRs p hp))))))), hV.few, hV.ten⟩
      repeat (first | (refine RunH ?_; intro w hL hB; try clear w) | (refine Both.mk ?_ ?_ <;> conv => whnf) | (refine (lawWhole_fn _ vs c _ hV2 (by omega) (by omega) hend).mono fun r w hr => ?_; obtain ⟨hr, hw⟩ := hr; subst hr; replace hL := hL.call hB (Turns.of_below hw); replace hB := Nat.le_trans hB hw.size; conv => whnf) | (refine (known_fn _).mono fun r w hr => ?_; obtain ⟨hr, hw⟩ := hr; subst hr; replace hL := hL.call hB (Turns.of_below hw); replace hB := Nat.le_trans hB hw.size; conv => whnf) | fail)
      exact ⟨rfl, hL.below⟩
    · replace hL := hL.adds hB hS
      replace hB := Nat.le_trans hB hS.below.size
      obtain ⟨k, hk, hkv, hI2, hlt⟩ := next_step hC hI hro
      rw [pvs_len] at hk
      have hgk : vs[k]? = some vs[k] := List.getElem?_eq_getElem hk
      have hkp : (pvs vs)[k] = (vs[k]).1 := by simp [pvs]
      rw [hkp] at hI2 hlt
      have hmem := List.getElem_mem hk
      generalize vs[k] = pv at *
      obtain ⟨p, nv⟩ := pv
      dsimp only at hI2 hlt
      have hns := hV.ns _ hmem
      dsimp only at hns
      obtain ⟨na, nc, hnv⟩ := hns.shape
      rw [numC_len] at hnv
      subst hnv
      obtain ⟨oa, oc, rfl⟩ := (hL.rowN (i := 2) rfl).shape
      obtain ⟨⟨ob, rfl⟩, _⟩ := own_addr (hL.at (i := 2) rfl) (by omega)
      have hel : a.ns.length ≤ 100 := by
        have h1 := hI2.each (putS p a) (List.mem_of_getElem? (i := k) (by simp [pvs_len, hk]))
        have h2 : (putS p a).ns = a.ns := rfl
        rcases h1.st with ⟨_, h3⟩ | ⟨_, _, h3⟩ <;> rw [h2] at h3 <;> omega
      unfold actV
      conv => whnf
      repeat (first | (refine RunH ?_; intro w hL hB; try clear w) | (refine Both.mk ?_ ?_ <;> conv => whnf) | fail)
      (refine Nw.sep hL hB (fun b24 w hL hB hb24 => ?_); conv => whnf)
      repeat (first | (refine RunH ?_; intro w hL hB; try clear w) | (refine Both.mk ?_ ?_ <;> conv => whnf) | fail)
      intro o1 ho1
      conv => whnf
      refine Ld.rowN ttOk pvC_len (hL.rowN (i := 3) rfl).rowOf rfl rfl rfl hgk (by omega) ?_
      conv => whnf
      (refine Nw.sep hL hB (fun b26 w hL hB hb26 => ?_); conv => whnf)
      repeat (first | (refine Br.go ?_; first | ((first | refine Br.tt ?_ | refine Br.ff ?_ | refine Br.y ?_ | refine Br.n ?_ | refine Br.t ?_ | refine Br.f ?_ | fail); conv => whnf) | refine Br.not ?_ | fail) | (refine Ld.go ?_; first | ((first | refine Ld.x ttOk hL ?_ | refine Ld.p ttOk hL ?_ | fail); conv => whnf) | fail) | (refine St.x ttOk hL hB (fun w hL hB => ?_); dsimp only [List.set, splice, overL, cellsL, takeL, dropL, List.drop, List.take] at hL; conv => whnf) | (refine Lq.go ?_; first | ((first | refine Lq.x ttOk hL.cls ?_ | refine Lq.x ttOk (fun _ h => h) ?_ | refine Lq.p ttOk hL.cls ?_ | refine Lq.p ttOk (fun _ h => h) ?_ | fail); conv => whnf) | fail) | (refine Ar.go ?_; first | ((first | refine Ar.s ?_ | refine Ar.u ?_ | refine Ar.h ?_ | refine Ar.b ?_ | fail); conv => whnf) | fail) | ((first | refine Chk.m ?_ | refine Qv.str ttOk rfl rfl rfl ?_ | refine An.x hL ?_ | fail); conv => whnf) | (refine Both.mk ?_ ?_ <;> conv => whnf) | fail)
      dsimp only [pvC, cellsL, overL, splice] at hL
      repeat (first | (refine RunH ?_; intro w hL hB; try clear w) | (refine Both.mk ?_ ?_ <;> conv => whnf) | fail)
      refine Rv.buildS (len := 0) ttOk hL tl24 tl3 rfl rfl (by simp [cellsL]) (by decide) (by decide) hB fun bz w hL hB => ?_
      conv => whnf
      repeat (first | (refine RunH ?_; intro w hL hB; try clear w) | (refine Both.mk ?_ ?_ <;> conv => whnf) | fail)
      refine Rv.appendS ttOk hL tl24 tl3 rfl (by decide) 0 rfl (hL.rowN (i := 4) rfl) (numC_one _) (by simp only [maxLen]; omega) (by omega) hB fun vo w hL hB => ?_
      dsimp only [List.set] at hL
      rw [List.flatMap_nil, List.nil_append, Nat.zero_add] at hL
      obtain ⟨ya, yc, rfl⟩ := (hL.rowN (i := 0) rfl).shape
      conv => whnf
      repeat (first | (refine RunH ?_; intro w hL hB; try clear w) | (refine Both.mk ?_ ?_ <;> conv => whnf) | fail)
      intro o2 ho2
      obtain rfl : o2 = k * 6 := by omega
      conv => whnf
      refine St.rowS ttOk hL 5 rfl rfl rfl rfl (by rw [flat_len pvC_len]; show k * 6 + 6 ≤ _; omega) hB (fun w hL hB => ?_)
      dsimp only [List.set] at hL
      replace hL := ((((hL.pop 1).pop 1).pop 1).pop 1).perm (List.perm_middle (l₁ := [_, _, _, _])).symm
      have hspl := splice_elem pvC_len vs k (putS p a, .slice ya a.ns.length yc) hk
      replace hL : Sep Try.prog w0.heap.size w0 w (.row 30 6 (.slice (some ⟨ob, 0, none⟩) vs.length oc) vs.length ((vs.set k (putS p a, .slice ya a.ns.length yc)).flatMap pvC) :: .row 3 1 szv nss.length (numC (List.replicate nss.length (max 0 sz))) :: .row 4 1 lv i (boolC (List.replicate i true)) :: .blk b10 (cfC c) 26 :: rR (putS p a, .slice ya a.ns.length yc) :: Rs) := by
        rw [← hspl]; exact hL
      have hpset : pvs (vs.set k (putS p a, .slice ya a.ns.length yc)) = (pvs vs).set k (putS p a) := by unfold pvs; rw [List.map_set]
      conv => whnf
      repeat (first | (refine RunH ?_; intro w hL hB; try clear w) | (refine Both.mk ?_ ?_ <;> conv => whnf) | fail)
      refine ⟨(rd + 1, vs.set k (putS p a, .slice ya a.ns.length yc), rR (putS p a, .slice ya a.ns.length yc) :: Rs), ⟨rfl, rfl, rfl, rfl, rfl, trivial⟩, ⟨by dsimp only; rw [List.length_set]; exact hvl, by dsimp only; rw [hpset]; exact hI2, by dsimp only; rw [hpset]; omega, ?_, hB, ?_⟩, (by first | omega | (dsimp only; omega))⟩
      · intro q hq
        dsimp only at hq ⊢
        rcases List.mem_or_eq_of_mem_set hq with hq | hq
        · exact List.mem_cons_of_mem _ (hRs q hq)
        · rw [hq]; exact List.mem_cons_self ..
      · dsimp only
        rw [List.length_set]
        exact hL
end Go.Proofs.Ythifnfoppamkiaa
