/- garnerref12: Open, Dirt. Both disks beside one another. Nothing is claimed here. -/
import Derived.Test.YtladfadcgfdbfaaGreatDoorD41
import Derived.Test.YtladfadcgfdbfaaGreatDoorD18
import Derived.Test.YtladfadcgfdbfaaGreatDoorD39
namespace Go.Proofs.YtladfadcgfdbfaaGreatDoor
open Go.RowKit Go.Lib
set_option linter.unusedVariables false
set_option linter.unusedSimpArgs false
set_option maxRecDepth 100000
theorem mkB_inj {a b : List UInt8} : mkB a = mkB b ↔ a = b := by
  constructor
  · intro h
    have := congrArg ByteArray.data h
    simpa [mkB] using this
  · rintro rfl; rfl
section
variable {B k x room id : Nat} {ra : Option Addr} {rc : Nat} {ps rL : List Pc} {R : List Fl} {F : List Res} {w0 w : World}
set_option maxHeartbeats 8000000 in
theorem ropen_fn {nm : ByteArray} (hid : id ≤ 99999999) (hnm : vnmG id = nm) (hR : RkS B w0 w k room R F) :
    Fn Tryz.prog 88 #[ptr k, .int .i64 (id : Int)] w fun r w' =>
      (openE R nm id ≠ 0 → r = .tuple #[.pointer none, .int .i64 (openE R nm id : Nat)] ∧ RkS B w0 w' k room R F) ∧
      (openE R nm id = 0 → ∃ x ra rc rL o, ScanL (datS R nm) 8 [] rL o ∧ OkP rL ∧ rL.length ≤ (datS R nm).length ∧ r = .tuple #[ptr x, .int .i64 0] ∧ RkS B w0 w' k room (cutAt R nm o) (rvRes x k id ra rc rL F)) := by
  have hs := vnmG_size hid
  have hname := nameR_fn id hid
  rw [hnm] at hs hname
  have h8 := vhd_len id
  have hhd := vheadR_fn id hid
  have hszb := szRk_le hR nm
  have hE : openE R nm id = match getS R nm with | none => 7 | some f => if 8 ≤ f.d.length ∧ f.d.take 8 = vhd id then 0 else 3 := rfl
  have hdl := datS_len R nm
  have hdat : datS R nm = match getS R nm with | some f => f.d | none => [] := rfl
  generalize vhd id = G at *
  generalize openE R nm id = E at *
  obtain ⟨dL, hL, hB, close⟩ := hR.open
  clear hR
  refine Fn.mk Tryz.func88 rfl (by kernel_rfl) Tryz.ntmps88 rfl (by rw [Tryz.results88]) ?_
  repeat (first | (refine RunH ?_; intro w hL hB; try clear w) | (refine Both.mk ?_ ?_ <;> conv => whnf) | fail)
  refine (hname _).mono fun r w ⟨hr, hw⟩ => ?_
  subst hr
  replace hL := hL.call hB (Turns.of_below hw)
  replace hB := Nat.le_trans hB hw.size
  conv => whnf
  repeat (first | (refine RunH ?_; intro w hL hB; try clear w) | (refine Both.mk ?_ ?_ <;> conv => whnf) | fail)
  have hne : ¬ nm = ⟨#[]⟩ := fun e => by rw [e] at hs; exact absurd hs (by decide)
  refine Br.no (decide_eq_false hne) ?_
  conv => whnf
  repeat (first | (refine RunH ?_; intro w hL hB; try clear w) | (refine Both.mk ?_ ?_ <;> conv => whnf) | fail)
  refine (readR4_fn nm (close (F' := F) hL hB)).mono fun r w hD => ?_
  clear close hL hB
  cases hg : getS R nm with
  | none =>
    rw [hg] at hD hE
    dsimp only at hE
    obtain ⟨hr, hD⟩ := hD
    subst hr
    obtain ⟨dL, hL, hB, close⟩ := hD.open
    conv => whnf
    repeat (first | (refine RunH ?_; intro w hL hB; try clear w) | (refine Both.mk ?_ ?_ <;> conv => whnf) | fail)
    exact ⟨fun _ => ⟨by rw [hE]; rfl, close (F' := F) hL hB⟩, fun h => by rw [hE] at h; cases h⟩
  | some f =>
    rw [hg] at hD hE hdat
    dsimp only at hE hdat
    rw [hdat] at hdl
    rw [hdat]
    obtain ⟨u, hr, hD⟩ := hD
    subst hr
    obtain ⟨dL, hL, hB, close⟩ := hD.open
    obtain ⟨ua, uc, rfl⟩ := (show SlN w 1 u _ _ from hL.rowN (i := 0) rfl).shape
    clear hD
    have hfl : f.d.length ≤ 1073741824 := by omega
    generalize hb : f.d = b at *
    conv => whnf
    repeat (first | (refine RunH ?_; intro w hL hB; try clear w) | (refine Both.mk ?_ ?_ <;> conv => whnf) | fail)
    refine (hhd _).mono fun r w ⟨ho, hw⟩ => ?_
    replace hL := hL.addRow hB hw ho
    replace hB := Nat.le_trans hB hw.size
    clear ho hw
    obtain ⟨ga, gc, rfl⟩ := (show SlN w 1 r _ _ from hL.rowN (i := 0) rfl).shape
    conv => whnf
    repeat (first | (refine RunH ?_; intro w hL hB; try clear w) | (refine Both.mk ?_ ?_ <;> conv => whnf) | fail)
    by_cases hl8 : b.length < 8
    · rw [if_neg (by omega)] at hE
      repeat (first | (refine RunK ?_; intro w hL hB; try clear w) | (refine V.treeA ttOk hL (.q 0 (.q 1 (.q 2 (.q 3 (.q 4 (.q 5 (.q 6 (.q 7 (.q 8 (.q 9 (.q 10 .nil))))))))))) mixed (by decide +kernel) ?_; replace hL := hL.drew; conv => whnf) | (refine V.tailA ttOk mixed (by decide +kernel) ?_; replace hL := hL.drew; conv => whnf) | (refine Both.mk ?_ ?_ <;> conv => whnf) | fail)
      exact ⟨fun _ => ⟨by rw [hE]; rfl, close (F' := F) hL.tl.tl hB⟩, fun h => by rw [hE] at h; cases h⟩
    obtain ⟨bb, o, rfl, _⟩ := SlN.addr (show SlN w 1 (.slice ua b.length uc) b.length _ from hL.rowN (i := 1) rfl) (by omega)
    have hcap := (show Sl w (.slice (some ⟨bb, o, none⟩) b.length uc) (bv b) from hL.row (i := 1) rfl).len
    simp only [bv_length] at hcap
    repeat (first | (refine RunK ?_; intro w hL hB; try clear w) | (refine V.treeA ttOk hL (.q 0 (.q 1 (.q 2 (.q 3 (.q 4 (.q 5 (.q 6 (.q 7 (.q 8 (.q 9 (.q 10 .nil))))))))))) mixed (by decide +kernel) ?_; replace hL := hL.drew; conv => whnf) | (refine V.tailA ttOk mixed (by decide +kernel) ?_; replace hL := hL.drew; conv => whnf) | (refine Both.mk ?_ ?_ <;> conv => whnf) | fail)
    intro n1 c1 z1 z2
    obtain rfl : n1 = 8 := by omega
    conv => whnf
    repeat (first | (refine RunH ?_; intro w hL hB; try clear w) | (refine Both.mk ?_ ?_ <;> conv => whnf) | fail)
    refine Rq.toStr ttOk tl40 tl5 tl9 (l := b.take 8) (fun x0 hx0 => by
      have h1 := (show Sl x0 (.slice (some ⟨bb, o, none⟩) b.length uc) (bv b) from hx0.row (i := 1) rfl).take (k := 8) (by rw [bv_length]; omega) (c' := c1) (by omega) (by omega)
      rwa [← bv_take] at h1) ?_
    conv => whnf
    repeat (first | (refine RunH ?_; intro w hL hB; try clear w) | (refine Both.mk ?_ ?_ <;> conv => whnf) | fail)
    refine Rq.toStr ttOk tl40 tl5 tl9 (l := G) (fun x0 hx0 => hx0.row (i := 0) rfl) ?_
    conv => whnf
    repeat (first | (refine RunH ?_; intro w hL hB; try clear w) | (refine Both.mk ?_ ?_ <;> conv => whnf) | fail)
    by_cases hG : b.take 8 = G
    case neg =>
      rw [if_neg (fun h => hG h.2)] at hE
      repeat (first | (refine RunH ?_; intro w hL hB; try clear w) | (refine Both.mk ?_ ?_ <;> conv => whnf) | (refine Br.no (decide_eq_false fun h => hG (mkB_inj.1 h)) ?_; conv => whnf) | fail)
      exact ⟨fun _ => ⟨by rw [hE]; rfl, close (F' := F) hL.tl.tl hB⟩, fun h => by rw [hE] at h; cases h⟩
    rw [if_pos ⟨by omega, hG⟩] at hE
    repeat (first | (refine RunH ?_; intro w hL hB; try clear w) | (refine Both.mk ?_ ?_ <;> conv => whnf) | (refine Br.yes (decide_eq_true (mkB_inj.2 hG)) ?_; conv => whnf) | (refine Nw.sep hL hB (fun x w hL hB hx => ?_); conv => whnf) | fail)
    clear hcap
    have hcap := (show Sl _ (.slice (some ⟨bb, o, none⟩) b.length uc) (bv b) from hL.row (i := 2) rfl).len
    simp only [bv_length] at hcap
    have hLn := (hL.sub (.cons_cons _ (.cons _ (.refl _)))).addRow hB (Below.refl _ _) (e := 87) (sz := 5) (v := .slice none 0 0) (n := 0) (xs := []) ⟨rfl, .inl ⟨rfl, rfl⟩⟩
    replace hLn := hLn.perm (.swap _ _ _)
    refine V.loop (α := Nat × List Pc × Option Addr × Nat) (fun z => [(0, ptr k), (6, .string nm), (7, .slice (some ⟨bb, o, none⟩) b.length uc), (10, ptr x), (11, .int .i64 (z.1 : Int))])
      (fun z w' => 8 ≤ z.1 ∧ z.1 ≤ b.length ∧ OkP z.2.1 ∧ z.2.1.length ≤ z.1 ∧ (∀ ps' o, ScanL b z.1 z.2.1 ps' o → ScanL b 8 [] ps' o) ∧ B ≤ w'.heap.size ∧
        Sep Tryz.prog B w0 w' (.blk x [ptr k, .int .i64 (id : Int), .slice z.2.2.1 z.2.1.length z.2.2.2] 107 :: .row 87 5 (.slice z.2.2.1 z.2.1.length z.2.2.2) z.2.1.length (z.2.1.flatMap pcC) :: .row 5 1 (.slice (some ⟨bb, o, none⟩) b.length uc) b.length (bv b) :: (F ++ dL)))
      (fun z => b.length - z.1) (8, [], none, 0) ⟨rfl, rfl, rfl, rfl, rfl, trivial⟩ ⟨Nat.le_refl _, by dsimp only; omega, (fun p hp => by cases hp), Nat.zero_le _, (fun _ _ h => h), hB, hLn⟩ ?_
    clear hL hB hLn
    rintro ⟨q, rL, ra, rc⟩ w ⟨hk8, hkl, hok, hlen, hsc, hB, hL⟩
    dsimp only at hk8 hkl hok hlen hsc hL ⊢
    by_cases hlt : q < b.length
    case neg =>
      obtain rfl : q = b.length := by omega
      repeat (first | (refine RunH ?_; intro w hL hB; try clear w) | (refine Both.mk ?_ ?_ <;> conv => whnf) | fail)
      exact ⟨fun h => absurd hE h, fun _ => ⟨x, ra, rc, rL, none, hsc _ _ (.over _ _ (Nat.le_refl _)), hok, hlen, rfl, close (F' := _ :: _ :: F) (hL.sub (.cons_cons _ (.cons_cons _ (.cons _ (.refl _))))) hB⟩⟩
    repeat (first | (refine RunH ?_; intro w hL hB; try clear w) | (refine Both.mk ?_ ?_ <;> conv => whnf) | fail)
    intro o1 n1 c1 z1 z2 z3 z4
    conv => whnf
    repeat (first | (refine RunH ?_; intro w hL hB; try clear w) | (refine Both.mk ?_ ?_ <;> conv => whnf) | fail)
    have hsl := hL.row (i := 2) rfl
    refine (decNR_fn _ (b.drop q) _ (by rw [bv_drop]; exact hsl.drop (k := q) (by rw [bv_length]; omega) (by omega) (by omega) (by omega))).mono fun r w ⟨hr, hw⟩ => ?_
    have hkey := dKey_lt (b.drop q)
    have hcook : dCook (b.drop q) < 4294967296 := win4_lt _ 12
    replace hL := hL.call hB (Turns.of_below hw)
    replace hB := Nat.le_trans hB hw.size
    have hr' : ((dE (b.drop q) = 2 ∨ dE (b.drop q) = 3) ∧ r = .tuple #[zeroN, .int .i64 0, .int .i64 (dE (b.drop q) : Nat)]) ∨ (∃ (ua : Option Addr) (un uc : Nat) (e : Nat), (e = 0 ∨ e = 4) ∧ dE (b.drop q) = e ∧ r = .tuple #[.agg (ndC (dKey (b.drop q)) (dCook (b.drop q)) (dDead (b.drop q)) (.slice ua un uc)).toArray, .int .i64 (szN (dSize (b.drop q)) : Nat), .int .i64 (e : Nat)]) := by
      rcases hr with h | ⟨h1, h2⟩ | ⟨h1, u, h2, ho⟩
      · exact .inl h
      · exact .inr ⟨_, _, _, 4, .inr rfl, h1, h2⟩
      · obtain ⟨xa, xc, rfl⟩ := (SlN.of_own ho).shape
        exact .inr ⟨_, _, _, 0, .inl rfl, h1, h2⟩
    clear hr hsl
    rcases hr' with ⟨hE2, rfl⟩ | ⟨ya, yn, yc, e, he, hE4', rfl⟩
    · rw [zeroN]
      have hcut := ScanL.cut (b := b) q rL hlt hE2
      rcases hE2 with h2 | h2 <;> (
        rw [h2]
        conv => whnf
        (refine Nw.sep hL hB (fun t12 w hL hB ht12 => ?_); conv => whnf)
        repeat (first | (refine RunH ?_; intro w hL hB; try clear w) | (refine Both.mk ?_ ?_ <;> conv => whnf) | fail)
        replace hL := hL.tl
        refine (cutR_fn nm (q : Int) (close (F' := _ :: _ :: _ :: F) hL hB)).mono fun r w ⟨hr, hD⟩ => ?_
        clear close hL hB
        obtain ⟨dL2, hL, hB, close⟩ := hD.open
        conv => whnf
        repeat (first | (refine RunH ?_; intro w hL hB; try clear w) | (refine Both.mk ?_ ?_ <;> conv => whnf) | fail)
        exact ⟨fun h => absurd hE h, fun _ => ⟨x, ra, rc, rL, some q, hsc _ _ hcut, hok, by omega, rfl, close (F' := _ :: _ :: F) (hL.sub (.cons_cons _ (.cons_cons _ (.cons _ (.refl _))))) hB⟩⟩)
    have hE4 : dE (b.drop q) = 4 ∨ dE (b.drop q) = 0 := by omega
    have hds := dSize_le hE4
    have hsn := szN_le (dSize (b.drop q))
    have hdl2 : (b.drop q).length = b.length - q := List.length_drop
    have hokn : OkP (rL ++ [⟨dKey (b.drop q), q, szN (dSize (b.drop q)), dCook (b.drop q), dDead (b.drop q)⟩]) := fun p hp => by
      rcases List.mem_append.1 hp with hp | hp
      · exact hok p hp
      · simp only [List.mem_singleton] at hp
        subst hp
        exact ⟨hkey, hcook, by dsimp only; omega, by dsimp only; omega, by dsimp only; omega⟩
    have hlen1 : (rL ++ [(⟨dKey (b.drop q), q, szN (dSize (b.drop q)), dCook (b.drop q), dDead (b.drop q)⟩ : Pc)]).length ≤ q + szN (dSize (b.drop q)) := by simp only [List.length_append, List.length_cons, List.length_nil]; omega
    have hfin : ∀ {w : World} {vb : Option Addr} {vd : Nat}, Sep Tryz.prog B w0 w (.blk x [ptr k, .int .i64 (id : Int), .slice vb (rL.length + 1) vd] 107 :: .row 87 5 (.slice vb (rL.length + 1) vd) (rL.length + 1) (rL.flatMap pcC ++ pcC ⟨dKey (b.drop q), q, szN (dSize (b.drop q)), dCook (b.drop q), dDead (b.drop q)⟩) :: .row 5 1 (.slice (some ⟨bb, o, none⟩) b.length uc) b.length (bv b) :: (F ++ dL)) → Sep Tryz.prog B w0 w (.blk x [ptr k, .int .i64 (id : Int), .slice vb (rL ++ [(⟨dKey (b.drop q), q, szN (dSize (b.drop q)), dCook (b.drop q), dDead (b.drop q)⟩ : Pc)]).length vd] 107 :: .row 87 5 (.slice vb (rL ++ [(⟨dKey (b.drop q), q, szN (dSize (b.drop q)), dCook (b.drop q), dDead (b.drop q)⟩ : Pc)]).length vd) (rL ++ [(⟨dKey (b.drop q), q, szN (dSize (b.drop q)), dCook (b.drop q), dDead (b.drop q)⟩ : Pc)]).length ((rL ++ [(⟨dKey (b.drop q), q, szN (dSize (b.drop q)), dCook (b.drop q), dDead (b.drop q)⟩ : Pc)]).flatMap pcC) :: .row 5 1 (.slice (some ⟨bb, o, none⟩) b.length uc) b.length (bv b) :: (F ++ dL)) := fun h => by
      rw [List.flatMap_append, List.length_append]
      simpa using h
    rw [ndC]
    rcases he with rfl | rfl <;> (
      conv => whnf
      (refine Nw.sep hL hB (fun t12 w hL hB ht12 => ?_); conv => whnf)
      repeat (first | (refine RunK ?_; intro w hL hB; try clear w) | (refine V.tree ttOk (fun x0 => Sep Tryz.prog _ w0 x0 (.blk t12 [.int .u64 (dKey (b.drop q) : Int), .int .u32 (dCook (b.drop q) : Int), .bool (dDead (b.drop q)), .slice ya yn yc] 42 :: .row 5 1 (.slice (some ⟨bb, o, none⟩) b.length uc) b.length (bv b) :: (F ++ dL))) (.q 0 (.q 1 (.q 2 (.q 3 (.q 5 (.q 6 (.q 7 (.q 8 (.q 9 (.q 10 (.q 11 (.q 12 (.q 13 (.alt 4 (.alt 14 (.alt 15 (.q 16 (.q 17 (.alt 18 .nil .stop))) .stop) .stop) (.alt 14 (.alt 4 (.alt 15 (.q 16 (.q 17 (.alt 18 .nil .stop))) .stop) .stop) .stop))))))))))))))) mixed (by decide +kernel) (hL.drew.sub (.cons_cons _ (.cons _ (.cons _ (.refl _))))) ?_; replace hL := hL.drew; conv => whnf) | (refine V.tailA ttOk mixed (by decide +kernel) ?_; replace hL := hL.drew; conv => whnf) | (refine Both.mk ?_ ?_ <;> conv => whnf) | fail)
      refine Rv.buildS (len := 1) (vs := [pcV ⟨dKey (b.drop q), q, szN (dSize (b.drop q)), dCook (b.drop q), dDead (b.drop q)⟩]) ttOk hL tl73 tl87 rfl rfl (by intro u hu; simp only [List.mem_singleton] at hu; subst hu; rfl) (by decide) (by decide) hB fun bp w hL hB => ?_
      replace hL : Sep Tryz.prog B w0 w (.row 87 5 (.slice (some ⟨bp, 0, none⟩) 1 1) 1 (pcC ⟨dKey (b.drop q), q, szN (dSize (b.drop q)), dCook (b.drop q), dDead (b.drop q)⟩) :: _) := hL
      conv => whnf
      repeat (first | (refine RunH ?_; intro w hL hB; try clear w) | (refine Both.mk ?_ ?_ <;> conv => whnf) | fail)
      refine Rv.appendS (m := 1) ttOk hL tl73 tl87 rfl (by decide) 3 rfl (hL.rowN (i := 0) rfl) (pc_one _) (by simp only [maxLen]; omega) (by omega) hB fun vo w hL hB => ?_
      dsimp only [List.set] at hL
      obtain ⟨vb, vd, rfl⟩ := (show SlN w 5 vo (rL.length + 1) _ from hL.rowN (i := 3) rfl).shape
      conv => whnf
      repeat (first | (refine RunH ?_; intro w hL hB; try clear w) | (refine Both.mk ?_ ?_ <;> conv => whnf) | fail)
      exact ⟨(q + szN (dSize (b.drop q)), rL ++ [_], vb, vd), ⟨rfl, rfl, rfl, rfl, vint (by push_cast; rfl), trivial⟩, ⟨by dsimp only; omega, by dsimp only; omega, hokn, hlen1, fun ps' o h => hsc _ _ (.step _ _ _ _ hlt hE4 h), hB, hfin (hL.sub (.cons _ (.cons _ (.cons_cons _ (.cons_cons _ (.refl _))))))⟩, by dsimp only; omega⟩
      repeat (first | (refine RunH ?_; intro w hL hB; try clear w) | (refine Both.mk ?_ ?_ <;> conv => whnf) | fail)
      refine Rv.buildS (len := 1) (vs := [pcV ⟨dKey (b.drop q), q, szN (dSize (b.drop q)), dCook (b.drop q), dDead (b.drop q)⟩]) ttOk hL tl73 tl87 rfl rfl (by intro u hu; simp only [List.mem_singleton] at hu; subst hu; rfl) (by decide) (by decide) hB fun bp w hL hB => ?_
      replace hL : Sep Tryz.prog B w0 w (.row 87 5 (.slice (some ⟨bp, 0, none⟩) 1 1) 1 (pcC ⟨dKey (b.drop q), q, szN (dSize (b.drop q)), dCook (b.drop q), dDead (b.drop q)⟩) :: _) := hL
      conv => whnf
      repeat (first | (refine RunH ?_; intro w hL hB; try clear w) | (refine Both.mk ?_ ?_ <;> conv => whnf) | fail)
      refine Rv.appendS (m := 1) ttOk hL tl73 tl87 rfl (by decide) 3 rfl (hL.rowN (i := 0) rfl) (pc_one _) (by simp only [maxLen]; omega) (by omega) hB fun vo w hL hB => ?_
      dsimp only [List.set] at hL
      obtain ⟨vb, vd, rfl⟩ := (show SlN w 5 vo (rL.length + 1) _ from hL.rowN (i := 3) rfl).shape
      conv => whnf
      repeat (first | (refine RunH ?_; intro w hL hB; try clear w) | (refine Both.mk ?_ ?_ <;> conv => whnf) | fail)
      exact ⟨(q + szN (dSize (b.drop q)), rL ++ [_], vb, vd), ⟨rfl, rfl, rfl, rfl, vint (by push_cast; rfl), trivial⟩, ⟨by dsimp only; omega, by dsimp only; omega, hokn, hlen1, fun ps' o h => hsc _ _ (.step _ _ _ _ hlt hE4 h), hB, hfin (hL.sub (.cons _ (.cons _ (.cons_cons _ (.cons_cons _ (.refl _))))))⟩, by dsimp only; omega⟩)
end
end Go.Proofs.YtladfadcgfdbfaaGreatDoor
namespace Go.Proofs.YtladfadcgfdbfaaGreatDoor
open Go.RowKit Go.Lib
set_option linter.unusedVariables false
set_option linter.unusedSimpArgs false
set_option maxRecDepth 100000
/-- both disks, and what else there is -/
structure Btw (B : Nat) (w0 w : World) (d k room : Nat) (Sd Sk : List Fl) (F : List Res) : Prop where
  of : ∃ dD dR, Sep Tryz.prog B w0 w (F ++ (dD ++ dR)) ∧ B ≤ w.heap.size ∧
    (∀ {w' : World} {F' : List Res}, Sep Tryz.prog B w0 w' (F' ++ dD) → B ≤ w'.heap.size → DkS B w0 w' d room Sd F') ∧
    (∀ {w' : World} {F' : List Res}, Sep Tryz.prog B w0 w' (F' ++ dR) → B ≤ w'.heap.size → RkS B w0 w' k room Sk F')
section
variable {B : Nat} {w0 w : World} {d k room : Nat} {Sd Sk : List Fl} {F F' : List Res}
theorem Btw.sep (h : Btw B w0 w d k room Sd Sk F) : ∃ G, Sep Tryz.prog B w0 w (F ++ G) ∧ B ≤ w.heap.size ∧ ∀ {w' : World} {F' : List Res}, Sep Tryz.prog B w0 w' (F' ++ G) → B ≤ w'.heap.size → Btw B w0 w' d k room Sd Sk F' := by
  obtain ⟨dD, dR, hL, hB, c1, c2⟩ := h
  exact ⟨dD ++ dR, hL, hB, fun h1 h2 => ⟨⟨dD, dR, h1, h2, c1, c2⟩⟩⟩
theorem Btw.dk (h : Btw B w0 w d k room Sd Sk F) : ∃ dR, DkS B w0 w d room Sd (F ++ dR) ∧ ∀ {w' : World} {Sd' : List Fl} {F' : List Res}, DkS B w0 w' d room Sd' (F' ++ dR) → Btw B w0 w' d k room Sd' Sk F' := by
  obtain ⟨dD, dR, hL, hB, c1, c2⟩ := h
  refine ⟨dR, c1 (hL.perm ?_) hB, fun hD => ?_⟩
  · rw [List.append_assoc]; exact List.perm_append_comm.append_left F
  · obtain ⟨dL, hL, hB, cl⟩ := hD.open
    refine ⟨⟨dL, dR, hL.perm ?_, hB, cl, c2⟩⟩
    rw [List.append_assoc]; exact List.perm_append_comm.append_left _
theorem Btw.rk (h : Btw B w0 w d k room Sd Sk F) : ∃ dD, RkS B w0 w k room Sk (F ++ dD) ∧ ∀ {w' : World} {Sk' : List Fl} {F' : List Res}, RkS B w0 w' k room Sk' (F' ++ dD) → Btw B w0 w' d k room Sd Sk' F' := by
  obtain ⟨dD, dR, hL, hB, c1, c2⟩ := h
  refine ⟨dD, c2 (by rw [List.append_assoc]; exact hL) hB, fun hD => ?_⟩
  obtain ⟨dL, hL, hB, cl⟩ := hD.open
  exact ⟨⟨dD, dL, by rw [← List.append_assoc]; exact hL, hB, c1, cl⟩⟩
theorem Btw.perm (h : Btw B w0 w d k room Sd Sk F) (hp : F.Perm F') : Btw B w0 w d k room Sd Sk F' := by
  obtain ⟨G, hL, hB, cl⟩ := h.sep
  exact cl (hL.perm (hp.append_right _)) hB
theorem Btw.sub (h : Btw B w0 w d k room Sd Sk F) (hs : F'.Sublist F) : Btw B w0 w d k room Sd Sk F' := by
  obtain ⟨G, hL, hB, cl⟩ := h.sep
  exact cl (hL.sub (hs.append (.refl _))) hB
end
end Go.Proofs.YtladfadcgfdbfaaGreatDoor
