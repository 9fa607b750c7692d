/- WalPlays: what stands in both. What comes in: slices of anything, opened. Nothing is claimed here. -/
import Derived.Test.YtjafamiaahabgaaGreatDoorK36
import Derived.Test.YtjafamiaahabgaaGreatDoorK03
import Derived.SizedLaws
namespace Go.Proofs.YtjafamiaahabgaaGreatDoor
open Go.RowKit Go.Lib
set_option linter.unusedVariables false
set_option linter.unusedSimpArgs false
set_option maxRecDepth 100000
theorem Btw.rawW {B : Nat} {w0 w : World} {d k room : Nat} {Sd Sk : List Fl} {F : List Res} (hb : Btw B w0 w d k room Sd Sk F) : ∃ L fs, fs.map Fv.fl = Sk ∧ OkR room fs ∧ DkS B w0 w d room Sd (rkRes k room L fs ++ F) ∧
    ∀ {w' : World} {F' : List Res}, DkS B w0 w' d room Sd (rkRes k room L fs ++ F') → Btw B w0 w' d k room Sd Sk F' := by
  obtain ⟨dD, dR, hL, hB, c1, c2⟩ := hb
  have hR := c2 (F' := F ++ dD) (by rw [List.append_assoc]; exact hL) hB
  obtain ⟨⟨L, fs, hfs, hok, hLr⟩, hBr⟩ := hR
  refine ⟨L, fs, hfs, hok, c1 (F' := rkRes k room L fs ++ F) (by rw [List.append_assoc]; exact hLr) hBr, fun hD => ?_⟩
  obtain ⟨dL, hL2, hB2, cl⟩ := hD.open
  refine ⟨dL, rkRes k room L fs, ?_, hB2, cl, fun h1 h2 => hfs ▸ RkS.mk' hok (h1.perm List.perm_append_comm) h2⟩
  refine hL2.perm ?_
  rw [List.append_assoc]
  refine (List.perm_append_comm).trans ?_
  rw [List.append_assoc]
theorem perm_two1 {α : Type} (A F R D : List α) : ((A ++ (F ++ R)) ++ D).Perm ((F ++ (A ++ D)) ++ R) := by
  have h1 : ((A ++ (F ++ R)) ++ D) = A ++ (F ++ (R ++ D)) := by simp
  have h2 : ((F ++ (A ++ D)) ++ R) = F ++ (A ++ (D ++ R)) := by simp
  rw [h1, h2]
  refine (List.perm_append_comm_assoc A F _).trans ?_
  exact ((List.perm_append_comm (l₁ := R) (l₂ := D)).append_left A).append_left F
theorem perm_two2 {α : Type} (C F A D R : List α) : ((C ++ (F ++ (A ++ D))) ++ R).Perm ((F ++ (A ++ C)) ++ (D ++ R)) := by
  have h1 : ((C ++ (F ++ (A ++ D))) ++ R) = C ++ (F ++ (A ++ (D ++ R))) := by simp
  have h2 : ((F ++ (A ++ C)) ++ (D ++ R)) = F ++ (A ++ (C ++ (D ++ R))) := by simp
  rw [h1, h2]
  refine (List.perm_append_comm_assoc C F _).trans ?_
  exact (List.perm_append_comm_assoc C A _).append_left F
theorem perm_two3 {α : Type} (F A C D R : List α) : ((F ++ (A ++ C)) ++ (D ++ R)).Perm (F ++ ((A ++ D) ++ (C ++ R))) := by
  rw [List.append_assoc F, List.append_assoc A, List.append_assoc A]
  exact ((List.perm_append_comm_assoc C D R).append_left A).append_left F
theorem Bo.btw {B : Nat} {w0 w : World} {d k l m room : Nat} {pre : ByteArray} {S R : List Fl} {G : List Wg} {P : List (Nat × List (List UInt8))} {af a2 : Nat} {D : List Nat} {F : List Res} (h : Bo B w0 w (LgP B w0 d l pre room S G af) (RlP B w0 k m pre room R P a2 D) F) :
    ∃ Z, Btw B w0 w d k room S R (F ++ Z) ∧ ∀ {w' : World} {F' : List Res}, Btw B w0 w' d k room S R (F' ++ Z) → Bo B w0 w' (LgP B w0 d l pre room S G af) (RlP B w0 k m pre room R P a2 D) F' := by
  obtain ⟨XL, XR, hL, hB, c1, c2⟩ := h
  have h1 : LgS B w0 w d l pre room S G af (F ++ XR) := c1 (hL.perm (by rw [List.append_assoc]; exact List.perm_append_comm.append_left F)) hB
  obtain ⟨n, sg, e1, e2, hD⟩ := h1.of
  obtain ⟨dD, hL2, hB2, cd⟩ := hD.open
  have h2 : RlS B w0 w k m pre room R P a2 D (F ++ (logR l d pre n sg af ++ dD)) := c2 (hL2.perm (perm_two1 _ _ _ _)) hB2
  obtain ⟨sv, sr, dv, e3, hK⟩ := h2.of
  obtain ⟨dR, hL3, hB3, ck⟩ := hK.open
  refine ⟨logR l d pre n sg af ++ rlR m k pre sv sr a2 dv D, ⟨dD, dR, hL3.perm (perm_two2 _ _ _ _ _), hB3, cd, ck⟩, fun hb => ?_⟩
  obtain ⟨dD, dR, hL, hB, c1, c2⟩ := hb
  refine ⟨⟨logR l d pre n sg af ++ dD, rlR m k pre sv sr a2 dv D ++ dR, hL.perm (perm_two3 _ _ _ _ _), hB, fun h1 h2 => ?_, fun h1 h2 => ?_⟩⟩
  · exact ⟨n, sg, e1, e2, c1 (h1.perm (by rw [← List.append_assoc]; exact List.perm_append_comm.append_right _)) h2⟩
  · exact ⟨sv, sr, dv, e3, c2 (h1.perm (by rw [← List.append_assoc]; exact List.perm_append_comm.append_right _)) h2⟩
section
variable {d k room p q : Nat} {F : List Res} {w0 w : World}
set_option maxHeartbeats 32000000 in
theorem pstoodW_fn (hP : Pw w0.heap.size w0 w d k room p logB q F) :
    Fn Tryz.prog 24 #[ptr p] w fun r w' => r = .bool true ∧ Pw w0.heap.size w0 w' d k room p logB q F := by
  obtain ⟨S, R, G, af, D, l, m, hp, hpl, hDq, hb⟩ := hP.of
  clear hP
  obtain ⟨c1, hcn, hch⟩ := hpl.ch
  obtain ⟨hnd, hndR, hbig, hsrt⟩ : NdS S ∧ NdS R ∧ (∀ nm f, getS S nm = some f → f.d.length ≤ 1073741824) ∧ (R.map (·.nm)).Pairwise ltF := by
    obtain ⟨dR, hG, _⟩ := hb.left
    obtain ⟨dD, hG2, _⟩ := hb.right
    have hG : LgS _ _ _ _ _ _ _ _ _ _ _ := hG
    have hG2 : RlS _ _ _ _ _ _ _ _ _ _ _ _ := hG2
    exact ⟨hG.disk.nd, hG2.disk.ndK, fun nm f h => hG.disk.big h, hG2.disk.srt⟩
  have hSl : S.length ≤ 256 := by
    obtain ⟨dR, hG, _⟩ := hb.left
    have hG : LgS _ _ _ _ _ _ _ _ _ _ _ := hG
    exact hG.disk.lenLe
  have hGl : G.length ≤ 256 := Nat.le_trans hpl.len hSl
  have hfs := hpl.small hbig
  have haf := hpl.afl
  have hgp := getS_perm hnd hp
  have hlow : lowP (G.map Wg.fe) af = lowW G af := by cases G <;> rfl
  have hlow2 : lowW G af = c1 := by
    cases G with
    | nil => exact (show c1 = af from hch).symm
    | cons g gs => exact hch.1
  have hge := hch.ge
  have hafl := hch.af
  obtain ⟨G0, hL, hB, cl⟩ := hb.sep
  clear hb
  refine Fn.mk Tryz.func24 rfl (by kernel_rfl) Tryz.ntmps24 rfl (by rw [Tryz.results24]) ?_
  repeat (first | (refine RunH ?_; intro w hL hB; try clear w) | (refine Both.mk ?_ ?_ <;> conv => whnf) | fail)
  obtain ⟨dR, hG, back⟩ := (cl (F' := _ :: F) hL hB).left
  have hG : LgS _ _ _ _ _ _ _ _ _ _ _ := hG
  refine (logBounds_fn hG).mono fun r w ⟨hr, hG⟩ => ?_
  rw [hlow2] at hr
  subst hr
  obtain ⟨G0, hL, hB, cl⟩ := (back (F' := _ :: F) (LgP.o (l := l)) hG).sep
  clear hG back
  conv => whnf
  repeat (first | (refine RunH ?_; intro w hL hB; try clear w) | (refine Both.mk ?_ ?_ <;> conv => whnf) | fail)
  obtain ⟨dD, hG, back⟩ := (cl (F' := _ :: F) hL hB).right
  have hG : RlS _ _ _ _ _ _ _ _ _ _ _ _ := hG
  refine (rboundsL_fn hG).mono fun r w ⟨hr, hG⟩ => ?_
  rw [hlow, hlow2] at hr
  subst hr
  obtain ⟨G0, hL, hB, cl⟩ := (back (F' := _ :: F) (RlP.o (m := m)) hG).sep
  clear hG back
  conv => whnf
  repeat (first | (refine RunH ?_; intro w hL hB; try clear w) | (refine Both.mk ?_ ?_ <;> conv => whnf) | fail)
  replace hb := cl (F' := _ :: F) hL hB
  clear hL hB cl
  refine V.loop (α := Nat) (fun j => [(0, ptr p), (4, .int .i64 (af : Int)), (7, .int .i64 ((c1 + j : Nat) : Int))])
    (fun j w' => c1 + j ≤ af ∧ Bo w0.heap.size w0 w' (LgP w0.heap.size w0 d l logB room S G af) (RlP w0.heap.size w0 k m logB room R (G.map Wg.fe) af D) (.blk p [ptr d, ptr k, ptr l, ptr m] 55 :: F)) (fun j => af - (c1 + j)) 0 ⟨rfl, rfl, rfl, trivial⟩ ⟨by omega, hb⟩ ?_
  clear hb
  rintro j w ⟨hj, hb⟩
  by_cases hlt : c1 + j < af
  · have hgw : getW G ((c1 + j : Nat) : Int) = (flatG G)[j]? := by rw [getW_ch hch (c1 + j) (by omega), Nat.add_sub_cancel_left]
    obtain ⟨x, hx⟩ : ∃ x, (flatG G)[j]? = some x := ⟨_, List.getElem?_eq_getElem (by omega)⟩
    rw [hx] at hgw
    have hni : -9223372036854775808 ≤ ((c1 + j : Nat) : Int) ∧ ((c1 + j : Nat) : Int) ≤ 9223372036854775807 := by omega
    obtain ⟨G0, hL, hB, cl⟩ := hb.sep
    clear hb
    repeat (first | (refine RunH ?_; intro w hL hB; try clear w) | (refine Both.mk ?_ ?_ <;> conv => whnf) | fail)
    obtain ⟨dR, hG, back⟩ := (cl (F' := _ :: F) hL hB).left
    have hG : LgS _ _ _ _ _ _ _ _ _ _ _ := hG
    refine (logGet2_fn _ hni (by omega) hfs hch.apart hG).mono fun r w h => ?_
    rw [hgw] at h
    obtain ⟨u, hr, hG⟩ := h
    subst hr
    obtain ⟨G0, hL, hB, cl⟩ := (back (F' := _ :: _ :: F) (LgP.o (l := l)) hG).sep
    clear hG back
    obtain ⟨ua, uc, rfl⟩ := (show SlN w 1 u _ _ from hL.rowN (i := 0) rfl).shape
    conv => whnf
    repeat (first | (refine RunH ?_; intro w hL hB; try clear w) | (refine Both.mk ?_ ?_ <;> conv => whnf) | fail)
    obtain ⟨dD, hG, back⟩ := (cl (F' := _ :: _ :: F) hL hB).right
    have hG : RlS _ _ _ _ _ _ _ _ _ _ _ _ := hG
    refine (rgetL_fn _ hni (by omega) hfs hG).mono fun r w h => ?_
    rw [hgw] at h
    obtain ⟨u2, hr, hG⟩ := h
    subst hr
    obtain ⟨G0, hL, hB, cl⟩ := (back (F' := _ :: _ :: _ :: F) (RlP.o (m := m)) hG).sep
    clear hG back
    obtain ⟨ua2, uc2, rfl⟩ := (show SlN w 1 u2 _ _ from hL.rowN (i := 0) rfl).shape
    conv => whnf
    repeat (first | (refine RunH ?_; intro w hL hB; try clear w) | (refine Both.mk ?_ ?_ <;> conv => whnf) | fail)
    refine (same_fn _ _ x x _ (hL.row (i := 1) rfl) (hL.row (i := 0) rfl)).mono fun r w ⟨hr, hw⟩ => ?_
    subst hr
    replace hL := hL.call hB (Turns.of_below hw)
    replace hB := Nat.le_trans hB hw.size
    rw [decide_eq_true rfl]
    conv => whnf
    repeat (first | (refine RunH ?_; intro w hL hB; try clear w) | (refine Both.mk ?_ ?_ <;> conv => whnf) | fail)
    exact ⟨j + 1, ⟨rfl, rfl, vint (by push_cast; omega), trivial⟩, ⟨by omega, (cl (F' := _ :: _ :: _ :: F) hL hB).sub ((List.sublist_cons_self _ _).trans (List.sublist_cons_self _ _))⟩, (by first | omega | (dsimp only; omega))⟩
  have hlt2 : ¬ (((c1 + j : Nat) : Int) < (af : Int)) := by omega
  obtain ⟨Z, hbt, hbo⟩ := hb.btw
  clear hb
  obtain ⟨L, fs, hfs2, hokR, hD, back⟩ := hbt.rawW
  clear hbt
  have hnames : (names S).map encStr = (R.map (·.nm)).map Value.string := by rw [← names_perm' hp]; exact strs_eq hsrt
  have hlen : fs.length = R.length := by rw [← hfs2, List.length_map]
  have hSR : S.length = R.length := hp.length_eq.symm
  have h256 := hokR.ok.len
  rw [rkRes] at hD
  have hG : ∀ {y : World}, DkS w0.heap.size w0 y d room S (.blk p [ptr d, ptr k, ptr l, ptr m] 55 :: .blk k [.int .i64 (room : Int), L] 90 :: .row 95 3 L fs.length (fs.flatMap f3) :: (fs.map Fv.row ++ (F ++ Z))) →
      Pw w0.heap.size w0 y d k room p logB q F := fun {y} h => by
    refine ⟨S, R, G, af, D, l, m, hp, hpl, hDq, hbo (back (F' := _ :: (F ++ Z)) ?_)⟩
    rw [rkRes]
    refine h.perm ?_
    exact (List.Perm.swap _ _ _).trans (.cons _ ((List.Perm.swap _ _ _).trans (.cons _ (List.perm_middle (l₁ := fs.map Fv.row)).symm)))
  replace hD := hD.perm (F' := .blk p [ptr d, ptr k, ptr l, ptr m] 55 :: .blk k [.int .i64 (room : Int), L] 90 :: .row 95 3 L fs.length (fs.flatMap f3) :: (fs.map Fv.row ++ (F ++ Z))) (List.perm_middle (l₁ := _ :: _ :: fs.map Fv.row))
  obtain ⟨la, lc, rfl⟩ := (show SlN w 3 L fs.length _ from hD.rest.rowN (i := 2) rfl).shape
  clear back hbo
  obtain ⟨dL, hL, hB, close⟩ := hD.open
  repeat (first | (refine RunH ?_; intro w hL hB; try clear w) | (refine Both.mk ?_ ?_ <;> conv => whnf) | fail)
  clear hL hB close
  refine (list_fn hD).mono fun r w hD => ?_
  rw [hnames] at hD
  obtain ⟨na, nc, rfl⟩ := (show SlN w 1 r S.length _ from hD.rest.rowN (i := 0) rfl).shape
  obtain ⟨dL, hL, hB, close⟩ := hD.open
  rw [← hlen] at hSR
  have hSR' : (S.length : Int) = (fs.length : Int) := by omega
  conv => whnf
  repeat (first | (refine RunH ?_; intro w hL hB; try clear w) | (refine Both.mk ?_ ?_ <;> conv => whnf) | fail)
  clear hL hB close
  refine V.loop (α := Nat) (fun i => [(0, ptr p), (12, .slice na S.length nc), (13, .int .i64 (i : Int))])
    (fun i w' => i ≤ S.length ∧ DkS w0.heap.size w0 w' d room S (.row 9 1 (.slice na S.length nc) S.length ((R.map (·.nm)).map Value.string) :: .blk p [ptr d, ptr k, ptr l, ptr m] 55 :: .blk k [.int .i64 (room : Int), .slice la fs.length lc] 90 :: .row 95 3 (.slice la fs.length lc) fs.length (fs.flatMap f3) ::
      (fs.map Fv.row ++ (F ++ Z)))) (fun i => S.length - i) 0 ⟨rfl, rfl, rfl, trivial⟩ ⟨Nat.zero_le _, hD⟩ ?_
  clear hD
  rintro i w ⟨hi, hD⟩
  by_cases hil : i < S.length
  case pos =>
    obtain ⟨dL, hL, hB, close⟩ := hD.open
    have hilf : i < fs.length := by omega
    have hget := List.getElem?_eq_getElem hilf
    have hmem := List.getElem_mem hilf
    have hl1 := len1 hokR.ok _ hmem
    have hnmf := hokR.ok.nm _ hmem
    have hflm : (fs[i]).fl ∈ R := by rw [← hfs2]; exact List.mem_map_of_mem hmem
    have hgS : getS S (fs[i]).nm = some (fs[i]).fl := by rw [← hgp]; exact (getS_iff hndR).2 ⟨hflm, rfl⟩
    have hnget : ((R.map (·.nm)).map Value.string)[i]? = some (.string (fs[i]).nm) := by
      rw [← hfs2, List.map_map, List.getElem?_map, List.getElem?_map, hget]; rfl
    have hfr : ∀ {w : World} {X Y : List Res}, Sep Tryz.prog w0.heap.size w0 w (X ++ (fs.map Fv.row ++ Y)) → ∃ va vc, (fs[i]).v = .slice va (fs[i]).d.length vc ∧ Sl w (.slice va (fs[i]).d.length vc) (bv (fs[i]).d) := fun h => by
      obtain ⟨va, vc, hv⟩ := rk_shape h _ hmem
      refine ⟨va, vc, hv, ?_⟩
      have := RowC.sl (show RowC _ 5 (fs[i]).v (fs[i]).d.length (bv (fs[i]).d) from h.hold (Fv.row fs[i]) (by simp only [List.mem_append, List.mem_map]; exact .inr (.inl ⟨_, hmem, rfl⟩)))
      rwa [hv] at this
    obtain ⟨va, vc, hfv, _⟩ := hfr (X := [_, _, _, _]) (Y := (F ++ Z) ++ dL) (by simpa using hL)
    generalize fs[i] = f at *
    obtain ⟨nb, no, rfl, _⟩ := (show SlN w 1 (.slice na S.length nc) S.length _ from hL.rowN (i := 0) rfl).addr (by omega)
    obtain ⟨lb, lo, rfl, _⟩ := (show SlN w 3 (.slice la fs.length lc) fs.length _ from hL.rowN (i := 3) rfl).addr (by omega)
    repeat (first | (refine RunK ?_; intro w hL hB; try clear w) | (refine V.tree ttOk (fun x0 => Sep Tryz.prog _ w0 x0 (.row 9 1 (.slice (some ⟨nb, no, none⟩) S.length nc) S.length ((R.map (·.nm)).map Value.string) :: .blk p [ptr d, ptr k, ptr l, ptr m] 55 :: [])) (.q 0 (.q 1 (.q 2 (.q 3 (.q 4 (.q 5 (.q 6 (.q 7 (.alt 8 (.q 9 (.q 10 (.q 11 (.q 12 (.q 13 .nil))))) .stop))))))))) mixed (by decide +kernel) (hL.drew.sub (.cons_cons _ (.cons_cons _ (List.nil_sublist _)))) ?_; replace hL := hL.drew; conv => whnf) | (refine V.tailA ttOk mixed (by decide +kernel) ?_; replace hL := hL.drew; conv => whnf) | (refine Both.mk ?_ ?_ <;> conv => whnf) | fail)
    intro o1 ho1
    conv => whnf
    refine Lq.of_class (fun y hy => Ld.row1 ttOk (hy.rowN (i := 0) rfl).rowOf tl9 rfl (o' := o1) (k := i) hnget (by omega) rfl) ?_
    conv => whnf
    repeat (first | (refine RunH ?_; intro w hL hB; try clear w) | (refine Both.mk ?_ ?_ <;> conv => whnf) | fail)
    refine (read_fn f.nm (by omega) (close (F' := _ :: _ :: _ :: _ :: (fs.map Fv.row ++ (F ++ Z))) hL hB)).mono fun r w hD => ?_
    clear hL hB close
    rw [hgS] at hD
    obtain ⟨u, hr, hD⟩ := hD
    subst hr
    obtain ⟨dL, hL, hB, close⟩ := hD.open
    obtain ⟨ua, uc, rfl⟩ := (show SlN w 1 u _ _ from hL.rowN (i := 0) rfl).shape
    conv => whnf
    refine ⟨hL.sub (.cons _ (.cons_cons _ (.cons_cons _ (List.nil_sublist _)))), ?_⟩
    conv => whnf
    replace hL := hL.perm (L' := _ :: _ :: _ :: _ :: _ :: ((fs.map Fv.row ++ (F ++ Z)) ++ dL)) ((List.perm_append_comm (l₁ := [_]) (l₂ := [_, _, _, _])).append_right ((fs.map Fv.row ++ (F ++ Z)) ++ dL))
    repeat (first | (refine RunK ?_; intro w hL hB; try clear w) | (refine V.tree ttOk (fun x0 => Sep Tryz.prog _ w0 x0 (.row 9 1 (.slice (some ⟨nb, no, none⟩) S.length nc) S.length ((R.map (·.nm)).map Value.string) :: .blk p [ptr d, ptr k, ptr l, ptr m] 55 :: .blk k [.int .i64 (room : Int), .slice (some ⟨lb, lo, none⟩) fs.length lc] 90 :: .row 95 3 (.slice (some ⟨lb, lo, none⟩) fs.length lc) fs.length (fs.flatMap f3) :: [])) (.q 0 (.q 1 (.q 2 (.q 3 (.q 4 (.q 5 (.q 6 (.q 7 (.q 8 (.q 9 (.q 10 (.q 11 (.q 12 (.q 13 (.q 14 (.q 15 (.q 16 (.q 17 (.q 18 (.q 19 (.q 20 (.q 21 (.q 22 (.q 23 (.q 24 (.q 25 (.q 26 (.q 27 (.q 28 (.alt 29 (.q 30 (.q 31 .nil)) .stop)))))))))))))))))))))))))))))) mixed (by decide +kernel) (hL.drew.sub (.cons_cons _ (.cons_cons _ (.cons_cons _ (.cons_cons _ (List.nil_sublist _)))))) ?_; replace hL := hL.drew; conv => whnf) | (refine V.tailA ttOk mixed (by decide +kernel) ?_; replace hL := hL.drew; conv => whnf) | (refine Both.mk ?_ ?_ <;> conv => whnf) | fail)
    intro o2 ho2
    conv => whnf
    refine Lq.of_class (fun y hy => Ld.row1 ttOk (hy.rowN (i := 0) rfl).rowOf tl9 rfl (o' := o2) (k := i) hnget (by omega) rfl) ?_
    conv => whnf
    repeat (first | (refine RunH ?_; intro w hL hB; try clear w) | (refine Both.mk ?_ ?_ <;> conv => whnf) | fail)
    intro o3 ho3
    conv => whnf
    repeat (first | (refine RunH ?_; intro w hL hB; try clear w) | (refine Both.mk ?_ ?_ <;> conv => whnf) | fail)
    refine Lq.of_class (fun y hy => Ld.rowF ttOk f3_len 0 (hy.rowN (i := 3) rfl).rowOf (ss := fs) (o' := o3 + 0) (k := i) tl9 rfl hget rfl (by omega) rfl) ?_
    conv => whnf
    repeat (first | (refine RunH ?_; intro w hL hB; try clear w) | (refine Both.mk ?_ ?_ <;> conv => whnf) | (refine Br.yes (by simp; done) ?_; conv => whnf) | (refine Br.no (by simp; done) ?_; conv => whnf) | fail)
    intro o4 ho4
    conv => whnf
    repeat (first | (refine RunH ?_; intro w hL hB; try clear w) | (refine Both.mk ?_ ?_ <;> conv => whnf) | fail)
    refine Lq.of_class (fun y hy => Ld.rowF ttOk f3_len 1 (hy.rowN (i := 3) rfl).rowOf (ss := fs) (o' := o4 + 1) (k := i) (v := .slice va f.d.length vc) tl23 rfl hget (by rw [f3, hfv]; rfl) (by omega) rfl) ?_
    conv => whnf
    repeat (first | (refine RunH ?_; intro w hL hB; try clear w) | (refine Both.mk ?_ ?_ <;> conv => whnf) | fail)
    obtain ⟨va2, vc2, hfv2, hS⟩ := hfr (X := [_, _, _, _, _]) (Y := F ++ (Z ++ dL)) (by simpa using hL)
    rw [hfv] at hfv2
    injection hfv2 with q1 q2 q3
    subst q1; subst q3
    refine (same_fn _ _ f.d f.d _ (hL.row (i := 4) rfl) hS).mono fun r w ⟨hr, hw⟩ => ?_
    subst hr
    replace hL := hL.call hB (Turns.of_below hw)
    replace hB := Nat.le_trans hB hw.size
    rw [decide_eq_true rfl]
    conv => whnf
    refine ⟨hL.sub (.cons_cons _ (.cons_cons _ (.cons_cons _ (.cons_cons _ (List.nil_sublist _))))), ?_⟩
    conv => whnf
    repeat (first | (refine RunH ?_; intro w hL hB; try clear w) | (refine Both.mk ?_ ?_ <;> conv => whnf) | (refine And.intro (hL.sub (.cons_cons _ (.cons_cons _ (.cons_cons _ (.cons_cons _ (List.nil_sublist _)))))) ?_; conv => whnf) | fail)
    exact ⟨i + 1, ⟨rfl, rfl, vint (by push_cast; omega), trivial⟩, ⟨by omega, (close (F' := _ :: _ :: _ :: _ :: _ :: (fs.map Fv.row ++ (F ++ Z))) hL hB).sub (.cons_cons _ (.cons_cons _ (.cons_cons _ (.cons_cons _ (.cons _ (.refl _))))))⟩, (by first | omega | (dsimp only; omega))⟩
  obtain rfl : i = S.length := by omega
  have hPw := hG hD.tl
  obtain ⟨dL, hL, hB, close⟩ := hD.open
  repeat (first | (refine RunH ?_; intro w hL hB; try clear w) | (refine Both.mk ?_ ?_ <;> conv => whnf) | fail)
  exact ⟨rfl, hPw⟩
end
end Go.Proofs.YtjafamiaahabgaaGreatDoor
namespace Go.Proofs.YtjafamiaahabgaaGreatDoor
set_option linter.unusedVariables false
set_option linter.unusedSimpArgs false
theorem cell_spot {w : World} {a : Addr} {x : Value} (h : w.cell? a = some x) : a.spot = none := by
  unfold World.cell? at h
  split at h
  · split at h
    · cases h
    · rename_i hs
      cases hsp : a.spot with
      | none => rfl
      | some s => simp [hsp] at hs
  · cases h
/-! ### what an argument's reading says, and how big it is -/
def opz (P : Program) (T : Tab) (S : Nat) (w : World) : Nat → TypeId → List Value → Prop
  | 0 => fun _ _ => True
  | d + 1 => fun t cs => match look T t with
    | some ⟨sh, sz, _, _⟩ => match sh with
      | .bool => ∃ b, cs = [.bool b]
      | .int k => ∃ n, cs = [.int k n] ∧ (Lit.int k n).wf = true
      | .str => ∃ s, cs = [.string s] ∧ s.size ≤ S
      | .slice e => match look T e with
        | some ⟨_, sze, _, _⟩ => cs = [.slice none 0 0] ∨ ∃ a n c, cs = [.slice (some a) n c] ∧ n ≤ c ∧ c ≤ maxLen ∧ c * P.bytesOf e ≤ S ∧ ∀ i, i < c → elemO w a sze i fun es => opz P T S w d e es
        | none => True
      | .struct fs => cs.length = sz ∧ allF (fun f => match look T f.2 with
        | some ⟨_, sz, _, _⟩ => opz P T S w d f.2 (tkL (dpL cs f.1) sz)
        | none => True) fs
      | _ => True
    | none => True
theorem mapM_mem {α β : Type} {f : α → Option β} : ∀ {l : List α} {ys : List β}, l.mapM f = some ys → ys.length = l.length ∧ ∀ x ∈ l, ∃ y ∈ ys, f x = some y
  | [], ys, h => by simp at h; subst h; simp
  | a :: l, ys, h => by
    rw [List.mapM_cons] at h
    cases ha : f a with
    | none => simp [ha] at h
    | some b =>
      cases hl : l.mapM f with
      | none => simp [ha, hl] at h
      | some bs =>
        simp [ha, hl] at h
        subst h
        obtain ⟨h1, h2⟩ := mapM_mem hl
        refine ⟨by simp [h1], fun x hx => ?_⟩
        rcases List.mem_cons.1 hx with rfl | hx
        · exact ⟨b, by simp, ha⟩
        · obtain ⟨y, hy, he⟩ := h2 x hx
          exact ⟨y, by simp [hy], he⟩
theorem mapM_at {α β : Type} {f : α → Option β} : ∀ {l : List α} {ys : List β}, l.mapM f = some ys → ∀ (i : Nat) (x : α), l[i]? = some x → ∃ y, ys[i]? = some y ∧ f x = some y
  | [], ys, h, i, x, hx => by simp at hx
  | a :: l, ys, h, i, x, hx => by
    rw [List.mapM_cons] at h
    cases ha : f a with
    | none => simp [ha] at h
    | some b =>
      cases hl : l.mapM f with
      | none => simp [ha, hl] at h
      | some bs =>
        simp [ha, hl] at h
        subst h
        cases i with
        | zero => simp at hx; subst hx; exact ⟨b, rfl, ha⟩
        | succ i => exact mapM_at hl i x (by simpa using hx)
theorem weightsAll_mem {H : Type} {P : Program} {e : TypeId} : ∀ {ds : List (DataW H)} {d : DataW H}, d ∈ ds → ∀ n ∈ d.weights P e, n ∈ DataW.weightsAll P e ds
  | d0 :: ds, d, hd, n, hn => by
    rw [DataW.weightsAll]
    rcases List.mem_cons.1 hd with rfl | hd
    · exact List.mem_append.2 (.inl hn)
    · exact List.mem_append.2 (.inr (weightsAll_mem hd n hn))
section
variable {H : Type} {enc : TypeId × Value → H} {P : Program} {T : Tab} (hT : TabOk P T) {w : World} {S : Nat}
include hT
theorem trod_opz : ∀ (d fuel : Nat) (t : TypeId) (cs : List Value) (x : DataW H × List MemPlace), DataW.trod enc P w 0 (fun _ => true) true fuel t cs = some x → (∀ n ∈ x.1.weights P t, n ≤ S) → opz P T S w d t cs
  | 0, _, _, _, _, _, _ => trivial
  | d + 1, 0, t, cs, x, h, _ => by simp [DataW.trod] at h
  | d + 1, fuel + 1, t, cs, x, h, hW => by
    unfold opz
    split
    case h_2 => trivial
    rename_i sh sz _ _ hl
    obtain ⟨u, hu, hs⟩ := shOf_cases hT hl
    split
    · cases u <;> simp only [shOf, reduceCtorEq] at hs
      simp only [DataW.trod, hu] at h
      split at h <;> first | (simp at *; done) | cases h | skip
      all_goals simp_all
    · cases u <;> simp only [shOf, reduceCtorEq, Sh.int.injEq] at hs
      subst hs
      simp only [DataW.trod, hu] at h
      split at h <;> simp_all
    · cases u <;> simp only [shOf, reduceCtorEq] at hs
      rcases cs with _ | ⟨v, _ | ⟨v2, cs⟩⟩
      · simp [DataW.trod, hu] at h
      · cases v with
        | string s =>
          simp only [DataW.trod, hu] at h
          split at h
          · injection h with h
            subst h
            refine ⟨s, rfl, ?_⟩
            have := hW s.data.toList.length (by simp [DataW.weights])
            rw [Array.length_toList] at this
            exact this
          · cases h
        | _ => simp [DataW.trod, hu] at h
      · simp [DataW.trod, hu] at h
    · rename_i e
      cases u <;> simp only [shOf, reduceCtorEq, Sh.slice.injEq] at hs
      rename_i el
      subst hs
      split
      case h_2 => trivial
      rename_i sze _ _ hle
      have hsz : P.cellsOf el = sze := cellsOf_td hT hle
      rcases cs with _ | ⟨v, _ | ⟨v2, cs⟩⟩
      · simp [DataW.trod, hu] at h
      · cases v with
        | slice ao n c =>
          cases ao with
          | none =>
            cases n with
            | zero =>
              cases c with
              | zero => exact .inl rfl
              | succ c => simp [DataW.trod, hu] at h
            | succ n => simp [DataW.trod, hu] at h
          | some a =>
            simp only [DataW.trod, hu] at h
            right
            refine ⟨a, n, c, rfl, ?_⟩
            split at h
            case isFalse => cases h
            rename_i hcond
            rw [hsz] at h
            cases h1 : (List.range n).mapM (fun i => (w.cells? 0 (a.add (i * sze)) sze).bind (DataW.trod enc P w 0 (fun _ => true) true fuel el)) with
            | none => rw [h1] at h; simp at h
            | some elems =>
              rw [h1] at h
              simp only [Option.bind_some, if_true] at h
              cases h2 : (List.range (c - n)).mapM (fun j => (w.cells? 0 (a.add ((n + j) * sze)) sze).bind (DataW.trod enc P w 0 (fun _ => true) true fuel el)) with
              | none => rw [h2] at h; simp at h
              | some rest =>
                rw [h2] at h
                simp only [Option.map_some, Option.some.injEq] at h
                subst h
                obtain ⟨l1, m1⟩ := mapM_mem h1
                obtain ⟨l2, m2⟩ := mapM_mem h2
                simp only [List.length_range] at l1 l2
                simp only [DataW.weights, hu, List.mem_cons, List.mem_append, List.length_map, l1, l2] at hW
                refine ⟨hcond.2.1, hcond.2.2, ?_, fun i hi => ?_⟩
                · have := hW _ (.inl rfl)
                  rwa [show n + (c - n) = c from by omega] at this
                · have hy : ∃ y, (y ∈ elems ∨ y ∈ rest) ∧ (w.cells? 0 (a.add (i * sze)) sze).bind (DataW.trod enc P w 0 (fun _ => true) true fuel el) = some y := by
                    rcases Nat.lt_or_ge i n with h3 | h3
                    · obtain ⟨y, hy, he⟩ := m1 i (List.mem_range.2 h3)
                      exact ⟨y, .inl hy, he⟩
                    · obtain ⟨y, hy, he⟩ := m2 (i - n) (List.mem_range.2 (by omega))
                      rw [show n + (i - n) = i from by omega] at he
                      exact ⟨y, .inr hy, he⟩
                  obtain ⟨y, hym, hy⟩ := hy
                  cases h4 : w.cells? 0 (a.add (i * sze)) sze with
                  | none => rw [h4] at hy; simp at hy
                  | some es =>
                    rw [h4] at hy
                    obtain ⟨h5, h6⟩ := cells_get h4
                    refine ⟨es, h5, h6, trod_opz d fuel _ es y hy fun m hm => hW m (.inr ?_)⟩
                    rcases hym with hym | hym
                    · exact .inl (weightsAll_mem (List.mem_map_of_mem hym) m hm)
                    · exact .inr (weightsAll_mem (List.mem_map_of_mem hym) m hm)
        | _ => simp [DataW.trod, hu] at h
      · simp [DataW.trod, hu] at h
    · rename_i fs
      cases u <;> simp only [shOf, reduceCtorEq, Sh.struct.injEq] at hs
      rename_i fields
      have hsz : P.cellsOf t = sz := cellsOf_td hT hl
      simp only [DataW.trod, hu, hsz] at h
      split at h
      case isFalse => cases h
      rename_i hlen
      cases h1 : fields.toList.mapM (fun f => DataW.trod enc P w 0 (fun _ => true) true fuel f.type ((cs.drop f.offset).take (P.cellsOf f.type))) with
      | none => rw [h1] at h; simp at h
      | some xs =>
        rw [h1] at h
        simp only [Option.map_some, Option.some.injEq] at h
        subst h
        simp only [DataW.weights, hu] at hW
        refine ⟨hlen, allF_of fun f hf => ?_⟩
        split
        case h_2 => trivial
        rename_i szf _ _ hlf
        rw [← hs] at hf
        obtain ⟨fd, hfd, rfl⟩ := List.mem_map.1 hf
        obtain ⟨i, hi⟩ := List.getElem?_of_mem hfd
        obtain ⟨y, hyi, hy⟩ := mapM_at h1 i fd hi
        rw [tkL_eq, dpL_eq]
        rw [cellsOf_td hT hlf] at hy
        exact trod_opz d fuel fd.type _ y hy fun m hm => hW m (DataW.weights_mem_each (j := i) (by simp [hi]) (by simp [hyi]) m hm)
    · trivial
end
/-- a slice whose elements are said by something -/
theorem sl_open {α : Type} {w : World} {S : Nat} {t e : TypeId} {s b sz b1 d : Nat} {z z1 : Value} {sh : Sh} (ht : look TT t = some ⟨.slice e, s, b, z⟩) (he : look TT e = some ⟨sh, sz, b1, z1⟩) (hsz : 0 < sz) (f : α → List Value) (hf : ∀ x, (f x).length = sz) (Q : α → Prop)
    (el : ∀ es, es.length = sz → opz Tryz.prog TT S w d e es → ∃ p, es = f p ∧ Q p) {v : Value} (h : opz Tryz.prog TT S w (d + 1) t [v]) : ∃ xs : List α, SlN w sz v xs.length (xs.flatMap f) ∧ (∀ p ∈ xs, Q p) ∧ xs.length * Tryz.prog.bytesOf e ≤ S := by
  unfold opz at h
  simp only [ht, he] at h
  rcases h with h | ⟨x, n, c, h, h1, h2, hS, h3⟩
  · injection h with h
    subst h
    exact ⟨[], SlN.nil w sz, by simp, by simp⟩
  · injection h with h
    subst h
    have hev : ∀ i : Fin n, ∃ p : α, (∀ j x', (f p)[j]? = some x' → w.cell? ((x.add (i * sz)).add j) = some x') ∧ Q p := fun i => by
      obtain ⟨es, q1, q2, q3⟩ := h3 i (by omega)
      obtain ⟨p, rfl, q4⟩ := el es q1 q3
      exact ⟨p, q2, q4⟩
    have hl : ((List.finRange n).map fun i => (hev i).choose).length = n := by simp
    refine ⟨(List.finRange n).map fun i => (hev i).choose, ?_, ?_, by rw [hl]; exact Nat.le_trans (Nat.mul_le_mul_right _ h1) hS⟩
    · rw [hl]
      refine ⟨by rw [flat_len hf, hl], some x, c, rfl, h1, h2, nofun, fun ad had hne => ?_⟩
      injection had with had
      subst had
      have hn0 : 0 < n := by
        rcases Nat.eq_zero_or_pos n with h0 | h0
        · subst h0; exact absurd rfl hne
        · exact h0
      have hsp : x.spot = none := by
        have h0 := (hev ⟨0, hn0⟩).choose_spec.1 0 ((f (hev ⟨0, hn0⟩).choose)[0]'(by rw [hf]; exact hsz)) (by rw [List.getElem?_eq_getElem])
        simpa [Addr.add] using cell_spot h0
      refine ⟨hsp, fun k u hk => ?_⟩
      obtain ⟨bb, o, s⟩ := x
      simp only at hsp; subst hsp
      have hkl : k < n * sz := by have := (List.getElem?_eq_some_iff.1 hk).1; rw [flat_len hf, hl] at this; exact this
      have hkn : k / sz < n := Nat.div_lt_of_lt_mul (by rwa [Nat.mul_comm] at hkl)
      have hkk : k = k / sz * sz + k % sz := by rw [Nat.mul_comm]; exact (Nat.div_add_mod k sz).symm
      rw [hkk, flat_get hf (k := k / sz) (s := (hev ⟨k / sz, hkn⟩).choose) (k % sz) (by simp [hkn]) (Nat.mod_lt _ hsz)] at hk
      have := (hev ⟨k / sz, hkn⟩).choose_spec.1 (k % sz) u hk
      rw [Addr.add_lit, Addr.add_lit, Nat.add_assoc] at this
      dsimp only at this ⊢
      rwa [← hkk] at this
    · intro p hp
      obtain ⟨i, _, rfl⟩ := List.mem_map.1 hp
      exact (hev i).choose_spec.2
theorem wf_u8 {n : Int} (h : (Lit.int .u8 n).wf = true) : ∃ x : UInt8, n = (x.toNat : Int) := by
  simp only [Lit.wf, IntKind.min, IntKind.max, IntKind.bits, IntKind.signed, Bool.and_eq_true, decide_eq_true_eq] at h
  simp at h
  refine ⟨UInt8.ofNat n.toNat, ?_⟩
  have : n.toNat < 256 := by omega
  simp [UInt8.toNat_ofNat', Nat.mod_eq_of_lt this]
  omega
theorem flat_bv (l : List UInt8) : (l.flatMap fun b => [u8 b]) = bv l := by
  induction l with
  | nil => rfl
  | cons b l ih => simp only [List.flatMap_cons, ih]; rfl
/-- bytes -/
theorem bytes_open {w : World} {S d : Nat} {v : Value} (h : opz Tryz.prog TT S w (d + 2) 23 [v]) : ∃ l : List UInt8, Sl w v (bv l) ∧ l.length ≤ S := by
  obtain ⟨l, h1, _, h2⟩ := sl_open (α := UInt8) tl23 tl5 (by decide) (fun b => [u8 b]) (fun _ => rfl) (fun _ => True) (fun es _ h => by
    unfold opz at h
    simp only [tl5] at h
    obtain ⟨k, rfl, h⟩ := h
    obtain ⟨x, rfl⟩ := wf_u8 h
    exact ⟨x, rfl, trivial⟩) h
  rw [flat_bv] at h1
  rw [show Tryz.prog.bytesOf 5 = 1 from by kernel_rfl, Nat.mul_one] at h2
  exact ⟨l, h1.to1, h2⟩
theorem flat_fst : ∀ l : List (Value × List UInt8), (l.flatMap fun p => [p.1]) = l.map (·.1)
  | [] => rfl
  | b :: l => by simp only [List.flatMap_cons, flat_fst l]; rfl
/-- rows of bytes -/
theorem rows_open {w : World} {S d : Nat} {v : Value} (h : opz Tryz.prog TT S w (d + 3) 22 [v]) :
    ∃ xs : List (Value × List UInt8), Sl w v (xs.map (·.1)) ∧ ∀ p ∈ xs, Sl w p.1 (bv p.2) ∧ p.2.length ≤ S := by
  obtain ⟨l, h1, h2, _⟩ := sl_open (α := Value × List UInt8) tl22 tl23 (by decide) (fun p => [p.1]) (fun _ => rfl) (fun p => Sl w p.1 (bv p.2) ∧ p.2.length ≤ S) (fun es hl h => by
    obtain ⟨u, rfl⟩ := List.length_eq_one_iff.1 hl
    obtain ⟨l, hl⟩ := bytes_open (d := d) h
    exact ⟨(u, l), rfl, hl⟩) h
  rw [flat_fst] at h1
  exact ⟨l, h1.to1, h2⟩
/-- an argument, with its size -/
theorem arg_open {w : World} {H : Type} {enc : TypeId × Value → H} {t : TypeId} {v : Value} {d : DataW H} {ps : List MemPlace} {ts : List TypeId} {ds : List (DataW H)} (n j : Nat) (hsz : (DataW.weightsEach Tryz.prog ts ds).all (· ≤ reachBytes) = true) (ht : ts[j]? = some t) (hd : ds[j]? = some d)
    (h : DataW.Trod enc Tryz.prog w 0 (fun _ => true) true t v d ps) : opz Tryz.prog TT 140737488355328 w n t v.cells.toList := by
  obtain ⟨fuel, hf⟩ := h
  refine trod_opz ttOk n fuel _ _ _ hf fun m hm => ?_
  have := List.all_eq_true.1 hsz _ (DataW.weights_mem_each ht hd m hm)
  simp only [decide_eq_true_eq] at this
  have := reachBytes_lt
  omega
end Go.Proofs.YtjafamiaahabgaaGreatDoor
