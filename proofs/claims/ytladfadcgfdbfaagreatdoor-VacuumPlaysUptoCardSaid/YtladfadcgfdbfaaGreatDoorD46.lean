/- Dirt and Needles, of the volume and of the reference. VacuumPlays: what stands in both. Nothing is claimed here. -/
import Derived.Test.YtladfadcgfdbfaaGreatDoorD42
import Derived.Test.YtladfadcgfdbfaaGreatDoorD45
namespace Go.Proofs.YtladfadcgfdbfaaGreatDoor
open Go.RowKit Go.Lib
set_option linter.unusedVariables false
set_option linter.unusedSimpArgs false
set_option maxRecDepth 100000
/-- a needle that is read: its place, its bytes, where they are -/
structure Nv where
  p : Pc
  d : List UInt8
  u : Value
def Nv.cells (n : Nv) : List Value := ndC n.p.key n.p.cook n.p.dead n.u
def Nv.inf (n : Nv) : Pc × List UInt8 := (n.p, n.d)
theorem sumN_take {l : List Pc} {i : Nat} (h : i < l.length) : sumN (l.take (i + 1)) = sumN (l.take i) + (l[i]).n := by rw [List.take_succ_eq_append_getElem h, sumN_snoc]
theorem sumN_take_le (l : List Pc) (i : Nat) : sumN (l.take i) ≤ sumN l := by
  have h : sumN (l.take i ++ l.drop i) = sumN (l.take i) + sumN (l.drop i) := by rw [sumN, List.map_append, List.sum_append]; rfl
  rw [List.take_append_drop] at h
  omega
section
variable {B k x room id : Nat} {ra : Option Addr} {rc : Nat} {ps rL : List Pc} {R : List Fl} {F : List Res} {w0 w : World}
set_option maxHeartbeats 4000000 in
theorem rdirt_fn {nm : ByteArray} (hid : id ≤ 99999999) (hnm : vnmG id = nm) (hrl : rL.length ≤ 1000000) (hsum : sumN (plsR rL rL) ≤ 2147483648) (hD : RkS B w0 w k room R (rvRes x k id ra rc rL F)) :
    Fn Tryz.prog 58 #[ptr x] w fun r w' => r = .int .i64 ((szS R nm : Int) - 8 - (sumN (plsR rL rL) : Nat)) ∧ RkS B w0 w' k room R (rvRes x k id ra rc rL F) := by
  have hsz := szRk_le hD nm
  have hplen := plsR_len rL rL
  have hsize := fun w F => rsize_fn (B := B) (w0 := w0) (w := w) (room := room) (R := R) (F := F) (rv := .slice ra rL.length rc) (x := x) (k := k) hid hnm
  have hpl := fun w F hL hB => rplaces_fn (B := B) (w0 := w0) (w := w) (F := F) (rL := rL) (x := x) (k := k) (id := id) (ra := ra) (rc := rc) hrl hL hB
  obtain ⟨dL, hL, hB, close⟩ := hD.open
  clear hD
  refine Fn.mk Tryz.func58 rfl (by kernel_rfl) Tryz.ntmps58 rfl (by rw [Tryz.results58]) ?_
  repeat (first | (refine RunH ?_; intro w hL hB; try clear w) | (refine Both.mk ?_ ?_ <;> conv => whnf) | fail)
  rw [rvRes] at hL
  refine (hsize _ _ (close (F' := _ :: _ :: F) hL hB)).mono fun r w ⟨hr, hD⟩ => ?_
  subst hr
  clear close hL hB
  obtain ⟨dL, hL, hB, close⟩ := hD.open
  clear hD
  conv => whnf
  repeat (first | (refine RunH ?_; intro w hL hB; try clear w) | (refine Both.mk ?_ ?_ <;> conv => whnf) | fail)
  refine (hpl _ _ (show Sep Tryz.prog B w0 w (rvRes x k id ra rc rL (F ++ dL)) from hL) hB).mono fun r w ⟨hL, hB⟩ => ?_
  generalize plsR rL rL = O at *
  obtain ⟨oa, oc, rfl⟩ := (show SlN w 5 r O.length _ from hL.rowN (i := 0) rfl).shape
  conv => whnf
  repeat (first | (refine RunH ?_; intro w hL hB; try clear w) | (refine Both.mk ?_ ?_ <;> conv => whnf) | fail)
  refine V.loop (α := Nat) (fun i => [(3, .int .i64 ((szS R nm : Int) - 8 - (sumN (O.take i) : Nat))), (4, .slice oa O.length oc), (5, .int .i64 (i : Int))])
    (fun i w' => i ≤ O.length ∧ B ≤ w'.heap.size ∧ Sep Tryz.prog B w0 w' (.row 87 5 (.slice oa O.length oc) O.length (O.flatMap pcC) :: rvRes x k id ra rc rL (F ++ dL))) (fun i => O.length - i) 0 ⟨by simp [sumN]; rfl, rfl, rfl, trivial⟩ ⟨Nat.zero_le _, hB, hL⟩ ?_
  clear hL hB
  rintro i w ⟨hi, hB, hL⟩
  have hs1 := sumN_take_le O i
  by_cases hil : i < O.length
  · have hget := List.getElem?_eq_getElem hil
    have hs2 := sumN_take hil
    have hs3 := sumN_take_le O (i + 1)
    generalize O[i] = p at *
    obtain ⟨ob, oo, rfl, _⟩ := SlN.addr (show SlN w 5 (.slice oa O.length oc) O.length _ from hL.rowN (i := 0) rfl) (by omega)
    repeat (first | (refine RunH ?_; intro w hL hB; try clear w) | (refine Both.mk ?_ ?_ <;> conv => whnf) | fail)
    intro o1 ho1
    conv => whnf
    repeat (first | (refine RunH ?_; intro w hL hB; try clear w) | (refine Both.mk ?_ ?_ <;> conv => whnf) | fail)
    refine Ld.rowF ttOk pcC_len 2 (hL.rowN (i := 0) rfl).rowOf tl3 rfl hget rfl (by omega) ?_
    conv => whnf
    repeat (first | (refine RunH ?_; intro w hL hB; try clear w) | (refine Both.mk ?_ ?_ <;> conv => whnf) | fail)
    exact ⟨i + 1, ⟨vint (by rw [hs2]; push_cast; omega), rfl, vint (by push_cast; rfl), trivial⟩, ⟨by omega, hB, hL⟩, (by first | omega | (dsimp only; omega))⟩
  · obtain rfl : i = O.length := by omega
    rw [List.take_length] at *
    repeat (first | (refine RunH ?_; intro w hL hB; try clear w) | (refine Both.mk ?_ ?_ <;> conv => whnf) | fail)
    exact ⟨rfl, close (F' := _ :: _ :: F) hL.tl hB⟩
end
end Go.Proofs.YtladfadcgfdbfaaGreatDoor
namespace Go.Proofs.YtladfadcgfdbfaaGreatDoor
open Go.RowKit Go.Lib
set_option linter.unusedVariables false
set_option linter.unusedSimpArgs false
set_option maxRecDepth 100000
theorem Btw.raw {B : Nat} {w0 w : World} {d k room : Nat} {Sd Sk : List Fl} {F : List Res} (hb : Btw B w0 w d k room Sd Sk F) : ∃ L fs, fs.map Fv.fl = Sk ∧ OkR room fs ∧ DkS B w0 w d room Sd (rkRes k room L fs ++ F) ∧
    ∀ {w' : World} {F' : List Res}, DkS B w0 w' d room Sd (rkRes k room L fs ++ F') → Btw B w0 w' d k room Sd Sk F' := by
  obtain ⟨dD, dR, hL, hB, c1, c2⟩ := hb
  have hR := c2 (F' := F ++ dD) (by rw [List.append_assoc]; exact hL) hB
  obtain ⟨⟨L, fs, hfs, hok, hLr⟩, hBr⟩ := hR
  refine ⟨L, fs, hfs, hok, c1 (F' := rkRes k room L fs ++ F) (by rw [List.append_assoc]; exact hLr) hBr, fun hD => ?_⟩
  obtain ⟨dL, hL2, hB2, cl⟩ := hD.open
  refine ⟨dL, rkRes k room L fs, ?_, hB2, cl, fun h1 h2 => hfs ▸ RkS.mk' hok (h1.perm List.perm_append_comm) h2⟩
  refine hL2.perm ?_
  rw [List.append_assoc]
  refine (List.perm_append_comm).trans ?_
  rw [List.append_assoc]
theorem sum_foldP (Rs : List Nd) : sumN (foldP 8 [] Rs) ≤ lenR Rs := by
  have h1 : sumN (foldP 8 [] Rs) = sumN (lsOf Rs) := ((keep_perm Rs).map Pc.n).sum_nat.symm
  rw [h1, lsOf_sum]
  exact keep_len _ _ _
section
variable {d k room p : Nat} {nm : ByteArray} {F : List Res} {w0 w : World}
set_option maxHeartbeats 32000000 in
theorem pstoodV_fn (hn : NameIn w0.heap.size w0 5 nm) (hnm : vnmG 5 = nm) (hrm : room ≤ 1048576) (hP : Pv w0.heap.size w0 w d k room p nm F) :
    Fn Tryz.prog 17 #[ptr p] w fun r w' => r = .bool true ∧ Pv w0.heap.size w0 w' d k room p nm F := by
  obtain ⟨Rs, T, v, m, x, ra, rc, jv, kv, J, hok, hT, hJ, hb⟩ := hP
  have hid : 5 ≤ 99999999 := by decide
  have hns := vnmG_size hid
  rw [hnm] at hns
  have hl : (vhd 5 ++ flat Rs).length = 8 + lenR Rs := by rw [List.length_append, flatR_len, vhd_len]
  have htot := hb.totD
  rw [vol_tot, hl] at htot
  have hRl := lenR_len Rs
  have hpl6 : (plc 8 Rs).length ≤ 1000000 := by rw [plc_length]; omega
  have hndp := foldP_nd Rs 8 [] NdP.nil
  have hsm := sum_foldP Rs
  have hsp : sumN (plsR (plc 8 Rs) (plc 8 Rs)) = sumN (foldP 8 [] Rs) := by rw [pls_plc, sumN_pls hndp]
  have hsrt : ((volS nm (vhd 5 ++ flat Rs) T).map (·.nm)).Pairwise ltF := srt_T hT _ _
  have hndS : NdS (volS nm (vhd 5 ++ flat Rs) T) := by
    obtain ⟨dR, hD, _⟩ := hb.dk
    exact hD.nd
  rw [pvRes, rvRes] at hb
  generalize hSS : volS nm (vhd 5 ++ flat Rs) T = SS at *
  have hnames : (names SS).map encStr = (SS.map (·.nm)).map Value.string := strs_eq hsrt
  obtain ⟨L, fs, hfs, hokR, hD, back⟩ := hb.raw
  clear hb
  have hlen : fs.length = SS.length := by rw [← hfs, List.length_map]
  have h256 := hokR.ok.len
  rw [rkRes] at hD
  have hG : ∀ {y : World}, DkS w0.heap.size w0 y d room SS (.blk p [ptr d, ptr k, ptr v, ptr x, jv, kv] 52 :: .blk k [.int .i64 (room : Int), L] 95 :: .row 116 3 L fs.length (fs.flatMap f3) :: (fs.map Fv.row ++ (.blk v (volC d 5 nm m) 100 :: .mp 38 m ((foldP 8 [] Rs).map pcE) :: .blk x [ptr k, .int .i64 ((5 : Nat) : Int), .slice ra (plc 8 Rs).length rc] 107 :: .row 87 5 (.slice ra (plc 8 Rs).length rc) (plc 8 Rs).length ((plc 8 Rs).flatMap pcC) :: (J ++ F)))) →
      Btw w0.heap.size w0 y d k room SS SS (.blk p [ptr d, ptr k, ptr v, ptr x, jv, kv] 52 :: .blk v (volC d 5 nm m) 100 :: .mp 38 m ((foldP 8 [] Rs).map pcE) :: .blk x [ptr k, .int .i64 ((5 : Nat) : Int), .slice ra (plc 8 Rs).length rc] 107 :: .row 87 5 (.slice ra (plc 8 Rs).length rc) (plc 8 Rs).length ((plc 8 Rs).flatMap pcC) :: (J ++ F)) := fun {y} h => by
    refine back (F' := _ :: _ :: _ :: _ :: _ :: (J ++ F)) ?_
    rw [rkRes]
    refine h.perm ?_
    exact (List.Perm.swap _ _ _).trans (.cons _ ((List.Perm.swap _ _ _).trans (.cons _ (List.perm_middle (l₁ := fs.map Fv.row)).symm)))
  replace hD := hD.perm (F' := .blk p [ptr d, ptr k, ptr v, ptr x, jv, kv] 52 :: .blk k [.int .i64 (room : Int), L] 95 :: .row 116 3 L fs.length (fs.flatMap f3) :: (fs.map Fv.row ++ (_ :: _ :: _ :: _ :: (J ++ F)))) (List.perm_middle (l₁ := _ :: _ :: fs.map Fv.row))
  obtain ⟨la, lc, rfl⟩ := (show SlN w 3 L fs.length _ from hD.rest.rowN (i := 2) rfl).shape
  clear back
  obtain ⟨dL, hL, hB, close⟩ := hD.open
  refine Fn.mk Tryz.func17 rfl (by kernel_rfl) Tryz.ntmps17 rfl (by rw [Tryz.results17]) ?_
  repeat (first | (refine RunH ?_; intro w hL hB; try clear w) | (refine Both.mk ?_ ?_ <;> conv => whnf) | fail)
  clear hL hB close
  refine (list_fn hD).mono fun r w hD => ?_
  rw [hnames] at hD
  obtain ⟨na, nc, rfl⟩ := (show SlN w 1 r SS.length _ from hD.rest.rowN (i := 0) rfl).shape
  obtain ⟨dL, hL, hB, close⟩ := hD.open
  conv => whnf
  repeat (first | (refine RunH ?_; intro w hL hB; try clear w) | (refine Both.mk ?_ ?_ <;> conv => whnf) | fail)
  clear hL hB close
  refine V.loop (α := Nat) (fun i => [(0, ptr p), (3, .slice na SS.length nc), (4, .int .i64 (i : Int))])
    (fun i w' => i ≤ SS.length ∧ DkS w0.heap.size w0 w' d room SS (.row 9 1 (.slice na SS.length nc) SS.length ((SS.map (·.nm)).map Value.string) :: .blk p [ptr d, ptr k, ptr v, ptr x, jv, kv] 52 :: .blk k [.int .i64 (room : Int), .slice la fs.length lc] 95 :: .row 116 3 (.slice la fs.length lc) fs.length (fs.flatMap f3) ::
      (fs.map Fv.row ++ (.blk v (volC d 5 nm m) 100 :: .mp 38 m ((foldP 8 [] Rs).map pcE) :: .blk x [ptr k, .int .i64 ((5 : Nat) : Int), .slice ra (plc 8 Rs).length rc] 107 :: .row 87 5 (.slice ra (plc 8 Rs).length rc) (plc 8 Rs).length ((plc 8 Rs).flatMap pcC) :: (J ++ F))))) (fun i => SS.length - i) 0 ⟨rfl, rfl, rfl, trivial⟩ ⟨Nat.zero_le _, hD⟩ ?_
  clear hD
  rintro i w ⟨hi, hD⟩
  by_cases hil : i < SS.length
  case pos =>
    obtain ⟨dL, hL, hB, close⟩ := hD.open
    have hilf : i < fs.length := by omega
    have hget := List.getElem?_eq_getElem hilf
    have hmem := List.getElem_mem hilf
    have hl1 := len1 hokR.ok _ hmem
    have hnmf := hokR.ok.nm _ hmem
    have hflm : (fs[i]).fl ∈ SS := by rw [← hfs]; exact List.mem_map_of_mem hmem
    have hgS : getS SS (fs[i]).nm = some (fs[i]).fl := (getS_iff hndS).2 ⟨hflm, rfl⟩
    have hnget : ((SS.map (·.nm)).map Value.string)[i]? = some (.string (fs[i]).nm) := by
      rw [← hfs, List.map_map, List.getElem?_map, List.getElem?_map, hget]; rfl
    have hfr : ∀ {w : World} {X Y : List Res}, Sep Tryz.prog w0.heap.size w0 w (X ++ (fs.map Fv.row ++ Y)) → ∃ va vc, (fs[i]).v = .slice va (fs[i]).d.length vc ∧ Sl w (.slice va (fs[i]).d.length vc) (bv (fs[i]).d) := fun h => by
      obtain ⟨va, vc, hv⟩ := rk_shape h _ hmem
      refine ⟨va, vc, hv, ?_⟩
      have := RowC.sl (show RowC _ 5 (fs[i]).v (fs[i]).d.length (bv (fs[i]).d) from h.hold (Fv.row fs[i]) (by simp only [List.mem_append, List.mem_map]; exact .inr (.inl ⟨_, hmem, rfl⟩)))
      rwa [hv] at this
    obtain ⟨va, vc, hfv, _⟩ := hfr (X := [_, _, _, _]) (Y := (_ :: _ :: _ :: _ :: (J ++ F)) ++ dL) (by simpa using hL)
    generalize fs[i] = f at *
    obtain ⟨nb, no, rfl, _⟩ := (show SlN w 1 (.slice na SS.length nc) SS.length _ from hL.rowN (i := 0) rfl).addr (by omega)
    obtain ⟨lb, lo, rfl, _⟩ := (show SlN w 3 (.slice la fs.length lc) fs.length _ from hL.rowN (i := 3) rfl).addr (by omega)
    repeat (first | (refine RunK ?_; intro w hL hB; try clear w) | (refine V.tree ttOk (fun x0 => Sep Tryz.prog _ w0 x0 (.row 9 1 (.slice (some ⟨nb, no, none⟩) SS.length nc) SS.length ((SS.map (·.nm)).map Value.string) :: .blk p [ptr d, ptr k, ptr v, ptr x, jv, kv] 52 :: [])) (.q 0 (.q 1 (.q 2 (.q 3 (.q 4 (.q 5 (.q 6 (.q 7 (.alt 8 (.q 9 (.q 10 (.q 11 (.q 12 (.q 13 .nil))))) .stop))))))))) mixed (by decide +kernel) (hL.drew.sub (.cons_cons _ (.cons_cons _ (List.nil_sublist _)))) ?_; replace hL := hL.drew; conv => whnf) | (refine V.tailA ttOk mixed (by decide +kernel) ?_; replace hL := hL.drew; conv => whnf) | (refine Both.mk ?_ ?_ <;> conv => whnf) | fail)
    intro o1 ho1
    conv => whnf
    refine Lq.of_class (fun y hy => Ld.row1 ttOk (hy.rowN (i := 0) rfl).rowOf tl9 rfl (o' := o1) (k := i) hnget (by omega) rfl) ?_
    conv => whnf
    repeat (first | (refine RunH ?_; intro w hL hB; try clear w) | (refine Both.mk ?_ ?_ <;> conv => whnf) | fail)
    refine (read_fn f.nm (by omega) (close (F' := _ :: _ :: _ :: _ :: (fs.map Fv.row ++ (_ :: _ :: _ :: _ :: (J ++ F)))) hL hB)).mono fun r w hD => ?_
    clear hL hB close
    rw [hgS] at hD
    obtain ⟨u, hr, hD⟩ := hD
    subst hr
    obtain ⟨dL, hL, hB, close⟩ := hD.open
    obtain ⟨ua, uc, rfl⟩ := (show SlN w 1 u _ _ from hL.rowN (i := 0) rfl).shape
    conv => whnf
    refine ⟨hL.sub (.cons _ (.cons_cons _ (.cons_cons _ (List.nil_sublist _)))), ?_⟩
    conv => whnf
    replace hL := hL.perm (L' := _ :: _ :: _ :: _ :: _ :: ((fs.map Fv.row ++ (_ :: _ :: _ :: _ :: (J ++ F))) ++ dL)) ((List.perm_append_comm (l₁ := [_]) (l₂ := [_, _, _, _])).append_right ((fs.map Fv.row ++ (_ :: _ :: _ :: _ :: (J ++ F))) ++ dL))
    repeat (first | (refine RunK ?_; intro w hL hB; try clear w) | (refine V.tree ttOk (fun x0 => Sep Tryz.prog _ w0 x0 (.row 9 1 (.slice (some ⟨nb, no, none⟩) SS.length nc) SS.length ((SS.map (·.nm)).map Value.string) :: .blk p [ptr d, ptr k, ptr v, ptr x, jv, kv] 52 :: .blk k [.int .i64 (room : Int), .slice (some ⟨lb, lo, none⟩) fs.length lc] 95 :: .row 116 3 (.slice (some ⟨lb, lo, none⟩) fs.length lc) fs.length (fs.flatMap f3) :: [])) (.q 0 (.q 1 (.q 2 (.q 3 (.q 4 (.q 5 (.q 6 (.q 7 (.q 8 (.q 9 (.q 10 (.q 11 (.q 12 (.q 13 (.q 14 (.q 15 (.q 16 (.q 17 (.q 18 (.q 19 (.q 20 (.q 21 (.q 22 (.q 23 (.q 24 (.q 25 (.q 26 (.q 27 (.q 28 (.alt 29 (.q 30 (.q 31 .nil)) .stop)))))))))))))))))))))))))))))) mixed (by decide +kernel) (hL.drew.sub (.cons_cons _ (.cons_cons _ (.cons_cons _ (.cons_cons _ (List.nil_sublist _)))))) ?_; replace hL := hL.drew; conv => whnf) | (refine V.tailA ttOk mixed (by decide +kernel) ?_; replace hL := hL.drew; conv => whnf) | (refine Both.mk ?_ ?_ <;> conv => whnf) | fail)
    intro o2 ho2
    conv => whnf
    refine Lq.of_class (fun y hy => Ld.row1 ttOk (hy.rowN (i := 0) rfl).rowOf tl9 rfl (o' := o2) (k := i) hnget (by omega) rfl) ?_
    conv => whnf
    repeat (first | (refine RunH ?_; intro w hL hB; try clear w) | (refine Both.mk ?_ ?_ <;> conv => whnf) | fail)
    intro o3 ho3
    conv => whnf
    repeat (first | (refine RunH ?_; intro w hL hB; try clear w) | (refine Both.mk ?_ ?_ <;> conv => whnf) | fail)
    refine Lq.of_class (fun y hy => Ld.rowF ttOk f3_len 0 (hy.rowN (i := 3) rfl).rowOf (ss := fs) (o' := o3 + 0) (k := i) tl9 rfl hget rfl (by omega) rfl) ?_
    conv => whnf
    repeat (first | (refine RunH ?_; intro w hL hB; try clear w) | (refine Both.mk ?_ ?_ <;> conv => whnf) | (refine Br.yes (by simp; done) ?_; conv => whnf) | (refine Br.no (by simp; done) ?_; conv => whnf) | fail)
    intro o4 ho4
    conv => whnf
    repeat (first | (refine RunH ?_; intro w hL hB; try clear w) | (refine Both.mk ?_ ?_ <;> conv => whnf) | fail)
    refine Lq.of_class (fun y hy => Ld.rowF ttOk f3_len 1 (hy.rowN (i := 3) rfl).rowOf (ss := fs) (o' := o4 + 1) (k := i) (v := .slice va f.d.length vc) tl40 rfl hget (by rw [f3, hfv]; rfl) (by omega) rfl) ?_
    conv => whnf
    repeat (first | (refine RunH ?_; intro w hL hB; try clear w) | (refine Both.mk ?_ ?_ <;> conv => whnf) | fail)
    obtain ⟨va2, vc2, hfv2, hS⟩ := hfr (X := [_, _, _, _, _]) (Y := _ :: _ :: _ :: _ :: (J ++ (F ++ dL))) (by simpa using hL)
    rw [hfv] at hfv2
    injection hfv2 with q1 q2 q3
    subst q1; subst q3
    refine (same_fn _ _ f.d f.d _ (hL.row (i := 4) rfl) hS).mono fun r w ⟨hr, hw⟩ => ?_
    subst hr
    replace hL := hL.call hB (Turns.of_below hw)
    replace hB := Nat.le_trans hB hw.size
    rw [decide_eq_true rfl]
    conv => whnf
    refine ⟨hL.sub (.cons_cons _ (.cons_cons _ (.cons_cons _ (.cons_cons _ (List.nil_sublist _))))), ?_⟩
    conv => whnf
    repeat (first | (refine RunH ?_; intro w hL hB; try clear w) | (refine Both.mk ?_ ?_ <;> conv => whnf) | (refine And.intro (hL.sub (.cons_cons _ (.cons_cons _ (.cons_cons _ (.cons_cons _ (List.nil_sublist _)))))) ?_; conv => whnf) | fail)
    exact ⟨i + 1, ⟨rfl, rfl, vint (by push_cast; omega), trivial⟩, ⟨by omega, (close (F' := _ :: _ :: _ :: _ :: _ :: (fs.map Fv.row ++ (_ :: _ :: _ :: _ :: (J ++ F)))) hL hB).sub (.cons_cons _ (.cons_cons _ (.cons_cons _ (.cons_cons _ (.cons _ (.refl _))))))⟩, (by first | omega | (dsimp only; omega))⟩
  obtain rfl : i = SS.length := by omega
  have hb := hG hD.tl
  subst hSS
  clear hD hG
  obtain ⟨G, hL, hB, cl⟩ := hb.sep
  repeat (first | (refine RunK ?_; intro w hL hB; try clear w) | (refine V.tree ttOk (fun x0 => Sep Tryz.prog _ w0 x0 [.blk p [ptr d, ptr k, ptr v, ptr x, jv, kv] 52]) (.q 0 (.q 1 (.q 2 (.q 3 (.q 5 (.q 6 (.q 7 (.q 8 (.alt 4 (.alt 9 (.q 10 (.q 11 (.q 12 (.q 13 (.q 14 (.q 15 (.q 17 (.q 18 (.q 19 (.q 20 (.alt 16 (.alt 21 (.q 22 (.q 23 (.q 24 .nil))) .stop) .stop))))))))))) .stop) .stop))))))))) mixed (by decide +kernel) (hL.drew.one (i := 0) rfl) ?_; replace hL := hL.drew; conv => whnf) | (refine V.tailA ttOk mixed (by decide +kernel) ?_; replace hL := hL.drew; conv => whnf) | (refine Both.mk ?_ ?_ <;> conv => whnf) | fail)
  obtain ⟨dR, hD, back⟩ := (((cl (F' := _ :: _ :: _ :: _ :: _ :: (J ++ F)) hL hB)).fr (i := 1) rfl).dk
  refine (vsize_fn (by omega) hD).mono fun r w ⟨hr, hD⟩ => ?_
  subst hr
  rw [vol_sz, hl]
  clear cl hL hB
  obtain ⟨G, hL, hB, cl⟩ := (back (F' := _ :: _ :: _ :: _ :: _ :: (J ++ F)) hD).sep
  conv => whnf
  refine ⟨hL.one (i := 1) rfl, ?_⟩
  conv => whnf
  repeat (first | (refine RunH ?_; intro w hL hB; try clear w) | (refine Both.mk ?_ ?_ <;> conv => whnf) | fail)
  obtain ⟨dD, hD, back⟩ := (((cl (F' := _ :: _ :: _ :: _ :: _ :: (J ++ F)) hL hB)).fr (i := 3) rfl).rk
  refine (rsize_fn hid hnm hD).mono fun r w ⟨hr, hD⟩ => ?_
  subst hr
  rw [vol_sz, hl]
  clear cl hL hB
  obtain ⟨G, hL, hB, cl⟩ := (back (F' := _ :: _ :: _ :: _ :: _ :: (J ++ F)) hD).sep
  conv => whnf
  refine ⟨hL.one (i := 2) rfl, ?_⟩
  conv => whnf
  repeat (first | (refine RunH ?_; intro w hL hB; try clear w) | (refine Both.mk ?_ ?_ <;> conv => whnf) | fail)
  replace hL := hL.perm (L' := _ :: _ :: _ :: _ :: _ :: ((J ++ F) ++ G)) ((List.perm_append_comm (l₁ := [_, _]) (l₂ := [_])).append_right (_ :: _ :: ((J ++ F) ++ G)))
  obtain ⟨dR, hD, back⟩ := (((cl (F' := _ :: _ :: _ :: _ :: _ :: (J ++ F)) hL hB)).fr (i := 3) rfl |>.fr (i := 3) rfl).dk
  refine (vdirt_fn (by omega) hndp (by omega) hD).mono fun r w ⟨hr, hD⟩ => ?_
  subst hr
  rw [vol_sz, hl]
  clear cl hL hB
  obtain ⟨G, hL, hB, cl⟩ := (back (F' := _ :: _ :: _ :: _ :: _ :: (J ++ F)) hD).sep
  conv => whnf
  refine ⟨hL.one (i := 2) rfl, ?_⟩
  conv => whnf
  repeat (first | (refine RunH ?_; intro w hL hB; try clear w) | (refine Both.mk ?_ ?_ <;> conv => whnf) | fail)
  replace hL := hL.perm (L' := _ :: _ :: _ :: _ :: _ :: ((J ++ F) ++ G)) ((List.perm_append_comm (l₁ := [_, _]) (l₂ := [_, _, _])).append_right ((J ++ F) ++ G))
  obtain ⟨dD, hD, back⟩ := (((cl (F' := _ :: _ :: _ :: _ :: _ :: (J ++ F)) hL hB)).fr (i := 2) rfl |>.fr (i := 2) rfl).rk
  refine (rdirt_fn hid hnm hpl6 (by rw [hsp]; omega) hD).mono fun r w ⟨hr, hD⟩ => ?_
  subst hr
  rw [vol_sz, hl, hsp]
  clear cl hL hB
  have hb := back (F' := _ :: _ :: _ :: _ :: _ :: (J ++ F)) hD
  obtain ⟨G, hL, hB, cl⟩ := hb.sep
  conv => whnf
  refine ⟨hL.one (i := 2) rfl, ?_⟩
  conv => whnf
  repeat (first | (refine RunH ?_; intro w hL hB; try clear w) | (refine Both.mk ?_ ?_ <;> conv => whnf) | fail)
  refine ⟨?_, Rs, T, v, m, x, ra, rc, jv, kv, J, hok, hT, hJ, hb.perm ((List.perm_append_comm (l₁ := [_, _]) (l₂ := [_, _, _])).append_right (J ++ F))⟩
  refine congrArg Value.bool (decide_eq_true ?_)
  omega
end
end Go.Proofs.YtladfadcgfdbfaaGreatDoor
