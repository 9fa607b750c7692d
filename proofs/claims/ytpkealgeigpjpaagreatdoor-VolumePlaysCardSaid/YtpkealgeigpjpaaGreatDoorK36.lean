/- Dirt and Needles, of the volume and of the reference. volume: Needles. Nothing is claimed here. -/
import Derived.Test.YtpkealgeigpjpaaGreatDoorK35
namespace Go.Proofs.YtpkealgeigpjpaaGreatDoor
open Go.RowKit Go.Lib
set_option linter.unusedVariables false
set_option linter.unusedSimpArgs false
set_option maxRecDepth 100000
/-- a needle that is read: its place, its bytes, where they are -/
structure Nv where
  p : Pc
  d : List UInt8
  u : Value
def Nv.cells (n : Nv) : List Value := ndC n.p.key n.p.cook n.p.dead n.u
theorem Nv.cells_len (n : Nv) : n.cells.length = 4 := rfl
def Nv.res (n : Nv) : Res := .rc 5 n.u n.d.length (bv n.d)
def Nv.inf (n : Nv) : Pc × List UInt8 := (n.p, n.d)
/-- what can be read of these places -/
def goodN (f : List UInt8) (l : List Pc) : List (Pc × List UInt8) := (l.filter fun p => decide (readOk f p)).map fun p => (p, dData (rec f p))
theorem goodN_snoc (f : List UInt8) (l : List Pc) (p : Pc) : goodN f (l ++ [p]) = goodN f l ++ (if readOk f p then [(p, dData (rec f p))] else []) := by
  rw [goodN, List.filter_append, List.map_append]
  congr 1
  by_cases h : readOk f p
  · simp [h]
  · simp [h]
theorem sumN_take {l : List Pc} {i : Nat} (h : i < l.length) : sumN (l.take (i + 1)) = sumN (l.take i) + (l[i]).n := by rw [List.take_succ_eq_append_getElem h, sumN_snoc]
theorem sumN_take_le (l : List Pc) (i : Nat) : sumN (l.take i) ≤ sumN l := by
  have h : sumN (l.take i ++ l.drop i) = sumN (l.take i) + sumN (l.drop i) := by rw [sumN, List.map_append, List.sum_append]; rfl
  rw [List.take_append_drop] at h
  omega
section
variable {B k x room id : Nat} {ra : Option Addr} {rc : Nat} {ps rL : List Pc} {R : List Fl} {F : List Res} {w0 w : World}
set_option maxHeartbeats 4000000 in
theorem rdirt_fn {nm : ByteArray} (hid : id ≤ 99999999) (hnm : vnmG id = nm) (hrl : rL.length ≤ 1000000) (hsum : sumN (plsR rL rL) ≤ 2147483648) (hD : RkS B w0 w k room R (rvRes x k id ra rc rL F)) :
    Fn Tryz.prog 54 #[ptr x] w fun r w' => r = .int .i64 ((szS R nm : Int) - 8 - (sumN (plsR rL rL) : Nat)) ∧ RkS B w0 w' k room R (rvRes x k id ra rc rL F) := by
  have hsz := szRk_le hD nm
  have hplen := plsR_len rL rL
  have hsize := fun w F => rsize_fn (B := B) (w0 := w0) (w := w) (room := room) (R := R) (F := F) (rv := .slice ra rL.length rc) (x := x) (k := k) hid hnm
  have hpl := fun w F hL hB => rplaces_fn (B := B) (w0 := w0) (w := w) (F := F) (rL := rL) (x := x) (k := k) (id := id) (ra := ra) (rc := rc) hrl hL hB
  obtain ⟨dL, hL, hB, close⟩ := hD.open
  clear hD
  refine Fn.mk Tryz.func54 rfl (by kernel_rfl) Tryz.ntmps54 rfl (by rw [Tryz.results54]) ?_
  repeat (first | (refine RunH ?_; intro w hL hB; try clear w) | (refine Both.mk ?_ ?_ <;> conv => whnf) | fail)
  rw [rvRes] at hL
  refine (hsize _ _ (close (F' := _ :: _ :: F) hL hB)).mono fun r w ⟨hr, hD⟩ => ?_
  subst hr
  clear close hL hB
  obtain ⟨dL, hL, hB, close⟩ := hD.open
  clear hD
  conv => whnf
  repeat (first | (refine RunH ?_; intro w hL hB; try clear w) | (refine Both.mk ?_ ?_ <;> conv => whnf) | fail)
  refine (hpl _ _ (show Sep Tryz.prog B w0 w (rvRes x k id ra rc rL (F ++ dL)) from hL) hB).mono fun r w ⟨hL, hB⟩ => ?_
  generalize plsR rL rL = O at *
  obtain ⟨oa, oc, rfl⟩ := (show SlN w 5 r O.length _ from hL.rowN (i := 0) rfl).shape
  conv => whnf
  repeat (first | (refine RunH ?_; intro w hL hB; try clear w) | (refine Both.mk ?_ ?_ <;> conv => whnf) | fail)
  refine V.loop (α := Nat) (fun i => [(3, .int .i64 ((szS R nm : Int) - 8 - (sumN (O.take i) : Nat))), (4, .slice oa O.length oc), (5, .int .i64 (i : Int))])
    (fun i w' => i ≤ O.length ∧ B ≤ w'.heap.size ∧ Sep Tryz.prog B w0 w' (.row 97 5 (.slice oa O.length oc) O.length (O.flatMap pcC) :: rvRes x k id ra rc rL (F ++ dL))) (fun i => O.length - i) 0 ⟨by simp [sumN]; rfl, rfl, rfl, trivial⟩ ⟨Nat.zero_le _, hB, hL⟩ ?_
  clear hL hB
  rintro i w ⟨hi, hB, hL⟩
  have hs1 := sumN_take_le O i
  by_cases hil : i < O.length
  · have hget := List.getElem?_eq_getElem hil
    have hs2 := sumN_take hil
    have hs3 := sumN_take_le O (i + 1)
    generalize O[i] = p at *
    obtain ⟨ob, oo, rfl, _⟩ := SlN.addr (show SlN w 5 (.slice oa O.length oc) O.length _ from hL.rowN (i := 0) rfl) (by omega)
    repeat (first | (refine RunH ?_; intro w hL hB; try clear w) | (refine Both.mk ?_ ?_ <;> conv => whnf) | fail)
    intro o1 ho1
    conv => whnf
    repeat (first | (refine RunH ?_; intro w hL hB; try clear w) | (refine Both.mk ?_ ?_ <;> conv => whnf) | fail)
    refine Ld.rowF ttOk pcC_len 2 (hL.rowN (i := 0) rfl).rowOf tl3 rfl hget rfl (by omega) ?_
    conv => whnf
    repeat (first | (refine RunH ?_; intro w hL hB; try clear w) | (refine Both.mk ?_ ?_ <;> conv => whnf) | fail)
    exact ⟨i + 1, ⟨vint (by rw [hs2]; push_cast; omega), rfl, vint (by push_cast; rfl), trivial⟩, ⟨by omega, hB, hL⟩, (by first | omega | (dsimp only; omega))⟩
  · obtain rfl : i = O.length := by omega
    rw [List.take_length] at *
    repeat (first | (refine RunH ?_; intro w hL hB; try clear w) | (refine Both.mk ?_ ?_ <;> conv => whnf) | fail)
    exact ⟨rfl, close (F' := _ :: _ :: F) hL.tl hB⟩
theorem nvs_one (ns : List Nv) (h : ∀ n ∈ ns, ∃ a c, n.u = .slice a n.d.length c) : ∀ u ∈ ns.flatMap Nv.cells, u.oneCell' = true := fun u hu => by
  obtain ⟨n, hn, hq⟩ := List.mem_flatMap.1 hu
  obtain ⟨a, c, he⟩ := h n hn
  simp only [Nv.cells, ndC, he, List.mem_cons, List.not_mem_nil, or_false] at hq
  rcases hq with rfl | rfl | rfl | rfl <;> rfl
set_option maxHeartbeats 8000000 in
theorem rneedles_fn {nm : ByteArray} (hid : id ≤ 99999999) (hnm : vnmG id = nm) (hrl : rL.length ≤ 1000000) (hok : OkP (plsR rL rL)) (hD : RkS B w0 w k room R (rvRes x k id ra rc rL F)) :
    Fn Tryz.prog 50 #[ptr x] w fun r w' => ∃ ns : List Nv, ns.map Nv.inf = goodN (datS R nm) (plsR rL rL) ∧ ns.length ≤ rL.length ∧ RkS B w0 w' k room R (.row 49 4 r ns.length (ns.flatMap Nv.cells) :: (ns.map Nv.res ++ rvRes x k id ra rc rL F)) := by
  have hplen := plsR_len rL rL
  have hload := fun p hp w F => loadR_fn (B := B) (w0 := w0) (w := w) (room := room) (R := R) (F := F) (rv := .slice ra rL.length rc) (x := x) (k := k) hid hnm p hp
  have hpl := fun w F hL hB => rplaces_fn (B := B) (w0 := w0) (w := w) (F := F) (rL := rL) (x := x) (k := k) (id := id) (ra := ra) (rc := rc) hrl hL hB
  obtain ⟨dL, hL, hB, close⟩ := hD.open
  clear hD
  refine Fn.mk Tryz.func50 rfl (by kernel_rfl) Tryz.ntmps50 rfl (by rw [Tryz.results50]) ?_
  repeat (first | (refine RunH ?_; intro w hL hB; try clear w) | (refine Both.mk ?_ ?_ <;> conv => whnf) | fail)
  refine (hpl _ _ (show Sep Tryz.prog B w0 w (rvRes x k id ra rc rL (F ++ dL)) from hL) hB).mono fun r w ⟨hL, hB⟩ => ?_
  generalize plsR rL rL = O at *
  obtain ⟨oa, oc, rfl⟩ := (show SlN w 5 r O.length _ from hL.rowN (i := 0) rfl).shape
  have hLn := hL.addRow hB (Below.refl _ _) (e := 49) (sz := 4) (v := .slice none 0 0) (n := 0) (xs := []) ⟨rfl, .inl ⟨rfl, rfl⟩⟩
  have hD := close (F' := _ :: _ :: rvRes x k id ra rc rL F) hLn hB
  clear hLn hL hB close
  rw [rvRes] at hD ⊢
  conv => whnf
  repeat (first | (refine RunH ?_; intro w hL hB; try clear w) | (refine Both.mk ?_ ?_ <;> conv => whnf) | fail)
  refine V.loop (α := Nat × List Nv × Option Addr × Nat) (fun z => [(0, ptr x), (3, .slice z.2.2.1 z.2.1.length z.2.2.2), (4, .slice oa O.length oc), (5, .int .i64 (z.1 : Int))])
    (fun z w' => z.1 ≤ O.length ∧ z.2.1.map Nv.inf = goodN (datS R nm) (O.take z.1) ∧ z.2.1.length ≤ z.1 ∧ RkS B w0 w' k room R (.row 49 4 (.slice z.2.2.1 z.2.1.length z.2.2.2) z.2.1.length (z.2.1.flatMap Nv.cells) :: .row 97 5 (.slice oa O.length oc) O.length (O.flatMap pcC) :: (z.2.1.map Nv.res ++ (.blk x [ptr k, .int .i64 (id : Int), .slice ra rL.length rc] 80 :: .row 97 5 (.slice ra rL.length rc) rL.length (rL.flatMap pcC) :: F)))) (fun z => O.length - z.1) (0, [], none, 0) ⟨rfl, rfl, rfl, rfl, trivial⟩ ⟨Nat.zero_le _, rfl, Nat.zero_le _, hD⟩ ?_
  clear hD
  rintro ⟨i, ns, na, nc⟩ w ⟨hi, hns, hnl, hD⟩
  dsimp only at hi hns hnl hD ⊢
  by_cases hil : i < O.length
  · have hget := List.getElem?_eq_getElem hil
    have hpp := hok _ (List.getElem_mem hil)
    have htk : O.take (i + 1) = O.take i ++ [O[i]] := List.take_succ_eq_append_getElem hil
    have hgs := goodN_snoc (datS R nm) (O.take i) O[i]
    rw [← htk] at hgs
    generalize O[i] = p at *
    obtain ⟨dL, hL, hB, close⟩ := hD.open
    clear hD
    obtain ⟨ob, oo, rfl, _⟩ := SlN.addr (show SlN w 5 (.slice oa O.length oc) O.length _ from hL.rowN (i := 1) rfl) (by omega)
    repeat (first | (refine RunH ?_; intro w hL hB; try clear w) | (refine Both.mk ?_ ?_ <;> conv => whnf) | fail)
    intro o1 ho1
    conv => whnf
    repeat (first | (refine RunH ?_; intro w hL hB; try clear w) | (refine Both.mk ?_ ?_ <;> conv => whnf) | fail)
    refine Ld.rowN ttOk pcC_len (hL.rowN (i := 1) rfl).rowOf tl97 rfl rfl hget (by omega) ?_
    conv => whnf
    have hD := close (F' := _ :: _ :: (ns.map Nv.res ++ (_ :: _ :: F))) hL hB
    clear close hL hB
    replace hD := hD.perm (F' := .blk x [ptr k, .int .i64 (id : Int), .slice ra rL.length rc] 80 :: .row 49 4 (.slice na ns.length nc) ns.length (ns.flatMap Nv.cells) :: .row 97 5 (.slice (some ⟨ob, oo, none⟩) O.length oc) O.length (O.flatMap pcC) :: (ns.map Nv.res ++ (.row 97 5 (.slice ra rL.length rc) rL.length (rL.flatMap pcC) :: F))) ((List.Perm.cons _ (List.Perm.cons _ List.perm_middle)).trans ((List.Perm.cons _ (.swap _ _ _)).trans (.swap _ _ _)))
    refine (hload p ⟨hpp.2.2.1, hpp.2.2.2.1, by have := hpp.2.2.2.2; omega⟩ _ _ hD).mono fun r w ⟨h1, h2⟩ => ?_
    clear hD
    by_cases hro : readOk (datS R nm) p
    · obtain ⟨u, hr, hD⟩ := h1 hro
      clear h1 h2
      subst hr
      rw [if_pos hro] at hgs
      have hdl : (dData (rec (datS R nm) p)).length ≤ 2147483648 := by
        have := hpp.2.2.2.2
        have h3 : (rec (datS R nm) p).length = p.n := win_len hro.1
        have : (dData (rec (datS R nm) p)).length ≤ (rec (datS R nm) p).length := by simp [dData, Go.Proofs.YtpkealgeigpjpaaGreatDoor.win]; omega
        omega
      generalize dData (rec (datS R nm) p) = D at *
      obtain ⟨dL, hL, hB, close⟩ := hD.open
      clear hD
      obtain ⟨ua, uc, rfl⟩ := (show SlN w 1 u _ _ from hL.rowN (i := 0) rfl).shape
      replace hL := hL.says (R' := .rc 5 (.slice ua D.length uc) D.length (bv D)) (RowC.of_own (hL.ownR (i := 0) rfl)) rfl
      rw [ndC]
      conv => whnf
      (refine Nw.sep hL hB (fun t6 w hL hB ht6 => ?_); conv => whnf)
      repeat (first | (refine RunH ?_; intro w hL hB; try clear w) | (refine Both.mk ?_ ?_ <;> conv => whnf) | fail)
      refine Rv.buildS (len := 1) (vs := [.agg #[.int .u64 (p.key : Int), .int .u32 (p.cook : Int), .bool p.dead, .slice ua D.length uc]]) ttOk hL tl93 tl49 rfl rfl (by intro u hu; simp only [List.mem_singleton] at hu; subst hu; rfl) (by decide) (by decide) hB fun bp w hL hB => ?_
      replace hL : Sep Tryz.prog B w0 w (.row 49 4 (.slice (some ⟨bp, 0, none⟩) 1 1) 1 [.int .u64 (p.key : Int), .int .u32 (p.cook : Int), .bool p.dead, .slice ua D.length uc] :: _) := hL
      conv => whnf
      repeat (first | (refine RunH ?_; intro w hL hB; try clear w) | (refine Both.mk ?_ ?_ <;> conv => whnf) | fail)
      refine Rv.appendS (m := 1) (news := [.int .u64 (p.key : Int), .int .u32 (p.cook : Int), .bool p.dead, .slice ua D.length uc]) ttOk hL tl93 tl49 rfl (by decide) 4 rfl (hL.rowN (i := 0) rfl) (by intro u hu; simp only [List.mem_cons, List.not_mem_nil, or_false] at hu; rcases hu with rfl | rfl | rfl | rfl <;> rfl) (by simp only [maxLen]; omega) (by omega) hB fun vo w hL hB => ?_
      dsimp only [List.set] at hL
      obtain ⟨va, vc, rfl⟩ := (show SlN w 4 vo (ns.length + 1) _ from hL.rowN (i := 4) rfl).shape
      conv => whnf
      repeat (first | (refine RunH ?_; intro w hL hB; try clear w) | (refine Both.mk ?_ ?_ <;> conv => whnf) | fail)
      refine ⟨(i + 1, ns ++ [⟨p, D, .slice ua D.length uc⟩], va, vc), ⟨rfl, congrArg (fun q => some (Value.slice va q vc)) (show ns.length + 1 = (ns ++ [_]).length by simp), rfl, vint (by push_cast; rfl), trivial⟩, ⟨by dsimp only; omega, by dsimp only; rw [hgs, List.map_append, hns]; rfl, by simp; omega, ?_⟩, (by first | omega | (dsimp only; omega))⟩
      dsimp only
      have hD := close (F' := _ :: _ :: _ :: _ :: (ns.map Nv.res ++ (_ :: F))) (hL.sub (.cons _ (.cons _ (.refl _)))) hB
      rw [List.flatMap_append, List.map_append, List.length_append]
      refine hD.perm ?_
      classical exact List.perm_iff_count.2 fun a => by simp only [List.count_append, List.count_cons, List.count_nil, List.map_cons, List.map_nil, Nv.res]; simp only [Nv.cells, ndC, List.flatMap_cons, List.flatMap_nil, List.append_nil, List.length_cons, List.length_nil, Nat.zero_add]; omega
    · obtain ⟨hr, hD⟩ := h2 hro
      clear h1 h2
      subst hr
      rw [if_neg hro, List.append_nil] at hgs
      obtain ⟨dL, hL, hB, close⟩ := hD.open
      clear hD
      rw [zeroN]
      conv => whnf
      (refine Nw.sep hL hB (fun t6 w hL hB ht6 => ?_); conv => whnf)
      repeat (first | (refine RunH ?_; intro w hL hB; try clear w) | (refine Both.mk ?_ ?_ <;> conv => whnf) | fail)
      refine ⟨(i + 1, ns, na, nc), ⟨rfl, rfl, rfl, vint (by push_cast; rfl), trivial⟩, ⟨by dsimp only; omega, by dsimp only; rw [hgs, hns], by dsimp only; omega, ?_⟩, (by first | omega | (dsimp only; omega))⟩
      dsimp only
      have hD := close (F' := _ :: _ :: _ :: (ns.map Nv.res ++ (_ :: F))) (hL.sub (.cons _ (.refl _))) hB
      exact hD.perm (((List.Perm.cons _ (List.Perm.cons _ List.perm_middle)).trans ((List.Perm.cons _ (.swap _ _ _)).trans (.swap _ _ _))).symm)
  · obtain rfl : i = O.length := by omega
    rw [List.take_length] at hns
    obtain ⟨dL, hL, hB, close⟩ := hD.open
    clear hD
    repeat (first | (refine RunH ?_; intro w hL hB; try clear w) | (refine Both.mk ?_ ?_ <;> conv => whnf) | fail)
    exact ⟨ns, hns, by omega, close (F' := _ :: (ns.map Nv.res ++ (_ :: _ :: F))) (hL.sub (.cons_cons _ (.cons _ (.refl _)))) hB⟩
end
end Go.Proofs.YtpkealgeigpjpaaGreatDoor
namespace Go.Proofs.YtpkealgeigpjpaaGreatDoor
open Go.RowKit Go.Lib
open Go.Maps (Keyed)
set_option linter.unusedVariables false
set_option linter.unusedSimpArgs false
set_option maxRecDepth 100000
section
variable {B d v m room id : Nat} {nm : ByteArray} {S : List Fl} {ps : List Pc} {F : List Res} {w0 w : World}
set_option maxHeartbeats 8000000 in
theorem vneedles_fn (hn : nm.size ≤ 1000000) (hnd : NdP ps) (hok : OkP ps) (hps : ps.length ≤ 1000000) (hD : DkS B w0 w d room S (.blk v (volC d id nm m) 70 :: .mp 45 m (ps.map pcE) :: F)) :
    Fn Tryz.prog 49 #[ptr v] w fun r w' => ∃ ns : List Nv, ns.map Nv.inf = goodN (datS S nm) (plsOf ps) ∧ ns.length ≤ ps.length ∧ DkS B w0 w' d room S (.row 49 4 r ns.length (ns.flatMap Nv.cells) :: (ns.map Nv.res ++ (.blk v (volC d id nm m) 70 :: .mp 45 m (ps.map pcE) :: F))) := by
  have hsz := szS_le hD nm
  have hpl := fun w F hD => vplaces_fn (B := B) (w0 := w0) (w := w) (F := F) (d := d) (v := v) (m := m) (room := room) (id := id) (nm := nm) (S := S) hnd hok hps hD
  have hpo : ∀ p ∈ plsOf ps, p ∈ ps := fun p hp => by
    rw [plsOf] at hp
    obtain ⟨q, hq, rfl⟩ := List.mem_map.1 hp
    obtain ⟨o, ho, hok, hg⟩ := getP_some' (sortedK_mem.1 hq)
    rw [hg]; exact ho
  have hpn : (plsOf ps).length = ps.length := by rw [plsOf, List.length_map, sortedK_len]
  have hdl := datS_len S nm
  rw [volC] at *
  obtain ⟨dL, hL, hB, close⟩ := hD.open
  clear hD
  refine Fn.mk Tryz.func49 rfl (by kernel_rfl) Tryz.ntmps49 rfl (by rw [Tryz.results49]) ?_
  repeat (first | (refine RunK ?_; intro w hL hB; try clear w) | (refine V.tree ttOk (fun x0 => Sep Tryz.prog _ w0 x0 (.blk v [ptr d, .int .i64 (id : Int), .string nm, .map (some m)] 70 :: [])) (.q 0 (.q 1 (.q 2 (.q 3 (.q 4 (.q 5 (.q 6 (.q 7 (.alt 8 (.q 9 (.q 10 (.q 11 (.q 12 (.q 13 .nil))))) .stop))))))))) mixed (by decide +kernel) (hL.drew.sub (.cons_cons _ (List.nil_sublist _))) ?_; replace hL := hL.drew; conv => whnf) | (refine V.tailA ttOk mixed (by decide +kernel) ?_; replace hL := hL.drew; conv => whnf) | (refine Both.mk ?_ ?_ <;> conv => whnf) | fail)
  refine (read_fn nm hn (close (F' := _ :: _ :: F) hL hB)).mono fun r w hD0 => ?_
  clear close hL hB
  obtain ⟨fa, fc, e, hr, hD⟩ : ∃ (fa : Option Addr) (fc e : Nat), r = .tuple #[.slice fa (datS S nm).length fc, .int .i64 (e : Nat)] ∧ DkS B w0 w d room S (.row 5 1 (.slice fa (datS S nm).length fc) (datS S nm).length (bv (datS S nm)) :: .blk v [ptr d, .int .i64 (id : Int), .string nm, .map (some m)] 70 :: .mp 45 m (ps.map pcE) :: F) := by
    unfold datS
    cases hg : getS S nm with
    | none =>
      rw [hg] at hD0
      obtain ⟨hr, hD⟩ := hD0
      obtain ⟨dL, hL, hB, close⟩ := hD.open
      exact ⟨none, 0, 7, hr, close (F' := _ :: _ :: _ :: F) (hL.nilRow 5 1) hB⟩
    | some f =>
      rw [hg] at hD0
      obtain ⟨u, hr, hD⟩ := hD0
      obtain ⟨dL, hL, hB, close⟩ := hD.open
      obtain ⟨ua, uc, rfl⟩ := (show SlN w 1 u _ _ from hL.rowN (i := 0) rfl).shape
      exact ⟨ua, uc, 0, hr, close (F' := _ :: _ :: _ :: F) hL hB⟩
  clear hD0
  subst hr
  generalize hdd : datS S nm = f at *
  obtain ⟨dL, hL, hB, close⟩ := hD.open
  clear hD
  replace hL := hL.perm ((List.Perm.swap _ _ _).trans (List.Perm.cons _ (.swap _ _ _)))
  conv => whnf
  refine ⟨hL.sub (.cons_cons _ (List.nil_sublist _)), ?_⟩
  conv => whnf
  repeat (first | (refine RunH ?_; intro w hL hB; try clear w) | (refine Both.mk ?_ ?_ <;> conv => whnf) | fail)
  refine (hpl _ _ (close (F' := _ :: _ :: _ :: F) hL hB)).mono fun r w hD => ?_
  clear close hL hB hpl
  have hread := fun p hp w hs => vread_fn (ptr v) (.slice fa f.length fc) f p hp w hs
  generalize plsOf ps = O at *
  rw [← hpn] at hD
  obtain ⟨dL, hL, hB, close⟩ := hD.open
  clear hD
  obtain ⟨oa, oc, rfl⟩ := (show SlN w 5 r O.length _ from hL.rowN (i := 0) rfl).shape
  have hLn := hL.addRow hB (Below.refl _ _) (e := 49) (sz := 4) (v := .slice none 0 0) (n := 0) (xs := []) ⟨rfl, .inl ⟨rfl, rfl⟩⟩
  replace hLn := hLn.perm ((List.Perm.cons _ (List.Perm.cons _ ((List.Perm.cons _ (.swap _ _ _)).trans (.swap _ _ _)))))
  conv => whnf
  repeat (first | (refine RunH ?_; intro w hL hB; try clear w) | (refine Both.mk ?_ ?_ <;> conv => whnf) | fail)
  refine V.loop (α := Nat × List Nv × Option Addr × Nat) (fun z => [(0, ptr v), (3, .slice fa f.length fc), (5, .slice z.2.2.1 z.2.1.length z.2.2.2), (25, .slice oa O.length oc), (26, .int .i64 (O.length : Int)), (27, .int .i64 (z.1 : Int))])
    (fun z w' => z.1 ≤ O.length ∧ z.2.1.map Nv.inf = goodN f (O.take z.1) ∧ z.2.1.length ≤ z.1 ∧ B ≤ w'.heap.size ∧ Sep Tryz.prog B w0 w' (.row 49 4 (.slice z.2.2.1 z.2.1.length z.2.2.2) z.2.1.length (z.2.1.flatMap Nv.cells) :: .row 97 5 (.slice oa O.length oc) O.length (O.flatMap pcC) :: .row 5 1 (.slice fa f.length fc) f.length (bv f) :: (z.2.1.map Nv.res ++ (.blk v [ptr d, .int .i64 (id : Int), .string nm, .map (some m)] 70 :: .mp 45 m (ps.map pcE) :: (F ++ dL))))) (fun z => O.length - z.1) (0, [], none, 0) ⟨rfl, rfl, rfl, rfl, rfl, rfl, trivial⟩ ⟨Nat.zero_le _, rfl, Nat.zero_le _, hB, hLn⟩ ?_
  clear hL hB hLn
  rintro ⟨i, ns, na, nc⟩ w ⟨hi, hns, hnl, hB, hL⟩
  dsimp only at hi hns hnl hL ⊢
  by_cases hil : i < O.length
  · have hget := List.getElem?_eq_getElem hil
    have hpp := hok _ (hpo _ (List.getElem_mem hil))
    have htk : O.take (i + 1) = O.take i ++ [O[i]] := List.take_succ_eq_append_getElem hil
    have hgs := goodN_snoc f (O.take i) O[i]
    rw [← htk] at hgs
    generalize O[i] = p at *
    obtain ⟨ob, oo, rfl, _⟩ := SlN.addr (show SlN w 5 (.slice oa O.length oc) O.length _ from hL.rowN (i := 1) rfl) (by omega)
    repeat (first | (refine RunH ?_; intro w hL hB; try clear w) | (refine Both.mk ?_ ?_ <;> conv => whnf) | fail)
    intro o1 ho1
    conv => whnf
    repeat (first | (refine RunH ?_; intro w hL hB; try clear w) | (refine Both.mk ?_ ?_ <;> conv => whnf) | fail)
    refine Ld.rowN ttOk pcC_len (hL.rowN (i := 1) rfl).rowOf tl97 rfl rfl hget (by omega) ?_
    rw [pcC]
    conv => whnf
    (refine Nw.sep hL hB (fun t7 w hL hB ht7 => ?_); conv => whnf)
    repeat (first | (refine RunH ?_; intro w hL hB; try clear w) | (refine Both.mk ?_ ?_ <;> conv => whnf) | fail)
    refine (hread p ⟨hpp.2.2.1, hpp.2.2.2.1, by have := hpp.2.2.2.2; omega⟩ _ (hL.row (i := 3) rfl)).mono fun r w ⟨⟨h1, h2⟩, hw⟩ => ?_
    by_cases hro : readOk f p
    · obtain ⟨u, hr, ho⟩ := h1 hro
      clear h1 h2
      subst hr
      rw [if_pos hro] at hgs
      have hdl' : (dData (rec f p)).length ≤ 2147483648 := by
        have := hpp.2.2.2.2
        have h3 : (rec f p).length = p.n := win_len hro.1
        have : (dData (rec f p)).length ≤ (rec f p).length := by simp [dData, Go.Proofs.YtpkealgeigpjpaaGreatDoor.win]; omega
        omega
      generalize dData (rec f p) = D at *
      replace hL := hL.addRow hB hw ho
      replace hB := Nat.le_trans hB hw.size
      obtain ⟨ua, uc, rfl⟩ := (show SlN w 1 u _ _ from hL.rowN (i := 0) rfl).shape
      replace hL := hL.says (R' := .rc 5 (.slice ua D.length uc) D.length (bv D)) (RowC.of_own (hL.ownR (i := 0) rfl)) rfl
      rw [ndC]
      conv => whnf
      (refine Nw.sep hL hB (fun t8 w hL hB ht8 => ?_); conv => whnf)
      repeat (first | (refine RunH ?_; intro w hL hB; try clear w) | (refine Both.mk ?_ ?_ <;> conv => whnf) | fail)
      refine Rv.buildS (len := 1) (vs := [.agg #[.int .u64 (p.key : Int), .int .u32 (p.cook : Int), .bool p.dead, .slice ua D.length uc]]) ttOk hL tl93 tl49 rfl rfl (by intro u hu; simp only [List.mem_singleton] at hu; subst hu; rfl) (by decide) (by decide) hB fun bp w hL hB => ?_
      replace hL : Sep Tryz.prog B w0 w (.row 49 4 (.slice (some ⟨bp, 0, none⟩) 1 1) 1 [.int .u64 (p.key : Int), .int .u32 (p.cook : Int), .bool p.dead, .slice ua D.length uc] :: _) := hL
      conv => whnf
      repeat (first | (refine RunH ?_; intro w hL hB; try clear w) | (refine Both.mk ?_ ?_ <;> conv => whnf) | fail)
      refine Rv.appendS (m := 1) (news := [.int .u64 (p.key : Int), .int .u32 (p.cook : Int), .bool p.dead, .slice ua D.length uc]) ttOk hL tl93 tl49 rfl (by decide) 4 rfl (hL.rowN (i := 0) rfl) (by intro u hu; simp only [List.mem_cons, List.not_mem_nil, or_false] at hu; rcases hu with rfl | rfl | rfl | rfl <;> rfl) (by simp only [maxLen]; omega) (by omega) hB fun vo w hL hB => ?_
      dsimp only [List.set] at hL
      obtain ⟨va, vc, rfl⟩ := (show SlN w 4 vo (ns.length + 1) _ from hL.rowN (i := 4) rfl).shape
      conv => whnf
      repeat (first | (refine RunH ?_; intro w hL hB; try clear w) | (refine Both.mk ?_ ?_ <;> conv => whnf) | fail)
      refine ⟨(i + 1, ns ++ [⟨p, D, .slice ua D.length uc⟩], va, vc), ⟨rfl, rfl, congrArg (fun q => some (Value.slice va q vc)) (show ns.length + 1 = (ns ++ [_]).length by simp), rfl, rfl, vint (by push_cast; rfl), trivial⟩, ⟨by dsimp only; omega, by dsimp only; rw [hgs, List.map_append, hns]; rfl, by simp; omega, hB, ?_⟩, (by first | omega | (dsimp only; omega))⟩
      dsimp only
      have hD := hL.sub (L' := _ :: _ :: _ :: _ :: (ns.map Nv.res ++ (_ :: _ :: (F ++ dL)))) (.cons _ (.cons _ (.cons_cons _ (.cons _ (.refl _)))))
      rw [List.flatMap_append, List.map_append, List.length_append]
      refine hD.perm ?_
      classical exact List.perm_iff_count.2 fun a => by simp only [List.count_append, List.count_cons, List.count_nil, List.map_cons, List.map_nil, Nv.res]; simp only [Nv.cells, ndC, List.flatMap_cons, List.flatMap_nil, List.append_nil, List.length_cons, List.length_nil, Nat.zero_add]; omega
    · obtain ⟨k1, c1, d1, a1, n1, p1, hr⟩ := h2 hro
      clear h1 h2
      subst hr
      rw [if_neg hro, List.append_nil] at hgs
      replace hL := hL.call hB (Turns.of_below hw)
      replace hB := Nat.le_trans hB hw.size
      conv => whnf
      (refine Nw.sep hL hB (fun t8 w hL hB ht8 => ?_); conv => whnf)
      repeat (first | (refine RunH ?_; intro w hL hB; try clear w) | (refine Both.mk ?_ ?_ <;> conv => whnf) | fail)
      refine ⟨(i + 1, ns, na, nc), ⟨rfl, rfl, rfl, rfl, rfl, vint (by push_cast; rfl), trivial⟩, ⟨by dsimp only; omega, by dsimp only; rw [hgs, hns], by dsimp only; omega, hB, ?_⟩, (by first | omega | (dsimp only; omega))⟩
      exact hL.tl.tl
  · obtain rfl : i = O.length := by omega
    rw [List.take_length] at hns
    repeat (first | (refine RunH ?_; intro w hL hB; try clear w) | (refine Both.mk ?_ ?_ <;> conv => whnf) | fail)
    exact ⟨ns, hns, by omega, close (F' := _ :: (ns.map Nv.res ++ (_ :: _ :: F))) (by
      have := hL.sub (.cons_cons _ (.cons _ (.cons _ (.refl _))))
      simpa using this) hB⟩
end
end Go.Proofs.YtpkealgeigpjpaaGreatDoor
