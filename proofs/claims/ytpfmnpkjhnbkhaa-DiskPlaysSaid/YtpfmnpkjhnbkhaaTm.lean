/- DiskPlays: what stands in both disks. Nothing is claimed here. -/
import Derived.Test.YtpfmnpkjhnbkhaaTl
namespace Go.Proofs.Ytpfmnpkjhnbkhaa
open Go.RowKit
set_option linter.unusedVariables false
set_option linter.unusedSimpArgs false
set_option maxRecDepth 100000

theorem usedRS_fn {B b room : Nat} {R : List Fl} {F : List Res} {w0 w : World} (hD : RkS B w0 w b room R F) : Fn Try.prog 49 #[ptr b] w fun r w' => r = .int .i64 (totS R : Nat) ∧ w' = w := by
  obtain ⟨⟨L, fs, rfl, hok, hL⟩, hB⟩ := hD
  rw [tot_fl]
  exact usedR_fn hok.ok.len (len1 hok.ok) hL hB
theorem namesLaw_fn (v1 v2 : Value) (N : List ByteArray) (w0 : World) (hlen : N.length ≤ 1000) (h1 : Sl w0 v1 (N.map Value.string)) (h2 : Sl w0 v2 (N.map Value.string)) :
    Fn Try.prog 47 #[v1, v2] w0 fun r w' => r = .bool true ∧ Below w0.heap.size w0 w' := by
  have hL := Sep.start Try.prog w0
  have hB := Nat.le_refl w0.heap.size
  obtain ⟨a1, c1, rfl⟩ := h1.shape
  obtain ⟨a2, c2, rfl⟩ := h2.shape
  simp only [List.length_map] at *
  refine Fn.mk Try.func47 rfl (by kernel_rfl) Try.ntmps47 rfl (by rw [Try.results47]) ?_
  repeat (first | (refine RunH ?_; intro w hL hB; try clear w) | (refine Both.mk ?_ ?_ <;> conv => whnf) | fail)
  refine V.loop (α := Nat) (fun k => [(0, .slice a1 N.length c1), (1, .slice a2 N.length c2), (5, .int .i64 (k : Int))])
    (fun k w' => k ≤ N.length ∧ Sep Try.prog w0.heap.size w0 w' []) (fun k => N.length - k) 0 ⟨rfl, rfl, rfl, trivial⟩ ⟨by omega, hL⟩ ?_
  clear hL hB
  rintro k w ⟨hk, hL⟩
  have hB := hL.below.size
  by_cases hkl : k < N.length
  case neg =>
    repeat (first | (refine RunH ?_; intro w hL hB; try clear w) | (refine Both.mk ?_ ?_ <;> conv => whnf) | fail)
    exact ⟨rfl, hL.below⟩
  have hg : (N.map Value.string)[k]? = some (.string N[k]) := by simp [hkl]
  obtain ⟨b1, o1, rfl, r1⟩ := (h1.below hL.below).addr (by omega)
  obtain ⟨b2, o2, rfl, r2⟩ := (h2.below hL.below).addr (by omega)
  repeat (first | (refine RunH ?_; intro w hL hB; try clear w) | (refine Both.mk ?_ ?_ <;> conv => whnf) | fail)
  refine V.quiet ttOk (fun x => x = World.drew _) mixed (by kernel_rfl) rfl ?_
  replace hL := hL.drew
  replace r1 := (show Sl _ _ _ from (h1.below hL.below)).toN.rowOf
  replace r2 := (show Sl _ _ _ from (h2.below hL.below)).toN.rowOf
  conv => whnf
  repeat (first | (refine RunH ?_; intro w hL hB; try clear w) | (refine Both.mk ?_ ?_ <;> conv => whnf) | fail)
  intro o3 ho3
  conv => whnf
  refine Lq.of_row (Ld.row1 ttOk r1 (k := k) tl9 rfl hg (by omega) rfl) ?_
  conv => whnf
  repeat (first | (refine RunH ?_; intro w hL hB; try clear w) | (refine Both.mk ?_ ?_ <;> conv => whnf) | fail)
  intro o4 ho4
  conv => whnf
  refine Lq.of_row (Ld.row1 ttOk r2 (k := k) tl9 rfl hg (by omega) rfl) ?_
  conv => whnf
  repeat (first | (refine RunH ?_; intro w hL hB; try clear w) | (refine Both.mk ?_ ?_ <;> conv => whnf) | fail)
  rintro w rfl
  conv => whnf
  repeat (first | (refine RunH ?_; intro w hL hB; try clear w) | (refine Both.mk ?_ ?_ <;> conv => whnf) | (refine Br.yes (by simp) ?_; conv => whnf) | fail)
  exact ⟨k + 1, ⟨rfl, rfl, vint (by push_cast; omega), trivial⟩, ⟨by omega, hL⟩, (by first | omega | (dsimp only; omega))⟩
theorem strs_eq {R : List Fl} (h : (R.map (·.nm)).Pairwise ltN) : (names R).map encStr = (R.map (·.nm)).map Value.string := by
  rw [names_srt h, List.map_map, List.map_map]
  exact List.map_congr_left fun f _ => encStr_nm f.nm
set_option maxHeartbeats 8000000 in
theorem stood_fn {B : Nat} {w0 w : World} {d k room : Nat} {S : List Fl} {F : List Res} (h2 : Two B w0 w d k room S F) :
    Fn Try.prog 28 #[ptr d, ptr k] w fun r w' => r = .bool true ∧ Two B w0 w' d k room S F := by
  obtain ⟨⟨R, dR, hp, hD, clR⟩⟩ := h2
  have hnd := hD.nd
  have hlenS : S.length ≤ 256 := by
    obtain ⟨mo, fs, rfl, hok, _⟩ := hD.of
    simpa using hok.len
  obtain ⟨dD, hL, hB, clD⟩ := hD.open
  clear hD
  refine Fn.mk Try.func28 rfl (by kernel_rfl) Try.ntmps28 rfl (by rw [Try.results28]) ?_
  refine RunR ?_
  refine (list_fn (clD (F' := F ++ dR) hL hB)).mono fun r w hD => ?_
  clear clD hL hB
  obtain ⟨dD, hL, hB, clD⟩ := hD.open
  clear hD
  replace hL := Sep.swl (F := _ :: F) hL
  obtain ⟨ua, uc, rfl⟩ := (show SlN w 1 r _ _ from hL.rowN (i := 0) rfl).shape
  conv => whnf
  repeat (first | (refine RunH ?_; intro w hL hB; try clear w) | (refine Both.mk ?_ ?_ <;> conv => whnf) | fail)
  have hR0 := clR (F' := _ :: (F ++ dD)) hL hB
  have hsrt := hR0.srt
  refine (listR_fn hR0).mono fun r w hD => ?_
  clear clR hL hB hR0
  obtain ⟨dR, hL, hB, clR⟩ := hD.open
  clear hD
  obtain ⟨va, vc, rfl⟩ := (show SlN w 1 r _ _ from hL.rowN (i := 0) rfl).shape
  have e1 : (names S).map encStr = (R.map (·.nm)).map Value.string := by rw [← names_perm' hp, strs_eq hsrt]
  have e2 : (R.map fun f => Value.string f.nm) = (R.map (·.nm)).map Value.string := by rw [List.map_map]; rfl
  rw [e1, e2, ← hp.length_eq] at hL
  rw [← hp.length_eq]
  conv => whnf
  repeat (first | (refine RunH ?_; intro w hL hB; try clear w) | (refine Both.mk ?_ ?_ <;> conv => whnf) | fail)
  refine (namesLaw_fn _ _ (R.map (·.nm)) _ (by simp; have := hp.length_eq; omega) (hL.row (i := 1) rfl) (hL.row (i := 0) rfl)).mono fun r w ⟨hr, hw⟩ => ?_
  subst hr
  replace hL := (hL.call hB (Turns.of_below hw)).tl.tl
  replace hB := Nat.le_trans hB hw.size
  replace hL := Sep.swl (F := F) hL
  conv => whnf
  repeat (first | (refine RunH ?_; intro w hL hB; try clear w) | (refine Both.mk ?_ ?_ <;> conv => whnf) | fail)
  refine (used_fn (clD (F' := F ++ dR) hL hB)).mono fun r w ⟨hr, hD⟩ => ?_
  subst hr
  clear clD hL hB
  obtain ⟨dD, hL, hB, clD⟩ := hD.open
  clear hD
  replace hL := Sep.swl (F := F) hL
  conv => whnf
  repeat (first | (refine RunH ?_; intro w hL hB; try clear w) | (refine Both.mk ?_ ?_ <;> conv => whnf) | fail)
  refine (usedRS_fn (clR (F' := F ++ dD) hL hB)).mono fun r w' ⟨hr, hw⟩ => ?_
  subst hr; subst hw
  rw [totS_perm hp]
  have hR0 := clR (F' := F ++ dD) hL hB
  clear clR
  conv => whnf
  repeat (first | (refine RunH ?_; intro w hL hB; try clear w) | (refine Both.mk ?_ ?_ <;> conv => whnf) | (refine Br.yes (by simp) ?_; conv => whnf) | fail)
  obtain ⟨⟨L, fs, hR, hok, hLr⟩, hBr⟩ := hR0
  rw [← List.append_assoc] at hLr
  have hD := clD (F' := rkRes k room L fs ++ F) hLr hBr
  clear clD hL hB hLr hBr
  subst hR
  have hlen := hok.ok.len
  refine V.loop (α := Nat) (fun i => [(0, ptr d), (1, ptr k), (5, .int .i64 (i : Int))])
    (fun i w' => i ≤ fs.length ∧ DkS B w0 w' d room S (rkRes k room L fs ++ F)) (fun i => fs.length - i) 0 ⟨rfl, rfl, rfl, trivial⟩ ⟨by omega, hD⟩ ?_
  clear hD
  rintro i w ⟨hi, hD⟩
  obtain ⟨dD, hL, hB, clD⟩ := hD.open
  simp only [rkRes, List.cons_append] at hL
  obtain ⟨ga, gc, rfl⟩ := (show SlN w 3 L fs.length _ from hL.rowN (i := 1) rfl).shape
  by_cases hil : i < fs.length
  case neg =>
    obtain rfl : i = fs.length := by omega
    repeat (first | (refine RunH ?_; intro w hL hB; try clear w) | (refine Both.mk ?_ ?_ <;> conv => whnf) | fail)
    refine ⟨rfl, ⟨⟨fs.map Fv.fl, rkRes k room (.slice ga fs.length gc) fs, hp, hD.perm List.perm_append_comm, fun hL hB => RkS.mk' hok (hL.perm List.perm_append_comm) hB⟩⟩⟩
  clear hD
  have hget := List.getElem?_eq_getElem hil
  have hmem := List.getElem_mem hil
  have hl1 := len1 hok.ok _ hmem
  have hnmf := hok.ok.nm _ hmem
  have hgS : getS S (fs[i]).nm = some (fs[i]).fl := (getS_iff hnd).2 ⟨hp.mem_iff.1 (List.mem_map_of_mem hmem), rfl⟩
  have hfr : ∀ {w : World} {X Y : List Res}, Sep Try.prog B w0 w (X ++ (fs.map Fv.row ++ Y)) → ∃ va vc, (fs[i]).v = .slice va (fs[i]).d.length vc ∧ Sl w (.slice va (fs[i]).d.length vc) (bv (fs[i]).d) := fun h => by
    obtain ⟨va, vc, hv⟩ := rk_shape h _ hmem
    refine ⟨va, vc, hv, ?_⟩
    have := RowC.sl (show RowC _ 5 (fs[i]).v (fs[i]).d.length (bv (fs[i]).d) from h.hold (Fv.row fs[i]) (by simp only [List.mem_append, List.mem_map]; exact .inr (.inl ⟨_, hmem, rfl⟩)))
    rwa [hv] at this
  generalize fs[i] = f at *
  obtain ⟨bb, o, rfl, _⟩ := SlN.addr (show SlN w 3 (.slice ga fs.length gc) fs.length _ from hL.rowN (i := 1) rfl) (by omega)
  repeat (first | (refine RunH ?_; intro w hL hB; try clear w) | (refine Both.mk ?_ ?_ <;> conv => whnf) | fail)
  intro o1 ho1
  conv => whnf
  refine Ld.rowF ttOk f3_len 0 (hL.rowN (i := 1) rfl).rowOf tl9 rfl hget rfl (by omega) ?_
  conv => whnf
  repeat (first | (refine RunH ?_; intro w hL hB; try clear w) | (refine Both.mk ?_ ?_ <;> conv => whnf) | fail)
  refine (read_fn f.nm (by omega) (clD (F' := _ :: _ :: (fs.map Fv.row ++ F)) (by simpa using hL) hB)).mono fun r w hD => ?_
  rw [hgS] at hD
  obtain ⟨u, hr, hD⟩ := hD
  subst hr
  clear clD hL hB
  obtain ⟨dD, hL, hB, clD⟩ := hD.open
  clear hD
  obtain ⟨xa, xc, rfl⟩ := (show SlN w 1 u _ _ from hL.rowN (i := 0) rfl).shape
  conv => whnf
  repeat (first | (refine RunH ?_; intro w hL hB; try clear w) | (refine Both.mk ?_ ?_ <;> conv => whnf) | fail)
  intro o2 ho2
  conv => whnf
  refine Ld.rowF ttOk f3_len 0 (hL.rowN (i := 2) rfl).rowOf tl9 rfl hget rfl (by omega) ?_
  conv => whnf
  repeat (first | (refine RunH ?_; intro w hL hB; try clear w) | (refine Both.mk ?_ ?_ <;> conv => whnf) | fail)
  refine (size_fn f.nm (by omega) (clD (F' := _ :: _ :: _ :: (fs.map Fv.row ++ F)) hL hB)).mono fun r w ⟨hr, hD⟩ => ?_
  rw [hgS] at hr
  subst hr
  clear clD hL hB
  obtain ⟨dD, hL, hB, clD⟩ := hD.open
  clear hD
  obtain ⟨va, vc, hfv, hS⟩ := hfr (X := [_, _, _]) (Y := F ++ dD) (by simpa using hL)
  obtain ⟨fn, fv, fd, fla⟩ := f
  dsimp only [Fv.fl] at *
  subst hfv
  conv => whnf
  repeat (first | (refine RunH ?_; intro w hL hB; try clear w) | (refine Both.mk ?_ ?_ <;> conv => whnf) | fail)
  intro o3 ho3
  conv => whnf
  repeat (first | (refine RunH ?_; intro w hL hB; try clear w) | (refine Both.mk ?_ ?_ <;> conv => whnf) | fail)
  refine Ld.rowF ttOk f3_len 1 (hL.rowN (i := 2) rfl).rowOf tl22 rfl hget rfl (by omega) ?_
  conv => whnf
  repeat (first | (refine RunH ?_; intro w hL hB; try clear w) | (refine Both.mk ?_ ?_ <;> conv => whnf) | fail)
  refine (same_fn _ _ fd fd _ (hL.row (i := 0) rfl) hS).mono fun r w ⟨hr, hw⟩ => ?_
  subst hr
  replace hL := hL.call hB (Turns.of_below hw)
  replace hB := Nat.le_trans hB hw.size
  rw [decide_eq_true rfl]
  conv => whnf
  repeat (first | (refine RunH ?_; intro w hL hB; try clear w) | (refine Both.mk ?_ ?_ <;> conv => whnf) | fail)
  intro o4 ho4
  conv => whnf
  repeat (first | (refine RunH ?_; intro w hL hB; try clear w) | (refine Both.mk ?_ ?_ <;> conv => whnf) | fail)
  refine Ld.rowF ttOk f3_len 1 (hL.rowN (i := 2) rfl).rowOf tl22 rfl hget rfl (by omega) ?_
  conv => whnf
  repeat (first | (refine RunH ?_; intro w hL hB; try clear w) | (refine Both.mk ?_ ?_ <;> conv => whnf) | fail)
  exact ⟨i + 1, ⟨rfl, rfl, vint (by push_cast; omega), trivial⟩, ⟨by omega, (clD (F' := _ :: _ :: _ :: (fs.map Fv.row ++ F)) hL hB).tl⟩, (by first | omega | (dsimp only; omega))⟩
end Go.Proofs.Ytpfmnpkjhnbkhaa
