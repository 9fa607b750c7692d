/- Plan: the code's rule 'broken'. Nothing is claimed here. -/
import Derived.Test.YthifnfoppamkiaaIs
namespace Go.Proofs.Ythifnfoppamkiaa
open Go.RowKit
set_option linter.unusedVariables false
set_option linter.unusedSimpArgs false
set_option maxRecDepth 100000

theorem splice_mid {A t : List Int} {i : Nat} {x v : Int} (h : A.length = i) : splice (numC (A ++ x :: t)) i [.int .i64 v] = numC (A ++ v :: t) := by
  subst h
  rw [splice_one (by rw [numC_len]; simp), numC_set, List.set_append_right _ _ (Nat.le_refl _)]
  simp
set_option maxHeartbeats 16000000 in
theorem broken_fn (p : PV × Value) (i : Int) (bw : Nat) (vs lv sv : Value) (l : List PV) (c : PC) (live : List Bool) (w0 : World) (hC : Blk w0 bw (wdC vs lv (loadS l) sv c) 55) (hl : SlE w0 lv (boolC live))
    (hn : SlE w0 p.2 (numC p.1.ns)) (ht : p.1.ns.length ≤ 40) (hp0 : 0 < p.1.ns.length) (hok : okC c) :
    Fn Try.prog 21 #[.pointer (some ⟨bw, 0, none⟩), .int .i64 i, pvV p] w0 fun r w' => ActS w0 (brokeS l live c p.1) r w' := by
  obtain ⟨v, nv⟩ := p
  dsimp only at hn ht hp0
  obtain ⟨na, nc, hnv⟩ := hn.shape
  rw [numC_len] at hnv
  subst hnv
  obtain ⟨bn, on, rfl, _⟩ := hn.sl.toN.addr hp0
  unfold pvV
  dsimp only
  obtain ⟨hc1, hc2, hc3, hc4, hc5, hc6⟩ := hok
  have hL := Sep.start Try.prog w0
  have hB := Nat.le_refl w0.heap.size
  refine Fn.mk Try.func21 rfl (by kernel_rfl) Try.ntmps21 rfl (by rw [Try.results21]) ?_
  repeat (first | (refine RunH ?_; intro w hL hB; try clear w) | (refine Both.mk ?_ ?_ <;> conv => whnf) | fail)
  (refine Nw.sep hL hB (fun b5 w hL hB hb5 => ?_); conv => whnf)
  repeat (first | (refine RunH ?_; intro w hL hB; try clear w) | (refine Both.mk ?_ ?_ <;> conv => whnf) | fail)
  (refine Nw.sep hL hB (fun b6 w hL hB hb6 => ?_); conv => whnf)
  have hkl : (livingS live v.ns).length ≤ v.ns.length := List.length_filter_le _ _
  have hf64 := freeS_le l live (livingS live v.ns)
  have hlk : ∀ a, brokeS l live c v = a → brokeS l live c v = a := fun a e => e
  conv at hlk => enter [a]; lhs; unfold brokeS
  repeat (first | (refine RunH ?_; intro w hL hB; try clear w) | (refine Both.mk ?_ ?_ <;> conv => whnf) | fail)
  (refine (living_fn bw vs lv sv _ (loadS l) c live v.ns _ (hL.old rfl hC) (hl.below hL.below) (hn.below hL.below) (by omega)).mono fun r w hr => ?_; obtain ⟨hown, hbl⟩ := hr; replace hL := hL.addRow hB hbl hown; replace hB := Nat.le_trans hB hbl.size; obtain ⟨ka, kc, rfl⟩ := (hL.rowN (i := 0) rfl).shape; conv => whnf)
  repeat (first | (refine RunH ?_; intro w hL hB; try clear w) | (refine Both.mk ?_ ?_ <;> conv => whnf) | fail)
  (refine (free_fn bw vs lv sv _ l c live (livingS live v.ns) _ (hL.old rfl hC) (hl.below hL.below) (hL.rowN (i := 0) rfl).to1.e).mono fun r w hr => ?_; obtain ⟨hown, hbl⟩ := hr; replace hL := hL.addRow hB hbl hown; replace hB := Nat.le_trans hB hbl.size; obtain ⟨fa, fc, rfl⟩ := (hL.rowN (i := 0) rfl).shape; conv => whnf)
  generalize freeS l live (livingS live v.ns) = fr at *
  generalize livingS live v.ns = kp at *
  dsimp only [overL, cellsL, splice] at hL
  by_cases hc : v.st ≠ 2 ∨ (kp.length : Int) < c.k ∨ (v.fz = false ∧ (kp.length = v.ns.length ∨ fr = []))
  · have hnone := hlk none (if_pos hc)
    rw [hnone]
    have hc' : v.st ≠ 2 ∨ (kp.length : Int) < c.k ∨ (v.fz = false ∧ (kp.length = v.ns.length ∨ fr.length = 0)) := by
      rw [List.length_eq_zero_iff]; exact hc
    repeat' (first | (refine RunH ?_; intro w hL hB; try clear w) | (refine Br.dec (fun hbr => ?_) (fun hbr => ?_) <;> conv => whnf) | (refine Br.mk (fun hbr => ?_) (fun hbr => ?_) <;> conv => whnf) | (refine Both.mk ?_ ?_ <;> conv => whnf) | (refine Br.dec (fun hbr => ?_) (fun hbr => ?_); conv => whnf) | fail)
    all_goals first
      | (exact ⟨rfl, hL.below⟩)
      | (exfalso; clear hL hlk hnone; rcases hc' with hq | hq | ⟨hq, hq' | hq'⟩ <;> first | omega | (simp_all; done) | (simp_all; omega))
  · have hs1 : v.st = 2 := Decidable.byContradiction fun e => hc (.inl e)
    have hk1 : c.k ≤ kp.length := Int.not_lt.1 fun e => hc (.inr (.inl e))
    have hf1 : v.fz = true ∨ (v.fz = false ∧ kp.length < v.ns.length ∧ 0 < fr.length) := by
      cases hz : v.fz
      · exact .inr ⟨rfl, by have : ¬ kp.length = v.ns.length := fun e => hc (.inr (.inr ⟨hz, .inl e⟩)); omega, List.length_pos_iff.2 fun e => hc (.inr (.inr ⟨hz, .inr e⟩))⟩
      · exact .inl rfl
    rw [hlk _ (if_neg hc)]
    clear hlk hc
    have hpl := patchS_len live v.ns fr
    generalize hpt : patchS live v.ns fr = pt at *
    have hsuf := SufV.start (hL.at (i := 0) rfl)
    rcases hf1 with hz | ⟨hz, hq1, hq2⟩
    all_goals
      repeat (first | (refine RunH ?_; intro w hL hB; try clear w) | (refine Both.mk ?_ ?_ <;> conv => whnf) | fail)
      (refine (cloneC_fn _ v.ns _ (hn.below hL.below) (by omega)).mono fun r w hr => ?_; obtain ⟨hown, hbl⟩ := hr; replace hL := hL.addRow hB hbl hown; replace hB := Nat.le_trans hB hbl.size; obtain ⟨ca, cc, rfl⟩ := (hL.rowN (i := 0) rfl).shape; conv => whnf)
      obtain ⟨⟨cb, rfl⟩, hcc⟩ := own_addr (hL.at (i := 0) rfl) hp0
      repeat (first | (refine RunH ?_; intro w hL hB; try clear w) | (refine Both.mk ?_ ?_ <;> conv => whnf) | fail)
      (refine (cloneC_fn _ v.ns _ (hn.below hL.below) (by omega)).mono fun r w hr => ?_; obtain ⟨hown, hbl⟩ := hr; replace hL := hL.addRow hB hbl hown; replace hB := Nat.le_trans hB hbl.size; obtain ⟨da, dc, rfl⟩ := (hL.rowN (i := 0) rfl).shape; conv => whnf)
      obtain ⟨⟨db, rfl⟩, hdc⟩ := own_addr (hL.at (i := 0) rfl) hp0
      repeat (first | (refine RunH ?_; intro w hL hB; try clear w) | (refine Both.mk ?_ ?_ <;> conv => whnf) | fail)
      refine V.loop (α := Nat × Nat × Value × List Int) (fun z => [(0, .pointer (some ⟨bw, 0, none⟩)), (6, .pointer (some ⟨b6, 0, none⟩)), (9, z.2.2.1), (10, .slice (some ⟨cb, 0, none⟩) v.ns.length cc), (11, .slice (some ⟨db, 0, none⟩) v.ns.length dc), (60, .slice (some ⟨bn, on, none⟩) v.ns.length nc), (61, .int .i64 v.ns.length), (62, .int .i64 z.1)])
        (fun z w' => z.1 ≤ v.ns.length ∧ z.2.1 ≤ fr.length ∧ SufV fa fr.length fc z.2.1 z.2.2.1 ∧ z.2.2.2.length = z.1 ∧ pt = z.2.2.2 ++ patchS live (v.ns.drop z.1) (fr.drop z.2.1) ∧ w0.heap.size ≤ w'.heap.size ∧ Sep Try.prog w0.heap.size w0 w' [.row 3 1 (.slice (some ⟨db, 0, none⟩) v.ns.length dc) v.ns.length (numC (z.2.2.2 ++ v.ns.drop z.1)), .row 3 1 (.slice (some ⟨cb, 0, none⟩) v.ns.length cc) v.ns.length (numC ((v.ns.take z.1).map (deadS live) ++ v.ns.drop z.1)), .row 3 1 (.slice fa fr.length fc) fr.length (numC fr), .blk b6 [.int .i64 0, .int .i64 0, .int .i64 0, .slice none 0 0, .slice none 0 0] 32]) (fun z => v.ns.length - z.1) (0, 0, .slice fa fr.length fc, []) ⟨rfl, rfl, rfl, rfl, rfl, rfl, rfl, rfl, trivial⟩ ⟨Nat.zero_le _, Nat.zero_le _, hsuf, rfl, hpt.symm, hB, ((hL.pop 3).pop 4)⟩ ?_
      clear hL hB
      rintro ⟨i, j, fv, dn⟩ w ⟨hi, hj, hsv, hdl, hdp, hB, hL⟩
      dsimp only at *
      obtain ⟨a', rfl, hfa⟩ := hsv
      repeat (first | (refine RunH ?_; intro w hL hB; try clear w) | (refine Both.mk ?_ ?_ <;> conv => whnf) | fail)
      refine Br.dec (fun hlt => ?_) (fun hlt => ?_)
      · have hie : i < v.ns.length := by omega
        have hgi : v.ns[i]? = some v.ns[i] := List.getElem?_eq_getElem hie
        have hts := List.take_succ_eq_append_getElem hie
        have hds := List.drop_eq_getElem_cons hie
        generalize v.ns[i] = x at hgi hts hds
        rw [hds] at hdp hL
        have hrn := (hn.below hL.below).sl.toN.rowOf
        repeat (first | (refine RunH ?_; intro w hL hB; try clear w) | (refine Both.mk ?_ ?_ <;> conv => whnf) | fail)
        intro o' ho'
        conv => whnf
        refine Ld.row1 ttOk hrn rfl rfl (k := i) (numC_get hgi) (by omega) ?_
        conv => whnf
        repeat (first | (refine RunH ?_; intro w hL hB; try clear w) | (refine Both.mk ?_ ?_ <;> conv => whnf) | (refine (lives_fn bw vs _ sv (loadS l) c live _ _ (hL.old rfl hC) (hl.below hL.below)).mono fun r w1 hr => ?_; obtain ⟨hr, hw⟩ := hr; subst hr; subst hw; conv => whnf) | fail)
        have hdd : (v.ns.take (i + 1)).map (deadS live) = (v.ns.take i).map (deadS live) ++ [deadS live x] := by rw [hts, List.map_append]; rfl
        have hdl2 : ((v.ns.take i).map (deadS live)).length = i := by rw [List.length_map, List.length_take]; omega
        rw [show patchS live (x :: v.ns.drop (i + 1)) (fr.drop j) = if liveS live x then x :: patchS live (v.ns.drop (i + 1)) (fr.drop j) else match fr.drop j with | [] => -1 :: patchS live (v.ns.drop (i + 1)) [] | y :: f => y :: patchS live (v.ns.drop (i + 1)) f from rfl] at hdp
        cases hlv : liveS live x
        · have hdx : deadS live x = -1 := by unfold deadS; rw [hlv]; rfl
          rw [hlv] at hdp
          rw [hdx] at hdd
          repeat (first | (refine RunH ?_; intro w hL hB; try clear w) | (refine Both.mk ?_ ?_ <;> conv => whnf) | fail)
          intro o1 ho1
          obtain rfl : o1 = i := by omega
          conv => whnf
          refine St.rowS ttOk hL 1 rfl rfl rfl rfl (by rw [numC_len, List.length_append, hdl2, List.length_cons]; show o1 + 1 ≤ _; omega) hB (fun w hL hB => ?_)
          dsimp only [List.set] at hL
          rw [show splice (numC ((v.ns.take o1).map (deadS live) ++ x :: v.ns.drop (o1 + 1))) o1 (cellsL (.int .i64 (-1))) = numC ((v.ns.take o1).map (deadS live) ++ (-1) :: v.ns.drop (o1 + 1)) from splice_mid hdl2] at hL
          conv => whnf
          repeat (first | (refine RunH ?_; intro w hL hB; try clear w) | (refine Both.mk ?_ ?_ <;> conv => whnf) | fail)
          intro o2 ho2
          obtain rfl : o2 = o1 := by omega
          conv => whnf
          refine St.rowS ttOk hL 0 rfl rfl rfl rfl (by rw [numC_len, List.length_append, hdl, List.length_cons]; show o2 + 1 ≤ _; omega) hB (fun w hL hB => ?_)
          dsimp only [List.set] at hL
          rw [show splice (numC (dn ++ x :: v.ns.drop (o2 + 1))) o2 (cellsL (.int .i64 (-1))) = numC (dn ++ (-1) :: v.ns.drop (o2 + 1)) from splice_mid hdl] at hL
          conv => whnf
          by_cases hjn : j < fr.length
          · have hgj : fr[j]? = some fr[j] := List.getElem?_eq_getElem hjn
            have hdf := List.drop_eq_getElem_cons hjn
            generalize fr[j] = y at hgj hdf
            rw [hdf] at hdp
            obtain ⟨bf, rfl, rfl⟩ := hfa hjn
            have hnc : fr.length ≤ fc := (own_addr (hL.at (i := 2) rfl) (by omega)).2
            repeat (first | (refine RunK ?_; intro w hL hB; try clear w) | (refine V.treeP ttOk hL 0 (.q 0 (.q 1 (.q 2 (.q 3 (.q 4 (.q 5 (.q 6 (.q 7 (.alt 8 (.q 9 .nil) .stop))))))))) mixed (by decide +kernel) ?_; replace hL := hL.drew; conv => whnf) | (refine V.tailA ttOk mixed (by decide +kernel) ?_; replace hL := hL.drew; conv => whnf) | (refine Both.mk ?_ ?_ <;> conv => whnf) | fail)
            intro o3 ho3
            conv => whnf
            refine Lq.of_class (v := .int .i64 y) (fun w9 hw9 => Ld.row1 ttOk (hw9.rowN (i := 1) rfl).rowOf rfl rfl (k := j) (numC_get hgj) (by omega) rfl) ?_
            conv => whnf
            repeat (first | (refine RunH ?_; intro w hL hB; try clear w) | (refine Both.mk ?_ ?_ <;> conv => whnf) | fail)
            intro o4 n' c2 q1 q2 q3 q4
            conv => whnf
            repeat (first | (refine RunH ?_; intro w hL hB; try clear w) | (refine Both.mk ?_ ?_ <;> conv => whnf) | fail)
            intro o5 ho5
            obtain rfl : o5 = o2 := by omega
            conv => whnf
            repeat (first | (refine RunH ?_; intro w hL hB; try clear w) | (refine Both.mk ?_ ?_ <;> conv => whnf) | fail)
            refine St.rowS ttOk hL 0 rfl rfl rfl rfl (by rw [numC_len, List.length_append, hdl, List.length_cons]; show o5 + 1 ≤ _; omega) hB (fun w hL hB => ?_)
            dsimp only [List.set] at hL
            rw [show splice (numC (dn ++ (-1) :: v.ns.drop (o5 + 1))) o5 (cellsL (.int .i64 y)) = numC (dn ++ y :: v.ns.drop (o5 + 1)) from splice_mid hdl] at hL
            conv => whnf
            repeat (first | (refine RunH ?_; intro w hL hB; try clear w) | (refine Both.mk ?_ ?_ <;> conv => whnf) | fail)
            obtain rfl : n' = fr.length - (j + 1) := by omega
            obtain rfl : c2 = fc - (j + 1) := by omega
            refine ⟨(o5 + 1, j + 1, _, dn ++ [y]), ⟨rfl, rfl, rfl, rfl, rfl, rfl, rfl, rfl, trivial⟩, ⟨by omega, by dsimp only; omega, ⟨_, rfl, ?_⟩, by simp [hdl], ?_, hB, ?_⟩, (by first | omega | (dsimp only; omega))⟩
            · intro h1
              dsimp only at h1
              obtain rfl : o4 = j + 1 := by omega
              exact ⟨bf, rfl, rfl⟩
            · rw [hdp]; simp
            · rw [hdd, List.append_assoc, List.append_assoc]
              exact hL
          · have hjn' : j = fr.length := by omega
            subst hjn'
            rw [List.drop_length] at hdp
            repeat (first | (refine RunH ?_; intro w hL hB; try clear w) | (refine Both.mk ?_ ?_ <;> conv => whnf) | fail)
            refine ⟨(o2 + 1, fr.length, _, dn ++ [-1]), ⟨rfl, rfl, rfl, rfl, rfl, rfl, rfl, rfl, trivial⟩, ⟨by omega, by omega, ⟨_, rfl, hfa⟩, by simp [hdl], ?_, hB, ?_⟩, (by first | omega | (dsimp only; omega))⟩
            · rw [hdp, List.drop_length]; simp
            · rw [hdd, List.append_assoc, List.append_assoc]
              exact hL
        · have hdx : deadS live x = x := by unfold deadS; rw [hlv]; rfl
          rw [hlv] at hdp
          rw [hdx] at hdd
          repeat (first | (refine RunH ?_; intro w hL hB; try clear w) | (refine Both.mk ?_ ?_ <;> conv => whnf) | fail)
          refine ⟨(i + 1, j, _, dn ++ [x]), ⟨rfl, rfl, rfl, rfl, rfl, rfl, rfl, rfl, trivial⟩, ⟨by omega, by omega, ⟨_, rfl, hfa⟩, by simp [hdl], ?_, hB, ?_⟩, (by first | omega | (dsimp only; omega))⟩
          · rw [hdp]; simp
          · rw [hdd, List.append_assoc, List.append_assoc]
            exact hL
      · have hie : i = v.ns.length := by omega
        subst hie
        rw [List.drop_length, List.take_length] at *
        rw [show patchS live [] (fr.drop j) = [] from rfl, List.append_nil] at hdp
        subst hdp
        rw [List.append_nil] at hL
        rw [List.append_nil] at hL
        repeat (first | (refine RunH ?_; intro w hL hB; try clear w) | (refine Both.mk ?_ ?_ <;> conv => whnf) | fail)
        refine ActS.mk (kv := .slice (some ⟨cb, 0, none⟩) v.ns.length cc) (nv := .slice (some ⟨db, 0, none⟩) v.ns.length dc) rfl rfl ?_
        have h9 := (hL.sub (L' := [.row 3 1 (.slice (some ⟨db, 0, none⟩) v.ns.length dc) v.ns.length (numC pt), .row 3 1 (.slice (some ⟨cb, 0, none⟩) v.ns.length cc) v.ns.length (numC (v.ns.map (deadS live)))]) (.cons_cons _ (.cons_cons _ (List.nil_sublist _)))).perm (List.Perm.swap _ _ _)
        dsimp only
        rw [hpl, List.length_map]
        exact h9
end Go.Proofs.Ythifnfoppamkiaa
