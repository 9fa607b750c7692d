/- garnerref12: Get, Put, Size. garnerref12: Open, Places, Needles, Dirt. Nothing is claimed here. -/
import Derived.Test.YtladfadcgfdbfaaGreatDoorD40
namespace Go.Proofs.YtladfadcgfdbfaaGreatDoor
open Go.RowKit Go.Lib
set_option linter.unusedVariables false
set_option linter.unusedSimpArgs false
set_option maxRecDepth 100000
section
variable {B k x room id : Nat} {ra : Option Addr} {rc : Nat} {ps rL : List Pc} {R : List Fl} {F : List Res} {w0 w : World}
/-- the reference's volume, and its list -/
def rvRes (x k id : Nat) (ra : Option Addr) (rc : Nat) (rL : List Pc) (F : List Res) : List Res := .blk x [ptr k, .int .i64 (id : Int), .slice ra rL.length rc] 107 :: .row 87 5 (.slice ra rL.length rc) rL.length (rL.flatMap pcC) :: F
set_option maxHeartbeats 2000000 in
theorem rsize_fn {nm : ByteArray} {rv : Value} (hid : id ≤ 99999999) (hnm : vnmG id = nm) (hD : RkS B w0 w k room R (.blk x [ptr k, .int .i64 (id : Int), rv] 107 :: F)) :
    Fn Tryz.prog 57 #[ptr x] w fun r w' => r = .int .i64 (szS R nm : Nat) ∧ RkS B w0 w' k room R (.blk x [ptr k, .int .i64 (id : Int), rv] 107 :: F) := by
  have hname := nameR_fn id hid
  rw [hnm] at hname
  obtain ⟨dL, hL, hB, close⟩ := hD.open
  clear hD
  refine Fn.mk Tryz.func57 rfl (by kernel_rfl) Tryz.ntmps57 rfl (by rw [Tryz.results57]) ?_
  repeat (first | (refine RunK ?_; intro w hL hB; try clear w) | (refine V.tree ttOk (fun x0 => Sep Tryz.prog _ w0 x0 [.blk x [ptr k, .int .i64 (id : Int), rv] 107]) (.q 0 (.q 1 (.q 2 (.q 3 (.q 4 (.q 5 (.q 6 (.q 7 (.alt 8 (.alt 9 (.q 10 (.q 11 (.q 12 (.q 13 (.q 14 .nil))))) .stop) .stop))))))))) mixed (by decide +kernel) (hL.drew.one (i := 0) rfl) ?_; replace hL := hL.drew; conv => whnf) | (refine V.tailA ttOk mixed (by decide +kernel) ?_; replace hL := hL.drew; conv => whnf) | (refine Both.mk ?_ ?_ <;> conv => whnf) | fail)
  refine (hname _).mono fun r w ⟨hr, hw⟩ => ?_
  subst hr
  replace hL := hL.call hB (Turns.of_below hw)
  replace hB := Nat.le_trans hB hw.size
  conv => whnf
  refine ⟨hL.one (i := 0) rfl, ?_⟩
  conv => whnf
  repeat (first | (refine RunH ?_; intro w hL hB; try clear w) | (refine Both.mk ?_ ?_ <;> conv => whnf) | fail)
  refine (sizeR4_fn nm (close (F' := _ :: F) hL hB)).mono fun r w ⟨hr, hD⟩ => ?_
  subst hr
  clear close hL hB
  obtain ⟨dL, hL, hB, close⟩ := hD.open
  clear hD
  conv => whnf
  refine ⟨hL.one (i := 0) rfl, ?_⟩
  conv => whnf
  repeat (first | (refine RunH ?_; intro w hL hB; try clear w) | (refine Both.mk ?_ ?_ <;> conv => whnf) | fail)
  exact ⟨rfl, close (F' := _ :: F) hL hB⟩
def vputL (room : Nat) (R : List Fl) (nm : ByteArray) (ps rL : List Pc) (key cook : Nat) (dead : Bool) (xs : List UInt8) : List Pc :=
  if vputE room R nm ps key dead xs.length = 0 then rL ++ [⟨key, szS R nm, szN xs.length, cook, dead⟩] else rL
theorem szRk_le {B : Nat} {w0 w : World} {b room : Nat} {S : List Fl} {F : List Res} (h : RkS B w0 w b room S F) (nm : ByteArray) : szS S nm ≤ 1073741824 := by
  obtain ⟨L, fs, rfl, hok, _⟩ := h.of
  have h1 := len1 hok.ok
  rw [szS, getF_fl]
  cases hg : getF fs nm with
  | none => simp
  | some f => exact h1 f (getF_mem hg)
set_option maxHeartbeats 8000000 in
theorem rput_fn {nm : ByteArray} (hid : id ≤ 99999999) (hnm : vnmG id = nm) (key cook : Nat) (dead : Bool) (nv : Value) (xs : List UInt8) (hk : key < 18446744073709551616) (hc : cook < 4294967296) (hrel : Rel ps rL) (hrl : rL.length ≤ 1000000) (hone : ∀ (xs : List UInt8) (R' : List Fl), R'.Perm (appS room R nm xs) → (R'.map (·.nm)).Pairwise ltF → R' = appS room R nm xs)
    (hnv : ∀ w', Sep Tryz.prog B w0 w' F → Sl w' nv (bv xs)) (hD : RkS B w0 w k room R (rvRes x k id ra rc rL F)) :
    Fn Tryz.prog 50 #[ptr x, .agg (ndC key cook dead nv).toArray] w fun r w' => r = .int .i64 (vputE room R nm ps key dead xs.length : Nat) ∧ ∃ ra' rc', RkS B w0 w' k room (vputS room R nm ps key cook dead xs) (rvRes x k id ra' rc' (vputL room R nm ps rL key cook dead xs) F) := by
  have hsz := szRk_le hD nm
  have hns := vnmG_size hid
  have hname := nameR_fn id hid
  rw [hnm] at hname hns
  have hnm6 : nm.size ≤ 140737488355328 := by omega
  have hsize := fun w F => rsize_fn (B := B) (w0 := w0) (w := w) (room := room) (R := R) (F := F) (rv := .slice ra rL.length rc) (x := x) (k := k) hid hnm
  have hnv' : ∀ {w : World} {X Y : List Res}, Sep Tryz.prog B w0 w (X ++ (F ++ Y)) → Sl w nv (bv xs) := fun h => hnv _ (h.sub ((List.sublist_append_left _ _).trans (List.sublist_append_right _ _)))
  have hB0 : vputB ps key dead = match there none rL key with | some o => if o.dead = true then 9 else if dead = false then 8 else 0 | none => 0 := by rw [← hrel.get]; rfl
  have hdef : vputE room R nm ps key dead xs.length = if encNE dead xs.length ≠ 0 then encNE dead xs.length else if vputB ps key dead ≠ 0 then vputB ps key dead else if 4194304 < szS R nm + szN xs.length then 6 else appE room R nm (szN xs.length) := rfl
  have hS : vputE room R nm ps key dead xs.length ≠ 0 → vputS room R nm ps key cook dead xs = R := fun h => if_neg h
  have hP : vputE room R nm ps key dead xs.length ≠ 0 → vputL room R nm ps rL key cook dead xs = rL := fun h => if_neg h
  have hS0 : vputE room R nm ps key dead xs.length = 0 → vputS room R nm ps key cook dead xs = syncS (appS room R nm (encN key cook dead xs)) nm := fun h => if_pos h
  have hP0 : vputE room R nm ps key dead xs.length = 0 → vputL room R nm ps rL key cook dead xs = rL ++ [⟨key, szS R nm, szN xs.length, cook, dead⟩] := fun h => if_pos h
  generalize vputE room R nm ps key dead xs.length = E at *
  generalize vputS room R nm ps key cook dead xs = S' at *
  generalize vputL room R nm ps rL key cook dead xs = P' at *
  rw [rvRes] at hD
  obtain ⟨dL, hL, hB, close⟩ := hD.open
  clear hD
  have hnv0 := hnv' (X := [_, _]) (Y := dL) hL
  obtain ⟨na, nc, rfl⟩ := hnv0.shape
  simp only [bv_length] at *
  have same : ∀ {w : World} {dL X : List Res}, (∀ {w' : World} {F' : List Res}, Sep Tryz.prog B w0 w' (F' ++ dL) → B ≤ w'.heap.size → RkS B w0 w' k room R F') → E ≠ 0 → Sep Tryz.prog B w0 w (X ++ (.blk x [ptr k, .int .i64 (id : Int), .slice ra rL.length rc] 107 :: .row 87 5 (.slice ra rL.length rc) rL.length (rL.flatMap pcC) :: (F ++ dL))) → B ≤ w.heap.size → ∃ ra' rc', RkS B w0 w k room S' (rvRes x k id ra' rc' P' F) := fun cl h1 h2 h3 => by
    rw [hS h1, hP h1]
    exact ⟨ra, rc, cl (F' := _ :: _ :: F) (h2.sub (List.sublist_append_right _ _)) h3⟩
  rw [ndC]
  refine Fn.mk Tryz.func50 rfl (by kernel_rfl) Tryz.ntmps50 rfl (by rw [Tryz.results50]) ?_
  repeat (first | (refine RunH ?_; intro w hL hB; try clear w) | (refine Both.mk ?_ ?_ <;> conv => whnf) | fail)
  (refine Nw.sep hL hB (fun t3 w hL hB ht3 => ?_); conv => whnf)
  repeat (first | (refine RunH ?_; intro w hL hB; try clear w) | (refine Both.mk ?_ ?_ <;> conv => whnf) | fail)
  by_cases hE1 : encNE dead xs.length = 0
  case neg =>
    rw [if_pos hE1] at hdef
    have h0 : E ≠ 0 := by rw [hdef]; exact hE1
    refine (encNR_bad key cook dead _ xs _ (hnv' (X := [_, _, _]) (Y := dL) hL) hE1).mono fun r w ⟨hr, hw⟩ => ?_
    subst hr
    replace hL := hL.call hB (Turns.of_below hw)
    replace hB := Nat.le_trans hB hw.size
    rw [← hdef]
    conv => whnf
    repeat (first | (refine RunH ?_; intro w hL hB; try clear w) | (refine Both.mk ?_ ?_ <;> conv => whnf) | (refine Br.yes (by simp; omega) ?_; conv => whnf) | fail)
    exact ⟨rfl, same (X := [_]) close h0 hL hB⟩
  rw [if_neg (fun h => h hE1)] at hdef
  have hxl : xs.length ≤ 65536 := by
    rw [encNE] at hE1
    split at hE1
    · cases hE1
    · split at hE1
      · cases hE1
      · omega
  have hel := encN_len key cook dead xs
  have hszn := szN_le xs.length
  refine (encNR_fn key cook dead _ xs hk hc _ (hnv' (X := [_, _, _]) (Y := dL) hL) hE1).mono fun r w ⟨u, hr, ho, hw⟩ => ?_
  subst hr
  replace hL := hL.addRow hB hw ho
  replace hB := Nat.le_trans hB hw.size
  obtain ⟨ua, uc, rfl⟩ := (show SlN w 1 u _ _ from hL.rowN (i := 0) rfl).shape
  rw [hel] at hL ⊢
  generalize hEE : encN key cook dead xs = EE at *
  clear ho hw
  conv => whnf
  repeat (first | (refine RunH ?_; intro w hL hB; try clear w) | (refine Both.mk ?_ ?_ <;> conv => whnf) | fail)
  refine (thereR_fn key (hL.blk (i := 2) rfl) (hL.rowN (i := 3) rfl)).mono fun r w ⟨hr, hw⟩ => ?_
  subst hr
  replace hL := hL.call hB (Turns.of_below hw)
  replace hB := Nat.le_trans hB hw.size
  generalize hpv : pcOf (there none rL key) = pv
  obtain ⟨pk, pa, pn, pc, pd, hpv', hpB⟩ : ∃ (pk pa pn pc : Int) (pd : Bool), pv = .agg #[.int .u64 pk, .int .i64 pa, .int .i64 pn, .int .u32 pc, .bool pd] ∧ (vputB ps key dead = if (there none rL key).isSome = true ∧ pd = true then 9 else if (there none rL key).isSome = true ∧ dead = false then 8 else 0) := by
    subst hpv
    rw [hB0]
    cases hg : there none rL key with
    | none => exact ⟨0, 0, 0, 0, false, rfl, by simp⟩
    | some o => exact ⟨o.key, o.at_, o.n, o.cook, o.dead, rfl, by simp⟩
  subst hpv'
  generalize hso : (there none rL key).isSome = so at *
  conv => whnf
  (refine Nw.sep hL hB (fun t7 w hL hB ht7 => ?_); conv => whnf)
  replace hL := hL.front (i := 3) rfl
  dsimp only [List.eraseIdx] at hL
  by_cases h9 : so = true ∧ pd = true
  · obtain ⟨rfl, rfl⟩ := h9
    rw [if_pos ⟨rfl, rfl⟩] at hpB
    rw [hpB, if_pos (by decide)] at hdef
    have h0 : E ≠ 0 := by rw [hdef]; decide
    rw [hdef]
    repeat (first | (refine RunH ?_; intro w hL hB; try clear w) | (refine Both.mk ?_ ?_ <;> conv => whnf) | fail)
    exact ⟨rfl, same (X := []) close h0 (hL.sub (.cons_cons _ (.cons _ (.cons _ (.cons _ (.refl _)))))) hB⟩
  by_cases h8 : so = true ∧ dead = false
  · obtain ⟨rfl, rfl⟩ := h8
    obtain rfl : pd = false := by cases pd; rfl; exact absurd ⟨rfl, rfl⟩ h9
    rw [if_neg h9, if_pos ⟨rfl, rfl⟩] at hpB
    rw [hpB, if_pos (by decide)] at hdef
    have h0 : E ≠ 0 := by rw [hdef]; decide
    rw [hdef]
    repeat (first | (refine RunH ?_; intro w hL hB; try clear w) | (refine Both.mk ?_ ?_ <;> conv => whnf) | fail)
    exact ⟨rfl, same (X := []) close h0 (hL.sub (.cons_cons _ (.cons _ (.cons _ (.cons _ (.refl _)))))) hB⟩
  rw [if_neg h9, if_neg h8] at hpB
  rw [hpB, if_neg (fun h => h rfl)] at hdef
  have hgo : so = false ∨ (so = true ∧ pd = false ∧ dead = true) := by
    cases so
    · exact .inl rfl
    · refine .inr ⟨rfl, ?_, ?_⟩
      · cases pd; rfl; exact absurd ⟨rfl, rfl⟩ h9
      · cases dead; exact absurd ⟨rfl, rfl⟩ h8; rfl
  rcases hgo with rfl | ⟨rfl, rfl, hdt⟩ <;> (
    repeat (first | (refine RunH ?_; intro w hL hB; try clear w) | (refine Both.mk ?_ ?_ <;> conv => whnf) | fail)
    refine (hsize _ _ (close (F' := _ :: _ :: _ :: _ :: _ :: F) hL hB)).mono fun r w ⟨hr, hD⟩ => ?_
    subst hr
    clear close hL hB
    obtain ⟨dL, hL, hB, close⟩ := hD.open
    clear hD
    by_cases h6 : 4194304 < szS R nm + szN xs.length
    case' pos =>
      rw [if_pos h6] at hdef
      have h0 : E ≠ 0 := by rw [hdef]; decide
      rw [hdef]
      conv => whnf
      repeat (first | (refine RunH ?_; intro w hL hB; try clear w) | (refine Both.mk ?_ ?_ <;> conv => whnf) | fail)
      exact ⟨rfl, same (X := []) close h0 (hL.sub (.cons_cons _ (.cons _ (.cons _ (.cons _ (.refl _)))))) hB⟩
    rw [if_neg h6] at hdef
    conv => whnf
    repeat (first | (refine RunK ?_; intro w hL hB; try clear w) | (refine V.tree ttOk (fun x0 => Sep Tryz.prog _ w0 x0 [.blk x [ptr k, .int .i64 (id : Int), .slice ra rL.length rc] 107]) (.q 0 (.q 1 (.q 2 (.q 3 (.q 4 (.q 5 (.q 6 (.q 7 (.q 9 (.alt 8 (.alt 10 (.q 11 .nil) .stop) .stop)))))))))) mixed (by decide +kernel) (hL.drew.one (i := 0) rfl) ?_; replace hL := hL.drew; conv => whnf) | (refine V.tailA ttOk mixed (by decide +kernel) ?_; replace hL := hL.drew; conv => whnf) | (refine Both.mk ?_ ?_ <;> conv => whnf) | fail)
    refine (hname _).mono fun r w ⟨hr, hw⟩ => ?_
    subst hr
    replace hL := hL.call hB (Turns.of_below hw)
    replace hB := Nat.le_trans hB hw.size
    conv => whnf
    refine ⟨hL.one (i := 0) rfl, ?_⟩
    conv => whnf
    repeat (first | (refine RunH ?_; intro w hL hB; try clear w) | (refine Both.mk ?_ ?_ <;> conv => whnf) | fail)
    refine (appendR_fn nm hnm6 _ EE (by omega) (fun w' h => by have := h.row (i := 2) rfl; exact this) (close (F' := _ :: _ :: _ :: _ :: _ :: F) hL hB)).mono fun r w ⟨hr, R', hp', hD⟩ => ?_
    rw [hel] at hr
    subst hr
    obtain rfl := hone EE R' hp' hD.srt
    clear close hL hB hp'
    obtain ⟨dL, hL, hB, close⟩ := hD.open
    clear hD
    by_cases hA : appE room R nm (szN xs.length) = 0
    case' neg =>
      have h0 : E ≠ 0 := by rw [hdef]; exact hA
      rw [show appS room R nm EE = R from by rw [appS, hel, if_neg hA]] at close
      rw [← hdef]
      conv => whnf
      refine ⟨hL.one (i := 0) rfl, ?_⟩
      conv => whnf
      repeat (first | (refine RunH ?_; intro w hL hB; try clear w) | (refine Both.mk ?_ ?_ <;> conv => whnf) | (refine Br.yes (by simp; omega) ?_; conv => whnf) | fail)
      exact ⟨rfl, same (X := []) close h0 (hL.sub (.cons_cons _ (.cons _ (.cons _ (.cons _ (.refl _)))))) hB⟩
    rw [hA] at hdef ⊢
    rw [hS0 hdef, hP0 hdef]
    conv => whnf
    refine ⟨hL.one (i := 0) rfl, ?_⟩
    conv => whnf
    repeat (first | (refine RunK ?_; intro w hL hB; try clear w) | (refine V.tree ttOk (fun x0 => Sep Tryz.prog _ w0 x0 [.blk x [ptr k, .int .i64 (id : Int), .slice ra rL.length rc] 107]) (.q 0 (.q 1 (.q 2 (.q 3 (.q 4 (.q 5 (.q 6 (.q 7 (.alt 8 (.alt 9 .nil .stop) .stop))))))))) mixed (by decide +kernel) (hL.drew.one (i := 0) rfl) ?_; replace hL := hL.drew; conv => whnf) | (refine V.tailA ttOk mixed (by decide +kernel) ?_; replace hL := hL.drew; conv => whnf) | (refine Both.mk ?_ ?_ <;> conv => whnf) | fail)
    refine (hname _).mono fun r w ⟨hr, hw⟩ => ?_
    subst hr
    replace hL := hL.call hB (Turns.of_below hw)
    replace hB := Nat.le_trans hB hw.size
    conv => whnf
    refine ⟨hL.one (i := 0) rfl, ?_⟩
    conv => whnf
    repeat (first | (refine RunH ?_; intro w hL hB; try clear w) | (refine Both.mk ?_ ?_ <;> conv => whnf) | fail)
    refine (syncR_fn nm (close (F' := _ :: _ :: _ :: _ :: _ :: F) hL hB)).mono fun r w ⟨hr, hD⟩ => ?_
    clear close hL hB
    obtain ⟨dL, hL, hB, close⟩ := hD.open
    clear hD
    conv => whnf
    refine ⟨hL.one (i := 0) rfl, ?_⟩
    conv => whnf
    repeat (first | (refine RunH ?_; intro w hL hB; try clear w) | (refine Both.mk ?_ ?_ <;> conv => whnf) | fail)
    have hpcs : ∀ u ∈ rL.flatMap pcC, u.oneCell' = true := fun u hu => by
      obtain ⟨q, _, hq⟩ := List.mem_flatMap.1 hu
      simp only [pcC, List.mem_cons, List.not_mem_nil, or_false] at hq
      rcases hq with rfl | rfl | rfl | rfl | rfl <;> rfl
    have hpc1 : ∀ u ∈ pcC ⟨key, szS R nm, szN xs.length, cook, dead⟩, u.oneCell' = true := fun u hq => by
      simp only [pcC, List.mem_cons, List.not_mem_nil, or_false] at hq
      rcases hq with rfl | rfl | rfl | rfl | rfl <;> rfl
    generalize hq1 : szS R nm = q1 at *
    generalize hq2 : szN xs.length = q2 at *
    clear hB0 hsize hname hE1 hpB h9 h8
    have hfin : ∀ {w : World} {vb : Option Addr} {vd : Nat}, Sep Tryz.prog B w0 w (.row 87 5 (.slice vb (rL.length + 1) vd) (rL.length + 1) (rL.flatMap pcC ++ pcC ⟨key, q1, q2, cook, dead⟩) :: .blk x [ptr k, .int .i64 (id : Int), .slice vb (rL.length + 1) vd] 107 :: (F ++ dL)) → Sep Tryz.prog B w0 w (rvRes x k id vb vd (rL ++ [⟨key, q1, q2, cook, dead⟩]) (F ++ dL)) := fun h => by
      rw [rvRes, List.flatMap_append, List.length_append]
      have := h.perm (.swap _ _ _)
      simpa using this
    refine V.join (α := Option Addr × Nat) (fun z => []) (fun z w' => B ≤ w'.heap.size ∧ Sep Tryz.prog B w0 w' (rvRes x k id z.1 z.2 (rL ++ [⟨key, q1, q2, cook, dead⟩]) (F ++ dL))) ?_ ?_
    · repeat (first | (refine RunK ?_; intro w hL hB; try clear w) | (refine V.tree ttOk (fun x0 => Sep Tryz.prog _ w0 x0 (.blk t3 [.int .u64 (key : Int), .int .u32 (cook : Int), .bool dead, .slice na xs.length nc] 42 :: .row 87 5 (.slice ra rL.length rc) rL.length (rL.flatMap pcC) :: (F ++ dL))) (.q 0 (.q 2 (.q 3 (.q 4 (.q 7 (.q 8 (.q 9 (.q 10 (.q 11 (.q 12 (.q 13 (.q 14 (.q 15 (.q 16 (.alt 1 (.alt 5 (.alt 6 (.alt 17 (.alt 18 (.q 19 (.q 20 (.alt 21 .nil .stop))) .stop) .stop) (.alt 17 (.alt 6 (.alt 18 (.q 19 (.q 20 (.alt 21 .nil .stop))) .stop) .stop) .stop)) (.alt 17 (.alt 5 (.alt 6 (.alt 18 (.q 19 (.q 20 (.alt 21 .nil .stop))) .stop) .stop) .stop) .stop)) (.alt 5 (.alt 1 (.alt 6 (.alt 17 (.alt 18 (.q 19 (.q 20 (.alt 21 .nil .stop))) .stop) .stop) (.alt 17 (.alt 6 (.alt 18 (.q 19 (.q 20 (.alt 21 .nil .stop))) .stop) .stop) .stop)) (.alt 17 (.alt 1 (.alt 6 (.alt 18 (.q 19 (.q 20 (.alt 21 .nil .stop))) .stop) .stop) .stop) .stop)) (.alt 17 (.alt 1 (.alt 5 (.alt 6 (.alt 18 (.q 19 (.q 20 (.alt 21 .nil .stop))) .stop) .stop) .stop) (.alt 5 (.alt 1 (.alt 6 (.alt 18 (.q 19 (.q 20 (.alt 21 .nil .stop))) .stop) .stop) .stop) .stop)) .stop))))))))))))))))) mixed (by decide +kernel) (hL.drew.sub (.cons _ (.cons _ (.cons _ (.refl _))))) ?_; replace hL := hL.drew; conv => whnf) | (refine V.tailA ttOk mixed (by decide +kernel) ?_; replace hL := hL.drew; conv => whnf) | (refine Both.mk ?_ ?_ <;> conv => whnf) | fail)
      refine Rv.buildS (len := 0) (vs := []) ttOk hL tl73 tl87 rfl rfl (by intro u hu; cases hu) (by decide) (by decide) hB fun bo w hL hB => ?_
      conv => whnf
      repeat (first | (refine RunH ?_; intro w hL hB; try clear w) | (refine Both.mk ?_ ?_ <;> conv => whnf) | fail)
      refine Rv.appendS (m := rL.length) ttOk hL tl73 tl87 rfl (by decide) 0 rfl (hL.rowN (i := 5) rfl) hpcs (by simp only [maxLen]; omega) (by omega) hB fun vo w hL hB => ?_
      dsimp only [List.set] at hL
      rw [Nat.zero_add, List.flatMap_nil, List.nil_append] at hL
      obtain ⟨va, vc, rfl⟩ := (show SlN w 5 vo rL.length _ from hL.rowN (i := 0) rfl).shape
      conv => whnf
      repeat (first | (refine RunH ?_; intro w hL hB; try clear w) | (refine Both.mk ?_ ?_ <;> conv => whnf) | fail)
      refine Rv.buildS (len := 1) (vs := [pcV ⟨key, q1, q2, cook, dead⟩]) ttOk hL tl73 tl87 rfl rfl (by intro u hu; simp only [List.mem_singleton] at hu; subst hu; rfl) (by decide) (by decide) hB fun bp w hL hB => ?_
      replace hL : Sep Tryz.prog B w0 w (.row 87 5 (.slice (some ⟨bp, 0, none⟩) 1 1) 1 (pcC ⟨key, q1, q2, cook, dead⟩) :: _) := hL
      conv => whnf
      repeat (first | (refine RunH ?_; intro w hL hB; try clear w) | (refine Both.mk ?_ ?_ <;> conv => whnf) | fail)
      refine Rv.appendS (m := 1) ttOk hL tl73 tl87 rfl (by decide) 1 rfl (hL.rowN (i := 0) rfl) hpc1 (by simp only [maxLen]; omega) (by omega) hB fun vo w hL hB => ?_
      dsimp only [List.set] at hL
      obtain ⟨vb, vd, rfl⟩ := (show SlN w 5 vo (rL.length + 1) _ from hL.rowN (i := 1) rfl).shape
      conv => whnf
      repeat (first | (refine RunH ?_; intro w hL hB; try clear w) | (refine Both.mk ?_ ?_ <;> conv => whnf) | fail)
      exact ⟨(vb, vd), trivial, hB, hfin (hL.sub (.cons _ (.cons_cons _ (.cons_cons _ (.cons _ (.cons _ (.cons _ (.cons _ (.refl _)))))))))⟩
      repeat (first | (refine RunH ?_; intro w hL hB; try clear w) | (refine Both.mk ?_ ?_ <;> conv => whnf) | fail)
      refine Rv.buildS (len := 1) (vs := [pcV ⟨key, q1, q2, cook, dead⟩]) ttOk hL tl73 tl87 rfl rfl (by intro u hu; simp only [List.mem_singleton] at hu; subst hu; rfl) (by decide) (by decide) hB fun bp w hL hB => ?_
      replace hL : Sep Tryz.prog B w0 w (.row 87 5 (.slice (some ⟨bp, 0, none⟩) 1 1) 1 (pcC ⟨key, q1, q2, cook, dead⟩) :: _) := hL
      conv => whnf
      repeat (first | (refine RunH ?_; intro w hL hB; try clear w) | (refine Both.mk ?_ ?_ <;> conv => whnf) | fail)
      refine Rv.appendS (m := rL.length) ttOk hL tl73 tl87 rfl (by decide) 1 rfl (hL.rowN (i := 6) rfl) hpcs (by simp only [maxLen]; omega) (by omega) hB fun vo w hL hB => ?_
      dsimp only [List.set] at hL
      rw [Nat.zero_add, List.flatMap_nil, List.nil_append] at hL
      obtain ⟨va, vc, rfl⟩ := (show SlN w 5 vo rL.length _ from hL.rowN (i := 1) rfl).shape
      conv => whnf
      repeat (first | (refine RunH ?_; intro w hL hB; try clear w) | (refine Both.mk ?_ ?_ <;> conv => whnf) | fail)
      refine Rv.appendS (m := 1) ttOk hL tl73 tl87 rfl (by decide) 1 rfl (hL.rowN (i := 0) rfl) hpc1 (by simp only [maxLen]; omega) (by omega) hB fun vo w hL hB => ?_
      dsimp only [List.set] at hL
      obtain ⟨vb, vd, rfl⟩ := (show SlN w 5 vo (rL.length + 1) _ from hL.rowN (i := 1) rfl).shape
      conv => whnf
      repeat (first | (refine RunH ?_; intro w hL hB; try clear w) | (refine Both.mk ?_ ?_ <;> conv => whnf) | fail)
      exact ⟨(vb, vd), trivial, hB, hfin (hL.sub (.cons _ (.cons_cons _ (.cons_cons _ (.cons _ (.cons _ (.cons _ (.cons _ (.refl _)))))))))⟩
      repeat (first | (refine RunH ?_; intro w hL hB; try clear w) | (refine Both.mk ?_ ?_ <;> conv => whnf) | fail)
      refine Rv.buildS (len := 1) (vs := [pcV ⟨key, q1, q2, cook, dead⟩]) ttOk hL tl73 tl87 rfl rfl (by intro u hu; simp only [List.mem_singleton] at hu; subst hu; rfl) (by decide) (by decide) hB fun bp w hL hB => ?_
      replace hL : Sep Tryz.prog B w0 w (.row 87 5 (.slice (some ⟨bp, 0, none⟩) 1 1) 1 (pcC ⟨key, q1, q2, cook, dead⟩) :: _) := hL
      conv => whnf
      repeat (first | (refine RunH ?_; intro w hL hB; try clear w) | (refine Both.mk ?_ ?_ <;> conv => whnf) | fail)
      refine Rv.appendS (m := rL.length) ttOk hL tl73 tl87 rfl (by decide) 1 rfl (hL.rowN (i := 6) rfl) hpcs (by simp only [maxLen]; omega) (by omega) hB fun vo w hL hB => ?_
      dsimp only [List.set] at hL
      rw [Nat.zero_add, List.flatMap_nil, List.nil_append] at hL
      obtain ⟨va, vc, rfl⟩ := (show SlN w 5 vo rL.length _ from hL.rowN (i := 1) rfl).shape
      conv => whnf
      repeat (first | (refine RunH ?_; intro w hL hB; try clear w) | (refine Both.mk ?_ ?_ <;> conv => whnf) | fail)
      refine Rv.appendS (m := 1) ttOk hL tl73 tl87 rfl (by decide) 1 rfl (hL.rowN (i := 0) rfl) hpc1 (by simp only [maxLen]; omega) (by omega) hB fun vo w hL hB => ?_
      dsimp only [List.set] at hL
      obtain ⟨vb, vd, rfl⟩ := (show SlN w 5 vo (rL.length + 1) _ from hL.rowN (i := 1) rfl).shape
      conv => whnf
      repeat (first | (refine RunH ?_; intro w hL hB; try clear w) | (refine Both.mk ?_ ?_ <;> conv => whnf) | fail)
      exact ⟨(vb, vd), trivial, hB, hfin (hL.sub (.cons _ (.cons_cons _ (.cons_cons _ (.cons _ (.cons _ (.cons _ (.cons _ (.refl _)))))))))⟩
      repeat (first | (refine RunH ?_; intro w hL hB; try clear w) | (refine Both.mk ?_ ?_ <;> conv => whnf) | fail)
      refine Rv.buildS (len := 0) (vs := []) ttOk hL tl73 tl87 rfl rfl (by intro u hu; cases hu) (by decide) (by decide) hB fun bo w hL hB => ?_
      conv => whnf
      repeat (first | (refine RunH ?_; intro w hL hB; try clear w) | (refine Both.mk ?_ ?_ <;> conv => whnf) | fail)
      refine Rv.appendS (m := rL.length) ttOk hL tl73 tl87 rfl (by decide) 0 rfl (hL.rowN (i := 5) rfl) hpcs (by simp only [maxLen]; omega) (by omega) hB fun vo w hL hB => ?_
      dsimp only [List.set] at hL
      rw [Nat.zero_add, List.flatMap_nil, List.nil_append] at hL
      obtain ⟨va, vc, rfl⟩ := (show SlN w 5 vo rL.length _ from hL.rowN (i := 0) rfl).shape
      conv => whnf
      repeat (first | (refine RunH ?_; intro w hL hB; try clear w) | (refine Both.mk ?_ ?_ <;> conv => whnf) | fail)
      refine Rv.buildS (len := 1) (vs := [pcV ⟨key, q1, q2, cook, dead⟩]) ttOk hL tl73 tl87 rfl rfl (by intro u hu; simp only [List.mem_singleton] at hu; subst hu; rfl) (by decide) (by decide) hB fun bp w hL hB => ?_
      replace hL : Sep Tryz.prog B w0 w (.row 87 5 (.slice (some ⟨bp, 0, none⟩) 1 1) 1 (pcC ⟨key, q1, q2, cook, dead⟩) :: _) := hL
      conv => whnf
      repeat (first | (refine RunH ?_; intro w hL hB; try clear w) | (refine Both.mk ?_ ?_ <;> conv => whnf) | fail)
      refine Rv.appendS (m := 1) ttOk hL tl73 tl87 rfl (by decide) 1 rfl (hL.rowN (i := 0) rfl) hpc1 (by simp only [maxLen]; omega) (by omega) hB fun vo w hL hB => ?_
      dsimp only [List.set] at hL
      obtain ⟨vb, vd, rfl⟩ := (show SlN w 5 vo (rL.length + 1) _ from hL.rowN (i := 1) rfl).shape
      conv => whnf
      repeat (first | (refine RunH ?_; intro w hL hB; try clear w) | (refine Both.mk ?_ ?_ <;> conv => whnf) | fail)
      exact ⟨(vb, vd), trivial, hB, hfin (hL.sub (.cons _ (.cons_cons _ (.cons_cons _ (.cons _ (.cons _ (.cons _ (.cons _ (.refl _)))))))))⟩
      repeat (first | (refine RunH ?_; intro w hL hB; try clear w) | (refine Both.mk ?_ ?_ <;> conv => whnf) | fail)
      refine Rv.buildS (len := 1) (vs := [pcV ⟨key, q1, q2, cook, dead⟩]) ttOk hL tl73 tl87 rfl rfl (by intro u hu; simp only [List.mem_singleton] at hu; subst hu; rfl) (by decide) (by decide) hB fun bp w hL hB => ?_
      replace hL : Sep Tryz.prog B w0 w (.row 87 5 (.slice (some ⟨bp, 0, none⟩) 1 1) 1 (pcC ⟨key, q1, q2, cook, dead⟩) :: _) := hL
      conv => whnf
      repeat (first | (refine RunH ?_; intro w hL hB; try clear w) | (refine Both.mk ?_ ?_ <;> conv => whnf) | fail)
      refine Rv.appendS (m := rL.length) ttOk hL tl73 tl87 rfl (by decide) 1 rfl (hL.rowN (i := 6) rfl) hpcs (by simp only [maxLen]; omega) (by omega) hB fun vo w hL hB => ?_
      dsimp only [List.set] at hL
      rw [Nat.zero_add, List.flatMap_nil, List.nil_append] at hL
      obtain ⟨va, vc, rfl⟩ := (show SlN w 5 vo rL.length _ from hL.rowN (i := 1) rfl).shape
      conv => whnf
      repeat (first | (refine RunH ?_; intro w hL hB; try clear w) | (refine Both.mk ?_ ?_ <;> conv => whnf) | fail)
      refine Rv.appendS (m := 1) ttOk hL tl73 tl87 rfl (by decide) 1 rfl (hL.rowN (i := 0) rfl) hpc1 (by simp only [maxLen]; omega) (by omega) hB fun vo w hL hB => ?_
      dsimp only [List.set] at hL
      obtain ⟨vb, vd, rfl⟩ := (show SlN w 5 vo (rL.length + 1) _ from hL.rowN (i := 1) rfl).shape
      conv => whnf
      repeat (first | (refine RunH ?_; intro w hL hB; try clear w) | (refine Both.mk ?_ ?_ <;> conv => whnf) | fail)
      exact ⟨(vb, vd), trivial, hB, hfin (hL.sub (.cons _ (.cons_cons _ (.cons_cons _ (.cons _ (.cons _ (.cons _ (.cons _ (.refl _)))))))))⟩
      repeat (first | (refine RunH ?_; intro w hL hB; try clear w) | (refine Both.mk ?_ ?_ <;> conv => whnf) | fail)
      refine Rv.buildS (len := 1) (vs := [pcV ⟨key, q1, q2, cook, dead⟩]) ttOk hL tl73 tl87 rfl rfl (by intro u hu; simp only [List.mem_singleton] at hu; subst hu; rfl) (by decide) (by decide) hB fun bp w hL hB => ?_
      replace hL : Sep Tryz.prog B w0 w (.row 87 5 (.slice (some ⟨bp, 0, none⟩) 1 1) 1 (pcC ⟨key, q1, q2, cook, dead⟩) :: _) := hL
      conv => whnf
      repeat (first | (refine RunH ?_; intro w hL hB; try clear w) | (refine Both.mk ?_ ?_ <;> conv => whnf) | fail)
      refine Rv.buildS (len := 0) (vs := []) ttOk hL tl73 tl87 rfl rfl (by intro u hu; cases hu) (by decide) (by decide) hB fun bo w hL hB => ?_
      conv => whnf
      repeat (first | (refine RunH ?_; intro w hL hB; try clear w) | (refine Both.mk ?_ ?_ <;> conv => whnf) | fail)
      refine Rv.appendS (m := rL.length) ttOk hL tl73 tl87 rfl (by decide) 0 rfl (hL.rowN (i := 6) rfl) hpcs (by simp only [maxLen]; omega) (by omega) hB fun vo w hL hB => ?_
      dsimp only [List.set] at hL
      rw [Nat.zero_add, List.flatMap_nil, List.nil_append] at hL
      obtain ⟨va, vc, rfl⟩ := (show SlN w 5 vo rL.length _ from hL.rowN (i := 0) rfl).shape
      conv => whnf
      repeat (first | (refine RunH ?_; intro w hL hB; try clear w) | (refine Both.mk ?_ ?_ <;> conv => whnf) | fail)
      refine Rv.appendS (m := 1) ttOk hL tl73 tl87 rfl (by decide) 0 rfl (hL.rowN (i := 1) rfl) hpc1 (by simp only [maxLen]; omega) (by omega) hB fun vo w hL hB => ?_
      dsimp only [List.set] at hL
      obtain ⟨vb, vd, rfl⟩ := (show SlN w 5 vo (rL.length + 1) _ from hL.rowN (i := 0) rfl).shape
      conv => whnf
      repeat (first | (refine RunH ?_; intro w hL hB; try clear w) | (refine Both.mk ?_ ?_ <;> conv => whnf) | fail)
      exact ⟨(vb, vd), trivial, hB, hfin (hL.sub (.cons_cons _ (.cons _ (.cons_cons _ (.cons _ (.cons _ (.cons _ (.cons _ (.refl _)))))))))⟩
      repeat (first | (refine RunH ?_; intro w hL hB; try clear w) | (refine Both.mk ?_ ?_ <;> conv => whnf) | fail)
      refine Rv.buildS (len := 1) (vs := [pcV ⟨key, q1, q2, cook, dead⟩]) ttOk hL tl73 tl87 rfl rfl (by intro u hu; simp only [List.mem_singleton] at hu; subst hu; rfl) (by decide) (by decide) hB fun bp w hL hB => ?_
      replace hL : Sep Tryz.prog B w0 w (.row 87 5 (.slice (some ⟨bp, 0, none⟩) 1 1) 1 (pcC ⟨key, q1, q2, cook, dead⟩) :: _) := hL
      conv => whnf
      repeat (first | (refine RunH ?_; intro w hL hB; try clear w) | (refine Both.mk ?_ ?_ <;> conv => whnf) | fail)
      refine Rv.buildS (len := 0) (vs := []) ttOk hL tl73 tl87 rfl rfl (by intro u hu; cases hu) (by decide) (by decide) hB fun bo w hL hB => ?_
      conv => whnf
      repeat (first | (refine RunH ?_; intro w hL hB; try clear w) | (refine Both.mk ?_ ?_ <;> conv => whnf) | fail)
      refine Rv.appendS (m := rL.length) ttOk hL tl73 tl87 rfl (by decide) 0 rfl (hL.rowN (i := 6) rfl) hpcs (by simp only [maxLen]; omega) (by omega) hB fun vo w hL hB => ?_
      dsimp only [List.set] at hL
      rw [Nat.zero_add, List.flatMap_nil, List.nil_append] at hL
      obtain ⟨va, vc, rfl⟩ := (show SlN w 5 vo rL.length _ from hL.rowN (i := 0) rfl).shape
      conv => whnf
      repeat (first | (refine RunH ?_; intro w hL hB; try clear w) | (refine Both.mk ?_ ?_ <;> conv => whnf) | fail)
      refine Rv.appendS (m := 1) ttOk hL tl73 tl87 rfl (by decide) 0 rfl (hL.rowN (i := 1) rfl) hpc1 (by simp only [maxLen]; omega) (by omega) hB fun vo w hL hB => ?_
      dsimp only [List.set] at hL
      obtain ⟨vb, vd, rfl⟩ := (show SlN w 5 vo (rL.length + 1) _ from hL.rowN (i := 0) rfl).shape
      conv => whnf
      repeat (first | (refine RunH ?_; intro w hL hB; try clear w) | (refine Both.mk ?_ ?_ <;> conv => whnf) | fail)
      exact ⟨(vb, vd), trivial, hB, hfin (hL.sub (.cons_cons _ (.cons _ (.cons_cons _ (.cons _ (.cons _ (.cons _ (.cons _ (.refl _)))))))))⟩
      repeat (first | (refine RunH ?_; intro w hL hB; try clear w) | (refine Both.mk ?_ ?_ <;> conv => whnf) | fail)
      refine Rv.buildS (len := 0) (vs := []) ttOk hL tl73 tl87 rfl rfl (by intro u hu; cases hu) (by decide) (by decide) hB fun bo w hL hB => ?_
      conv => whnf
      repeat (first | (refine RunH ?_; intro w hL hB; try clear w) | (refine Both.mk ?_ ?_ <;> conv => whnf) | fail)
      refine Rv.appendS (m := rL.length) ttOk hL tl73 tl87 rfl (by decide) 0 rfl (hL.rowN (i := 6) rfl) hpcs (by simp only [maxLen]; omega) (by omega) hB fun vo w hL hB => ?_
      dsimp only [List.set] at hL
      rw [Nat.zero_add, List.flatMap_nil, List.nil_append] at hL
      obtain ⟨va, vc, rfl⟩ := (show SlN w 5 vo rL.length _ from hL.rowN (i := 0) rfl).shape
      conv => whnf
      repeat (first | (refine RunH ?_; intro w hL hB; try clear w) | (refine Both.mk ?_ ?_ <;> conv => whnf) | fail)
      refine Rv.appendS (m := 1) ttOk hL tl73 tl87 rfl (by decide) 0 rfl (hL.rowN (i := 1) rfl) hpc1 (by simp only [maxLen]; omega) (by omega) hB fun vo w hL hB => ?_
      dsimp only [List.set] at hL
      obtain ⟨vb, vd, rfl⟩ := (show SlN w 5 vo (rL.length + 1) _ from hL.rowN (i := 0) rfl).shape
      conv => whnf
      repeat (first | (refine RunH ?_; intro w hL hB; try clear w) | (refine Both.mk ?_ ?_ <;> conv => whnf) | fail)
      exact ⟨(vb, vd), trivial, hB, hfin (hL.sub (.cons_cons _ (.cons _ (.cons_cons _ (.cons _ (.cons _ (.cons _ (.cons _ (.refl _)))))))))⟩
    · rintro ⟨ra', rc'⟩ w ⟨hB, hL⟩
      rw [rvRes] at hL
      clear hfin
      repeat (first | (refine RunH ?_; intro w hL hB; try clear w) | (refine Both.mk ?_ ?_ <;> conv => whnf) | fail)
      exact ⟨by rw [hdef]; rfl, ra', rc', close (F' := _ :: _ :: F) hL hB⟩)
end
end Go.Proofs.YtladfadcgfdbfaaGreatDoor
namespace Go.Proofs.YtladfadcgfdbfaaGreatDoor
open Go.RowKit Go.Lib
set_option linter.unusedVariables false
set_option linter.unusedSimpArgs false
set_option maxRecDepth 100000
theorem pcs_one (rL : List Pc) : ∀ u ∈ rL.flatMap pcC, u.oneCell' = true := fun u hu => by
  obtain ⟨q, _, hq⟩ := List.mem_flatMap.1 hu
  simp only [pcC, List.mem_cons, List.not_mem_nil, or_false] at hq
  rcases hq with rfl | rfl | rfl | rfl | rfl <;> rfl
theorem pc_one (p : Pc) : ∀ u ∈ pcC p, u.oneCell' = true := fun u hq => by
  simp only [pcC, List.mem_cons, List.not_mem_nil, or_false] at hq
  rcases hq with rfl | rfl | rfl | rfl | rfl <;> rfl
theorem insP_len (out : List Pc) (p : Pc) : (insP out p).length ≤ out.length + 1 := by
  induction out with
  | nil => simp [insP]
  | cons c C ih =>
    rw [insP]
    split
    · simp only [List.length_cons]; omega
    · split <;> simp
theorem plsR_len (rL l : List Pc) : (plsR rL l).length ≤ l.length := by
  have gen : ∀ (l out : List Pc), (l.foldl (fun out q => insP out ((there none rL q.key).getD (noPc q.key))) out).length ≤ out.length + l.length := fun l => by
    induction l with
    | nil => intro out; simp
    | cons q l ih =>
      intro out
      have h1 := ih (insP out ((there none rL q.key).getD (noPc q.key)))
      have h2 := insP_len out ((there none rL q.key).getD (noPc q.key))
      simp only [List.foldl_cons, List.length_cons]
      omega
  have := gen l []
  simpa [plsR] using this
section
variable {B k x room id : Nat} {ra : Option Addr} {rc : Nat} {ps rL : List Pc} {R : List Fl} {F : List Res} {w0 w : World}
set_option maxHeartbeats 8000000 in
theorem rplaces_fn (hrl : rL.length ≤ 1000000) (hL : Sep Tryz.prog B w0 w (rvRes x k id ra rc rL F)) (hB : B ≤ w.heap.size) :
    Fn Tryz.prog 91 #[ptr x] w fun r w' => Sep Tryz.prog B w0 w' (.row 87 5 r (plsR rL rL).length ((plsR rL rL).flatMap pcC) :: rvRes x k id ra rc rL F) ∧ B ≤ w'.heap.size := by
  rw [rvRes] at *
  refine Fn.mk Tryz.func91 rfl (by kernel_rfl) Tryz.ntmps91 rfl (by rw [Tryz.results91]) ?_
  repeat (first | (refine RunH ?_; intro w hL hB; try clear w) | (refine Both.mk ?_ ?_ <;> conv => whnf) | fail)
  have hLn := hL.addRow hB (Below.refl _ _) (e := 87) (sz := 5) (v := .slice none 0 0) (n := 0) (xs := []) ⟨rfl, .inl ⟨rfl, rfl⟩⟩
  refine V.loop (α := Nat × Option Addr × Nat × Nat) (fun z => [(0, ptr x), (3, .slice z.2.1 z.2.2.2 z.2.2.1), (4, .int .i64 (z.1 : Int))])
    (fun z w' => z.1 ≤ rL.length ∧ z.2.2.2 = (plsR rL (rL.take z.1)).length ∧ Sep Tryz.prog B w0 w' (.row 87 5 (.slice z.2.1 z.2.2.2 z.2.2.1) z.2.2.2 ((plsR rL (rL.take z.1)).flatMap pcC) :: .blk x [ptr k, .int .i64 (id : Int), .slice ra rL.length rc] 107 :: .row 87 5 (.slice ra rL.length rc) rL.length (rL.flatMap pcC) :: F) ∧ B ≤ w'.heap.size) (fun z => rL.length - z.1) (0, none, 0, 0) ⟨rfl, rfl, rfl, trivial⟩ ⟨Nat.zero_le _, by simp [plsR], by simpa [plsR] using hLn, hB⟩ ?_
  clear hL hB hLn
  rintro ⟨i, oa, oc, on⟩ w ⟨hi, hon, hL, hB⟩
  dsimp only at hi hon hL ⊢
  by_cases hil : i < rL.length
  · have htk : rL.take (i + 1) = rL.take i ++ [rL[i]] := List.take_succ_eq_append_getElem hil
    have hget := List.getElem?_eq_getElem hil
    have hpl : plsR rL (rL.take (i + 1)) = insP (plsR rL (rL.take i)) ((there none rL (rL[i]).key).getD (noPc (rL[i]).key)) := by rw [htk, plsR_snoc]
    obtain ⟨p, hg, hpk, hpm⟩ := there_some (List.getElem_mem hil)
    rw [hg, Option.getD_some] at hpl
    have hsrt := (plsR_of rL i (by omega)).1
    have hlen : (plsR rL (rL.take i)).length ≤ i := by
      have := plsR_len rL (rL.take i)
      simp only [List.length_take] at this
      omega
    generalize hO : plsR rL (rL.take i) = O at *
    generalize rL[i] = q at *
    subst hon
    obtain ⟨bb, o, rfl, hrow0⟩ := SlN.addr (show SlN w 5 (.slice ra rL.length rc) rL.length _ from hL.rowN (i := 2) rfl) (by omega)
    repeat (first | (refine RunH ?_; intro w hL hB; try clear w) | (refine Both.mk ?_ ?_ <;> conv => whnf) | fail)
    intro o1 ho1
    conv => whnf
    repeat (first | (refine RunH ?_; intro w hL hB; try clear w) | (refine Both.mk ?_ ?_ <;> conv => whnf) | fail)
    refine Ld.rowF ttOk pcC_len 0 (hL.rowN (i := 2) rfl).rowOf tl38 rfl hget rfl (by omega) ?_
    conv => whnf
    repeat (first | (refine RunH ?_; intro w hL hB; try clear w) | (refine Both.mk ?_ ?_ <;> conv => whnf) | fail)
    refine (thereR_fn q.key (hL.blk (i := 1) rfl) (hL.rowN (i := 2) rfl)).mono fun r w ⟨hr, hw⟩ => ?_
    subst hr
    replace hL := hL.call hB (Turns.of_below hw)
    replace hB := Nat.le_trans hB hw.size
    rw [hg]
    dsimp only [pcOf, pcV]
    conv => whnf
    (refine Nw.sep hL hB (fun t5 w hL hB ht5 => ?_); conv => whnf)
    repeat (first | (refine Br.go ?_; first | ((first | refine Br.tt ?_ | refine Br.ff ?_ | refine Br.y ?_ | refine Br.n ?_ | refine Br.t ?_ | refine Br.f ?_ | fail); conv => whnf) | refine Br.not ?_ | fail) | (refine Ld.go ?_; first | ((first | refine Ld.x ttOk hL ?_ | refine Ld.p ttOk hL ?_ | fail); conv => whnf) | fail) | (refine St.x ttOk hL hB (fun w hL hB => ?_); dsimp only [List.set, splice, overL, cellsL, takeL, dropL, List.drop, List.take] at hL; conv => whnf) | (refine Lq.go ?_; first | ((first | refine Lq.x ttOk hL.cls ?_ | refine Lq.x ttOk (fun _ h => h) ?_ | refine Lq.p ttOk hL.cls ?_ | refine Lq.p ttOk (fun _ h => h) ?_ | fail); conv => whnf) | fail) | (refine Ar.go ?_; first | ((first | refine Ar.s ?_ | refine Ar.u ?_ | refine Ar.h ?_ | refine Ar.b ?_ | fail); conv => whnf) | fail) | ((first | refine Chk.m ?_ | refine Qv.str ttOk rfl rfl rfl ?_ | refine An.x hL ?_ | fail); conv => whnf) | (refine Both.mk ?_ ?_ <;> conv => whnf) | fail)
    refine V.seq ?_
    refine V.reg ttOk ?_
    conv => whnf
    repeat (first | (refine Br.go ?_; first | ((first | refine Br.tt ?_ | refine Br.ff ?_ | refine Br.y ?_ | refine Br.n ?_ | refine Br.t ?_ | refine Br.f ?_ | fail); conv => whnf) | refine Br.not ?_ | fail) | (refine Ld.go ?_; first | ((first | refine Ld.x ttOk hL ?_ | refine Ld.p ttOk hL ?_ | fail); conv => whnf) | fail) | (refine St.x ttOk hL hB (fun w hL hB => ?_); dsimp only [List.set, splice, overL, cellsL, takeL, dropL, List.drop, List.take] at hL; conv => whnf) | (refine Lq.go ?_; first | ((first | refine Lq.x ttOk hL.cls ?_ | refine Lq.x ttOk (fun _ h => h) ?_ | refine Lq.p ttOk hL.cls ?_ | refine Lq.p ttOk (fun _ h => h) ?_ | fail); conv => whnf) | fail) | (refine Ar.go ?_; first | ((first | refine Ar.s ?_ | refine Ar.u ?_ | refine Ar.h ?_ | refine Ar.b ?_ | fail); conv => whnf) | fail) | ((first | refine Chk.m ?_ | refine Qv.str ttOk rfl rfl rfl ?_ | refine An.x hL ?_ | fail); conv => whnf) | (refine Both.mk ?_ ?_ <;> conv => whnf) | fail)
    refine V.seq ?_
    have hOle : O.length ≤ 1000000 := by omega
    refine V.join (α := Nat) (fun j => [(0, ptr x), (3, .slice oa O.length oc), (4, .int .i64 (i : Int)), (5, ptr t5), (7, .int .i64 (j : Int))]) (fun j w' => j ≤ O.length ∧ (∀ c ∈ O.take j, c.key < p.key) ∧ (∀ c, O[j]? = some c → ¬ c.key < p.key) ∧ B ≤ w'.heap.size ∧ Sep Tryz.prog B w0 w' (.blk t5 [.int .u64 (p.key : Int), .int .i64 (p.at_ : Int), .int .i64 (p.n : Int), .int .u32 (p.cook : Int), .bool p.dead] 87 :: .row 87 5 (.slice oa O.length oc) O.length (O.flatMap pcC) :: .blk x [ptr k, .int .i64 (id : Int), .slice (some ⟨bb, o, none⟩) rL.length rc] 107 :: .row 87 5 (.slice (some ⟨bb, o, none⟩) rL.length rc) rL.length (rL.flatMap pcC) :: F)) ?_ ?_
    · repeat (first | (refine RunH ?_; intro w hL hB; try clear w) | (refine Both.mk ?_ ?_ <;> conv => whnf) | fail)
      refine V.loop (α := Nat) (fun j => [(0, ptr x), (3, .slice oa O.length oc), (4, .int .i64 (i : Int)), (5, ptr t5), (7, .int .i64 (j : Int))]) (fun j w' => j ≤ O.length ∧ (∀ c ∈ O.take j, c.key < p.key) ∧ B ≤ w'.heap.size ∧ Sep Tryz.prog B w0 w' (.blk t5 [.int .u64 (p.key : Int), .int .i64 (p.at_ : Int), .int .i64 (p.n : Int), .int .u32 (p.cook : Int), .bool p.dead] 87 :: .row 87 5 (.slice oa O.length oc) O.length (O.flatMap pcC) :: .blk x [ptr k, .int .i64 (id : Int), .slice (some ⟨bb, o, none⟩) rL.length rc] 107 :: .row 87 5 (.slice (some ⟨bb, o, none⟩) rL.length rc) rL.length (rL.flatMap pcC) :: F)) (fun j => O.length - j) 0 ⟨rfl, rfl, rfl, rfl, rfl, trivial⟩ ⟨Nat.zero_le _, by simp, hB, hL⟩ ?_
      clear hL hB
      rintro j w ⟨hj, hlo, hB, hL⟩
      by_cases hjl : j < O.length
      case neg =>
        obtain rfl : j = O.length := by omega
        repeat (first | (refine RunK ?_; intro w hL hB; try clear w) | (refine V.treeA ttOk hL (.q 0 (.q 1 (.q 2 (.q 3 (.q 4 (.q 5 (.q 6 (.q 7 (.q 8 (.q 9 (.q 10 (.q 11 (.q 12 (.q 13 .nil)))))))))))))) mixed (by decide +kernel) ?_; replace hL := hL.drew; conv => whnf) | (refine V.tailA ttOk mixed (by decide +kernel) ?_; replace hL := hL.drew; conv => whnf) | (refine Both.mk ?_ ?_ <;> conv => whnf) | fail)
        exact ⟨O.length, ⟨rfl, rfl, rfl, rfl, rfl, trivial⟩, Nat.le_refl _, hlo, (fun c hc => by simp at hc), hB, hL⟩
      have hgO := List.getElem?_eq_getElem hjl
      have htkO : O.take (j + 1) = O.take j ++ [O[j]] := List.take_succ_eq_append_getElem hjl
      generalize O[j] = c at *
      obtain ⟨ob, oo, rfl, _⟩ := SlN.addr (show SlN w 5 (.slice oa O.length oc) O.length _ from hL.rowN (i := 1) rfl) (by omega)
      repeat (first | (refine RunK ?_; intro w hL hB; try clear w) | (refine V.treeA ttOk hL (.q 0 (.q 1 (.q 2 (.q 3 (.q 4 (.q 5 (.q 6 (.q 7 (.q 8 (.q 9 (.q 10 (.q 11 (.q 12 (.q 13 .nil)))))))))))))) mixed (by decide +kernel) ?_; replace hL := hL.drew; conv => whnf) | (refine V.tailA ttOk mixed (by decide +kernel) ?_; replace hL := hL.drew; conv => whnf) | (refine Both.mk ?_ ?_ <;> conv => whnf) | fail)
      intro o2 ho2
      conv => whnf
      repeat (first | (refine RunH ?_; intro w hL hB; try clear w) | (refine Both.mk ?_ ?_ <;> conv => whnf) | fail)
      refine Lq.of_class (fun x0 hx0 => Ld.rowF ttOk pcC_len 0 (hx0.rowN (i := 1) rfl).rowOf tl38 rfl hgO rfl (by omega) rfl) ?_
      conv => whnf
      by_cases hlt : c.key < p.key
      · repeat (first | (refine RunH ?_; intro w hL hB; try clear w) | (refine Both.mk ?_ ?_ <;> conv => whnf) | fail)
        refine ⟨j + 1, ⟨rfl, rfl, rfl, rfl, vint (by push_cast; rfl), trivial⟩, ⟨by omega, fun d hd => ?_, hB, hL⟩, (by first | omega | (dsimp only; omega))⟩
        rw [htkO, List.mem_append, List.mem_singleton] at hd
        rcases hd with hd | rfl
        · exact hlo d hd
        · exact hlt
      · repeat (first | (refine RunH ?_; intro w hL hB; try clear w) | (refine Both.mk ?_ ?_ <;> conv => whnf) | fail)
        exact ⟨j, ⟨rfl, rfl, rfl, rfl, rfl, trivial⟩, by omega, hlo, (fun d hd => by rw [hgO] at hd; injection hd with hd; subst hd; exact hlt), hB, hL⟩
    clear hL hB
    rintro j w ⟨hj, hlo, hhi, hB, hL⟩
    have hsplit : plsR rL (rL.take (i + 1)) = O.take j ++ insP (O.drop j) p := by rw [hpl, ← insP_split _ hlo, List.take_append_drop]
    repeat refine V.seq ?_
    refine V.join (α := Bool) (fun z => [(0, ptr x), (3, .slice oa O.length oc), (4, .int .i64 (i : Int)), (5, ptr t5), (7, .int .i64 (j : Int)), (60, .bool z)]) (fun z w' => (insP (O.drop j) p = if z = true then O.drop j else p :: O.drop j) ∧ B ≤ w'.heap.size ∧ Sep Tryz.prog B w0 w' (.blk t5 [.int .u64 (p.key : Int), .int .i64 (p.at_ : Int), .int .i64 (p.n : Int), .int .u32 (p.cook : Int), .bool p.dead] 87 :: .row 87 5 (.slice oa O.length oc) O.length (O.flatMap pcC) :: .blk x [ptr k, .int .i64 (id : Int), .slice (some ⟨bb, o, none⟩) rL.length rc] 107 :: .row 87 5 (.slice (some ⟨bb, o, none⟩) rL.length rc) rL.length (rL.flatMap pcC) :: F)) ?_ ?_
    · by_cases hjl : j < O.length
      case neg =>
        obtain rfl : j = O.length := by omega
        repeat (first | (refine RunK ?_; intro w hL hB; try clear w) | (refine V.treeA ttOk hL (.q 0 (.q 1 (.q 2 (.q 3 (.q 4 (.q 5 (.q 6 (.q 7 (.q 8 (.q 9 (.q 10 (.q 11 (.q 12 (.q 13 .nil)))))))))))))) mixed (by decide +kernel) ?_; replace hL := hL.drew; conv => whnf) | (refine V.tailA ttOk mixed (by decide +kernel) ?_; replace hL := hL.drew; conv => whnf) | (refine Both.mk ?_ ?_ <;> conv => whnf) | fail)
        exact ⟨false, ⟨rfl, rfl, rfl, rfl, rfl, rfl, trivial⟩, by rw [List.drop_length]; rfl, hB, hL⟩
      have hgO := List.getElem?_eq_getElem hjl
      have hdr : O.drop j = O[j] :: O.drop (j + 1) := List.drop_eq_getElem_cons hjl
      generalize O[j] = c at *
      have hnlt := hhi c hgO
      obtain ⟨ob, oo, rfl, _⟩ := SlN.addr (show SlN w 5 (.slice oa O.length oc) O.length _ from hL.rowN (i := 1) rfl) (by omega)
      repeat (first | (refine RunK ?_; intro w hL hB; try clear w) | (refine V.treeA ttOk hL (.q 0 (.q 1 (.q 2 (.q 3 (.q 4 (.q 5 (.q 6 (.q 7 (.q 8 (.q 9 (.q 10 (.q 11 (.q 12 (.q 13 .nil)))))))))))))) mixed (by decide +kernel) ?_; replace hL := hL.drew; conv => whnf) | (refine V.tailA ttOk mixed (by decide +kernel) ?_; replace hL := hL.drew; conv => whnf) | (refine Both.mk ?_ ?_ <;> conv => whnf) | fail)
      intro o2 ho2
      conv => whnf
      repeat (first | (refine RunH ?_; intro w hL hB; try clear w) | (refine Both.mk ?_ ?_ <;> conv => whnf) | fail)
      refine Lq.of_class (fun x0 hx0 => Ld.rowF ttOk pcC_len 0 (hx0.rowN (i := 1) rfl).rowOf tl38 rfl hgO rfl (by omega) rfl) ?_
      conv => whnf
      by_cases heq : c.key = p.key
      · repeat (first | (refine RunH ?_; intro w hL hB; try clear w) | (refine Both.mk ?_ ?_ <;> conv => whnf) | fail)
        exact ⟨true, ⟨rfl, rfl, rfl, rfl, rfl, zboolE (decide_eq_true (by omega)), trivial⟩, by rw [hdr, insP, if_neg hnlt, if_pos heq, if_pos rfl], hB, hL⟩
      · repeat (first | (refine RunH ?_; intro w hL hB; try clear w) | (refine Both.mk ?_ ?_ <;> conv => whnf) | fail)
        exact ⟨false, ⟨rfl, rfl, rfl, rfl, rfl, zboolE (decide_eq_false (by omega)), trivial⟩, by rw [hdr, insP, if_neg hnlt, if_neg heq, if_neg (by decide)], hB, hL⟩
    clear hL hB hhi
    rintro z w ⟨hins, hB, hL⟩
    rw [hins] at hsplit
    cases z with
    | true =>
      rw [if_pos rfl, List.take_append_drop] at hsplit
      repeat (first | (refine RunH ?_; intro w hL hB; try clear w) | (refine Both.mk ?_ ?_ <;> conv => whnf) | fail)
      refine ⟨(i + 1, oa, oc, O.length), ⟨rfl, rfl, vint (by push_cast; rfl), trivial⟩, ⟨by dsimp only; omega, by dsimp only; rw [hsplit], ?_, hB⟩, (by first | omega | (dsimp only; omega))⟩
      dsimp only
      rw [hsplit]
      exact hL.tl
    | false =>
      rw [if_neg (by decide)] at hsplit
      have hOl : O.length = j + (O.drop j).length := by rw [List.length_drop]; omega
      have hAl : (O.take j).length = j := by rw [List.length_take]; omega
      repeat (first | (refine RunH ?_; intro w hL hB; try clear w) | (refine Both.mk ?_ ?_ <;> conv => whnf) | fail)
      refine Rv.buildS (len := 0) (vs := []) ttOk hL tl73 tl87 rfl rfl (by intro u hu; cases hu) (by decide) (by decide) hB fun bo w hL hB => ?_
      replace hL : Sep Tryz.prog B w0 w (.row 87 5 (.slice (some ⟨bo, 0, none⟩) 0 0) 0 [] :: _) := hL
      conv => whnf
      rcases own_shape (hL.ownR (i := 2) rfl) with ⟨hsn, h0⟩ | ⟨og, ogc, hsn, hgc⟩
      · injection hsn with e1 e2 e3
        subst e1; subst e3
        obtain rfl := List.eq_nil_of_length_eq_zero h0
        obtain rfl : j = 0 := by simpa using hj
        repeat (first | (refine RunH ?_; intro w hL hB; try clear w) | (refine Both.mk ?_ ?_ <;> conv => whnf) | fail)
        intro n1 c1 q1 q2
        obtain rfl : n1 = 0 := by simp at q1; omega
        obtain rfl : c1 = 0 := by simp at q2; omega
        conv => whnf
        repeat (first | (refine RunH ?_; intro w hL hB; try clear w) | (refine Both.mk ?_ ?_ <;> conv => whnf) | fail)
        refine Rv.appendS (m := 0) (news := []) ttOk hL tl73 tl87 rfl (by decide) 0 rfl (SlN.nil _ _) (by simp) (by simp only [maxLen]; omega) (by omega) hB fun vo w hL hB => ?_
        dsimp only [List.set] at hL
        rw [Nat.zero_add, List.nil_append] at hL
        obtain ⟨xa, xc, rfl⟩ := (show SlN w 5 vo 0 _ from hL.rowN (i := 0) rfl).shape
        conv => whnf
        repeat (first | (refine RunH ?_; intro w hL hB; try clear w) | (refine Both.mk ?_ ?_ <;> conv => whnf) | fail)
        refine Rv.buildS (len := 1) (vs := [pcV p]) ttOk hL tl73 tl87 rfl rfl (by intro u hu; simp only [List.mem_singleton] at hu; subst hu; rfl) (by decide) (by decide) hB fun bp w hL hB => ?_
        replace hL : Sep Tryz.prog B w0 w (.row 87 5 (.slice (some ⟨bp, 0, none⟩) 1 1) 1 (pcC p) :: _) := hL
        conv => whnf
        repeat (first | (refine RunH ?_; intro w hL hB; try clear w) | (refine Both.mk ?_ ?_ <;> conv => whnf) | fail)
        refine Rv.appendS (m := 1) (news := pcC p) ttOk hL tl73 tl87 rfl (by decide) 1 rfl (hL.rowN (i := 0) rfl) (pc_one _) (by simp only [maxLen]; omega) (by omega) hB fun vo w hL hB => ?_
        dsimp only [List.set] at hL
        replace hL := hL.tl
        rw [List.nil_append] at hL
        obtain ⟨ya, yc, rfl⟩ := (show SlN w 5 vo (0 + 1) _ from hL.rowN (i := 0) rfl).shape
        conv => whnf
        repeat (first | (refine RunH ?_; intro w hL hB; try clear w) | (refine Both.mk ?_ ?_ <;> conv => whnf) | fail)
        intro n2 c2 z1 z2
        obtain rfl : n2 = 0 := by simp at z1; omega
        obtain rfl : c2 = 0 := by simp at z2; omega
        conv => whnf
        repeat (first | (refine RunH ?_; intro w hL hB; try clear w) | (refine Both.mk ?_ ?_ <;> conv => whnf) | fail)
        refine Rv.appendS (m := 0) (news := []) ttOk hL tl73 tl87 rfl (by decide) 0 rfl (SlN.nil _ _) (by simp) (by simp only [maxLen]; omega) (by omega) hB fun vo w hL hB => ?_
        dsimp only [List.set] at hL
        rw [List.append_nil] at hL
        obtain ⟨za, zc, rfl⟩ := (show SlN w 5 vo (0 + 1 + 0) _ from hL.rowN (i := 0) rfl).shape
        conv => whnf
        repeat (first | (refine RunH ?_; intro w hL hB; try clear w) | (refine Both.mk ?_ ?_ <;> conv => whnf) | fail)
        refine ⟨(i + 1, za, zc, 1), ⟨rfl, rfl, vint (by push_cast; rfl), trivial⟩, ⟨by dsimp only; omega, by dsimp only; rw [hsplit]; rfl, ?_, hB⟩, (by first | omega | (dsimp only; omega))⟩
        dsimp only
        rw [hsplit]
        have := hL.sub (.cons_cons _ (.cons _ (.cons _ (.refl _))))
        simpa using this
      injection hsn with e1 e2 e3
      subst e1; subst e3
      repeat (first | (refine RunH ?_; intro w hL hB; try clear w) | (refine Both.mk ?_ ?_ <;> conv => whnf) | fail)
      intro n1 c1 q1 q2
      obtain rfl : n1 = j := by omega
      conv => whnf
      repeat (first | (refine RunH ?_; intro w hL hB; try clear w) | (refine Both.mk ?_ ?_ <;> conv => whnf) | fail)
      refine Rv.appendS (m := n1) (news := (O.take n1).flatMap pcC) ttOk hL tl73 tl87 rfl (by decide) 0 rfl (SlN.takeF pcC_len (hL.rowN (i := 2) rfl) (k := n1) hj (c' := c1) (by omega) (by omega)) (pcs_one _) (by simp only [maxLen]; omega) (by omega) hB fun vo w hL hB => ?_
      dsimp only [List.set] at hL
      rw [Nat.zero_add, List.nil_append] at hL
      obtain ⟨xa, xc, rfl⟩ := (show SlN w 5 vo n1 _ from hL.rowN (i := 0) rfl).shape
      conv => whnf
      repeat (first | (refine RunH ?_; intro w hL hB; try clear w) | (refine Both.mk ?_ ?_ <;> conv => whnf) | fail)
      refine Rv.buildS (len := 1) (vs := [pcV p]) ttOk hL tl73 tl87 rfl rfl (by intro u hu; simp only [List.mem_singleton] at hu; subst hu; rfl) (by decide) (by decide) hB fun bp w hL hB => ?_
      replace hL : Sep Tryz.prog B w0 w (.row 87 5 (.slice (some ⟨bp, 0, none⟩) 1 1) 1 (pcC p) :: _) := hL
      conv => whnf
      repeat (first | (refine RunH ?_; intro w hL hB; try clear w) | (refine Both.mk ?_ ?_ <;> conv => whnf) | fail)
      refine Rv.appendS (m := 1) (news := pcC p) ttOk hL tl73 tl87 rfl (by decide) 1 rfl (hL.rowN (i := 0) rfl) (pc_one _) (by simp only [maxLen]; omega) (by omega) hB fun vo w hL hB => ?_
      dsimp only [List.set] at hL
      replace hL := hL.tl
      obtain ⟨ya, yc, rfl⟩ := (show SlN w 5 vo (n1 + 1) _ from hL.rowN (i := 0) rfl).shape
      conv => whnf
      repeat (first | (refine RunH ?_; intro w hL hB; try clear w) | (refine Both.mk ?_ ?_ <;> conv => whnf) | fail)
      intro o2 n2 c2 z1 z2 z3 z4
      obtain rfl : n2 = (O.drop n1).length := by rw [List.length_drop]; omega
      conv => whnf
      repeat (first | (refine RunH ?_; intro w hL hB; try clear w) | (refine Both.mk ?_ ?_ <;> conv => whnf) | fail)
      refine Rv.appendS (m := (O.drop n1).length) (news := (O.drop n1).flatMap pcC) ttOk hL tl73 tl87 rfl (by decide) 0 rfl (by
        have := SlN.dropF pcC_len (hL.rowN (i := 2) rfl) (k := n1) hj (o' := o2) (n' := (O.drop n1).length) (c' := c2) (fun h => by have := z1 (by omega); omega) (by rw [List.length_drop]) (by omega)
        rwa [← List.length_drop] at this) (pcs_one _) (by simp only [maxLen]; omega) (by omega) hB fun vo w hL hB => ?_
      dsimp only [List.set] at hL
      obtain ⟨za, zc, rfl⟩ := (show SlN w 5 vo (n1 + 1 + (O.drop n1).length) _ from hL.rowN (i := 0) rfl).shape
      conv => whnf
      repeat (first | (refine RunH ?_; intro w hL hB; try clear w) | (refine Both.mk ?_ ?_ <;> conv => whnf) | fail)
      refine ⟨(i + 1, za, zc, n1 + 1 + (O.drop n1).length), ⟨rfl, rfl, vint (by push_cast; rfl), trivial⟩, ⟨by dsimp only; omega, ?_, ?_, hB⟩, (by first | omega | (dsimp only; omega))⟩
      · dsimp only
        rw [hsplit, List.length_append, hAl, List.length_cons]; omega
      · dsimp only
        rw [hsplit]
        have := hL.sub (.cons_cons _ (.cons _ (.cons _ (.refl _))))
        rw [List.flatMap_append, List.flatMap_cons, ← List.append_assoc]
        exact this
  · obtain rfl : i = rL.length := by omega
    rw [List.take_length] at hL hon
    subst hon
    repeat (first | (refine RunH ?_; intro w hL hB; try clear w) | (refine Both.mk ?_ ?_ <;> conv => whnf) | fail)
    exact hB
end
end Go.Proofs.YtladfadcgfdbfaaGreatDoor
