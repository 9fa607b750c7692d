/- volume: Put. volume: read, Get. Nothing is claimed here. -/
import Derived.Test.YtladfadcgfdbfaaGreatDoorD19
namespace Go.Proofs.YtladfadcgfdbfaaGreatDoor
open Go.RowKit
open Go.Maps (Keyed)
set_option linter.unusedVariables false
set_option linter.unusedSimpArgs false
set_option maxRecDepth 100000
def vputB (ps : List Pc) (key : Nat) (dead : Bool) : Nat := match getP ps key with
  | some o => if o.dead = true then 9 else if dead = false then 8 else 0
  | none => 0
def vputE (room : Nat) (S : List Fl) (nm : ByteArray) (ps : List Pc) (key : Nat) (dead : Bool) (n : Nat) : Nat :=
  if encNE dead n ≠ 0 then encNE dead n else if vputB ps key dead ≠ 0 then vputB ps key dead else if 4194304 < szS S nm + szN n then 6 else appE room S nm (szN n)
def vputS (room : Nat) (S : List Fl) (nm : ByteArray) (ps : List Pc) (key cook : Nat) (dead : Bool) (xs : List UInt8) : List Fl :=
  if vputE room S nm ps key dead xs.length = 0 then syncS (appS room S nm (encN key cook dead xs)) nm else S
def vputP (room : Nat) (S : List Fl) (nm : ByteArray) (ps : List Pc) (key cook : Nat) (dead : Bool) (xs : List UInt8) : List Pc :=
  if vputE room S nm ps key dead xs.length = 0 then layP ps ⟨key, szS S nm, szN xs.length, cook, dead⟩ else ps
theorem szS_le {B : Nat} {w0 w : World} {b room : Nat} {S : List Fl} {F : List Res} (h : DkS B w0 w b room S F) (nm : ByteArray) : szS S nm ≤ 1073741824 := by
  obtain ⟨mo, fs, rfl, hok, _⟩ := h.of
  rw [szS]
  cases hg : getS (fs.map Fv.fl) nm with
  | none => simp
  | some f =>
    have e := getF_fl fs nm
    rw [hg] at e
    cases hf : getF fs nm with
    | none => rw [hf] at e; cases e
    | some g =>
      rw [hf] at e
      injection e with e
      subst e
      have := len_le hok hf
      show g.d.length ≤ _
      omega
section
variable {B d v m room id : Nat} {nm : ByteArray} {S : List Fl} {ps : List Pc} {F : List Res} {w0 w : World}
set_option maxHeartbeats 8000000 in
theorem vput_fn (hn : NameIn B w0 id nm) (key cook : Nat) (dead : Bool) (nv : Value) (xs : List UInt8) (hk : key < 18446744073709551616) (hc : cook < 4294967296) (hnd : NdP ps)
    (hnv : ∀ w', Sep Tryz.prog B w0 w' F → Sl w' nv (bv xs)) (hD : DkS B w0 w d room S (.blk v (volC d id nm m) 100 :: .mp 38 m (ps.map pcE) :: F)) :
    Fn Tryz.prog 18 #[ptr v, .agg (ndC key cook dead nv).toArray] w fun r w' => r = .int .i64 (vputE room S nm ps key dead xs.length : Nat) ∧
      DkS B w0 w' d room (vputS room S nm ps key cook dead xs) (.blk v (volC d id nm m) 100 :: .mp 38 m ((vputP room S nm ps key cook dead xs).map pcE) :: F) := by
  have hnn := hn.1
  have hn6 : nm.size ≤ 1000000 := by omega
  have hsz := szS_le hD nm
  have hnv' : ∀ {w : World} {X Y : List Res}, Sep Tryz.prog B w0 w (X ++ (F ++ Y)) → Sl w nv (bv xs) := fun h => hnv _ (h.sub ((List.sublist_append_left _ _).trans (List.sublist_append_right _ _)))
  have hdef : vputE room S nm ps key dead xs.length = if encNE dead xs.length ≠ 0 then encNE dead xs.length else if vputB ps key dead ≠ 0 then vputB ps key dead else if 4194304 < szS S nm + szN xs.length then 6 else appE room S nm (szN xs.length) := rfl
  have hS : vputE room S nm ps key dead xs.length ≠ 0 → vputS room S nm ps key cook dead xs = S := fun h => if_neg h
  have hP : vputE room S nm ps key dead xs.length ≠ 0 → vputP room S nm ps key cook dead xs = ps := fun h => if_neg h
  have hS0 : vputE room S nm ps key dead xs.length = 0 → vputS room S nm ps key cook dead xs = syncS (appS room S nm (encN key cook dead xs)) nm := fun h => if_pos h
  have hP0 : vputE room S nm ps key dead xs.length = 0 → vputP room S nm ps key cook dead xs = layP ps ⟨key, szS S nm, szN xs.length, cook, dead⟩ := fun h => if_pos h
  generalize vputE room S nm ps key dead xs.length = E at *
  generalize vputS room S nm ps key cook dead xs = S' at *
  generalize vputP room S nm ps key cook dead xs = P' at *
  obtain ⟨dL, hL, hB, close⟩ := hD.open
  clear hD
  rw [volC] at *
  have hnv0 := hnv' (X := [_, _]) (Y := dL) hL
  obtain ⟨na, nc, rfl⟩ := hnv0.shape
  simp only [bv_length] at *
  rw [ndC]
  refine Fn.mk Tryz.func18 rfl (by kernel_rfl) Tryz.ntmps18 rfl (by rw [Tryz.results18]) ?_
  repeat (first | (refine RunH ?_; intro w hL hB; try clear w) | (refine Both.mk ?_ ?_ <;> conv => whnf) | fail)
  (refine Nw.sep hL hB (fun t3 w hL hB ht3 => ?_); conv => whnf)
  repeat (first | (refine RunH ?_; intro w hL hB; try clear w) | (refine Both.mk ?_ ?_ <;> conv => whnf) | fail)
  by_cases hE1 : encNE dead xs.length = 0
  case neg =>
    rw [if_pos hE1] at hdef
    have h0 : E ≠ 0 := by rw [hdef]; exact hE1
    obtain rfl := hS h0
    obtain rfl := hP h0
    refine (encN_bad key cook dead _ xs _ (hnv' (X := [_, _, _]) (Y := dL) hL) hE1).mono fun r w ⟨hr, hw⟩ => ?_
    subst hr
    replace hL := hL.call hB (Turns.of_below hw)
    replace hB := Nat.le_trans hB hw.size
    rw [← hdef]
    conv => whnf
    repeat (first | (refine RunH ?_; intro w hL hB; try clear w) | (refine Both.mk ?_ ?_ <;> conv => whnf) | (refine Br.yes (by simp; omega) ?_; conv => whnf) | fail)
    exact ⟨rfl, close (F' := _ :: _ :: F) hL.tl hB⟩
  rw [if_neg (fun h => h hE1)] at hdef
  have hxl : xs.length ≤ 65536 := by
    rw [encNE] at hE1
    split at hE1
    · cases hE1
    · split at hE1
      · cases hE1
      · omega
  have hel := encN_len key cook dead xs
  have hszn := szN_le xs.length
  refine (encN_fn key cook dead _ xs hk hc _ (hnv' (X := [_, _, _]) (Y := dL) hL) hE1).mono fun r w ⟨u, hr, ho, hw⟩ => ?_
  subst hr
  replace hL := hL.addRow hB hw ho
  replace hB := Nat.le_trans hB hw.size
  obtain ⟨ua, uc, rfl⟩ := (show SlN w 1 u _ _ from hL.rowN (i := 0) rfl).shape
  rw [hel] at hL ⊢
  generalize hEE : encN key cook dead xs = EE at *
  clear ho hw
  generalize hpv : pcOf (getP ps key) = pv
  obtain ⟨pk, pa, pn, pc, pd, hpv', hpB⟩ : ∃ (pk pa pn pc : Int) (pd : Bool), pv = .agg #[.int .u64 pk, .int .i64 pa, .int .i64 pn, .int .u32 pc, .bool pd] ∧ (vputB ps key dead = if (getP ps key).isSome = true ∧ pd = true then 9 else if (getP ps key).isSome = true ∧ dead = false then 8 else 0) := by
    subst hpv
    cases hg : getP ps key with
    | none => exact ⟨0, 0, 0, 0, false, rfl, by simp [vputB, hg]⟩
    | some o => exact ⟨o.key, o.at_, o.n, o.cook, o.dead, rfl, by simp [vputB, hg]⟩
  subst hpv'
  generalize hso : (getP ps key).isSome = so at *
  have rest : ∀ {w : World} {L : List Res}, True := trivial
  conv => whnf
  repeat (first | (refine RunK ?_; intro w hL hB; try clear w) | (refine V.treeA ttOk hL (.q 0 (.q 1 (.q 2 (.q 3 (.q 4 (.q 5 (.q 6 (.q 7 (.q 8 (.q 9 (.alt 10 (.alt 11 (.q 12 .nil) .stop) .stop))))))))))) mixed (by decide +kernel) ?_; replace hL := hL.drew; conv => whnf) | (refine V.tailA ttOk mixed (by decide +kernel) ?_; replace hL := hL.drew; conv => whnf) | (refine Both.mk ?_ ?_ <;> conv => whnf) | (refine Rq.pcOk (fun _ h => h) 3 rfl hnd hk ?_; rw [hpv, hso]; conv => whnf) | (refine Nw.sep hL hB (fun t7 w hL hB ht7 => ?_); conv => whnf) | fail)
  replace hL := hL.front (i := 3) rfl
  dsimp only [List.eraseIdx] at hL
  refine (vsize_fn hn6 (close (F' := _ :: _ :: _ :: _ :: _ :: F) hL hB)).mono fun r w ⟨hr, hD⟩ => ?_
  subst hr
  obtain ⟨dL, hL, hB, close⟩ := hD.open
  clear hD
  rw [volC] at hL
  conv => whnf
  by_cases h9 : so = true ∧ pd = true
  · obtain ⟨rfl, rfl⟩ := h9
    rw [if_pos ⟨rfl, rfl⟩] at hpB
    rw [hpB, if_pos (by decide)] at hdef
    have h0 : E ≠ 0 := by rw [hdef]; decide
    obtain rfl := hS h0
    obtain rfl := hP h0
    rw [hdef]
    repeat (first | (refine RunH ?_; intro w hL hB; try clear w) | (refine Both.mk ?_ ?_ <;> conv => whnf) | fail)
    exact ⟨rfl, close (F' := _ :: _ :: F) (hL.sub (.cons_cons _ (.cons _ (.cons _ (.cons _ (.refl _)))))) hB⟩
  by_cases h8 : so = true ∧ dead = false
  · obtain ⟨rfl, rfl⟩ := h8
    obtain rfl : pd = false := by cases pd; rfl; exact absurd ⟨rfl, rfl⟩ h9
    rw [if_neg h9, if_pos ⟨rfl, rfl⟩] at hpB
    rw [hpB, if_pos (by decide)] at hdef
    have h0 : E ≠ 0 := by rw [hdef]; decide
    obtain rfl := hS h0
    obtain rfl := hP h0
    rw [hdef]
    repeat (first | (refine RunH ?_; intro w hL hB; try clear w) | (refine Both.mk ?_ ?_ <;> conv => whnf) | fail)
    exact ⟨rfl, close (F' := _ :: _ :: F) (hL.sub (.cons_cons _ (.cons _ (.cons _ (.cons _ (.refl _)))))) hB⟩
  rw [if_neg h9, if_neg h8] at hpB
  rw [hpB, if_neg (fun h => h rfl)] at hdef
  have hgo : so = false ∨ (so = true ∧ pd = false ∧ dead = true) := by
    cases so
    · exact .inl rfl
    · refine .inr ⟨rfl, ?_, ?_⟩
      · cases pd; rfl; exact absurd ⟨rfl, rfl⟩ h9
      · cases dead; exact absurd ⟨rfl, rfl⟩ h8; rfl
  by_cases h6 : 4194304 < szS S nm + szN xs.length
  · rw [if_pos h6] at hdef
    have h0 : E ≠ 0 := by rw [hdef]; decide
    obtain rfl := hS h0
    obtain rfl := hP h0
    rw [hdef]
    rcases hgo with rfl | ⟨rfl, rfl, rfl⟩ <;> (
      repeat (first | (refine RunH ?_; intro w hL hB; try clear w) | (refine Both.mk ?_ ?_ <;> conv => whnf) | fail)
      exact ⟨rfl, close (F' := _ :: _ :: F) (hL.sub (.cons_cons _ (.cons _ (.cons _ (.cons _ (.refl _)))))) hB⟩)
  rw [if_neg h6] at hdef
  have hp0 := hgo
  rcases hgo with rfl | ⟨rfl, rfl, rfl⟩ <;> (
    repeat (first | (refine RunK ?_; intro w hL hB; try clear w) | (refine V.tree ttOk (fun x0 => Sep Tryz.prog _ w0 x0 [.blk v [ptr d, .int .i64 (id : Int), .string nm, .map (some m)] 100]) (.q 0 (.q 1 (.q 2 (.q 3 (.q 4 (.q 5 (.q 6 (.q 7 (.q 8 (.alt 9 (.q 10 .nil) .stop)))))))))) mixed (by decide +kernel) (hL.drew.one (i := 0) rfl) ?_; replace hL := hL.drew; conv => whnf) | (refine V.tailA ttOk mixed (by decide +kernel) ?_; replace hL := hL.drew; conv => whnf) | (refine Both.mk ?_ ?_ <;> conv => whnf) | fail)
    refine (append_fn nm hn6 _ EE (fun w' h => by have := h.row (i := 2) rfl; exact this) (close (F' := _ :: _ :: _ :: _ :: _ :: F) hL hB)).mono fun r w ⟨hr, hD⟩ => ?_
    rw [hel] at hr
    subst hr
    obtain ⟨dL, hL, hB, close⟩ := hD.open
    clear hD
    by_cases hA : appE room S nm (szN xs.length) = 0
    case' neg =>
      have h0 : E ≠ 0 := by rw [hdef]; exact hA
      rw [show appS room S nm EE = S from by rw [appS, hel, if_neg hA]] at close
      obtain rfl := hS h0
      obtain rfl := hP h0
      rw [← hdef]
      conv => whnf
      refine ⟨hL.one (i := 0) rfl, ?_⟩
      conv => whnf
      repeat (first | (refine RunH ?_; intro w hL hB; try clear w) | (refine Both.mk ?_ ?_ <;> conv => whnf) | (refine Br.yes (by simp; omega) ?_; conv => whnf) | fail)
      exact ⟨rfl, close (F' := _ :: _ :: F) (hL.sub (.cons_cons _ (.cons _ (.cons _ (.cons _ (.refl _)))))) hB⟩
    rw [hA] at hdef ⊢
    rw [hS0 hdef, hP0 hdef]
    conv => whnf
    refine ⟨hL.one (i := 0) rfl, ?_⟩
    conv => whnf
    repeat (first | (refine RunK ?_; intro w hL hB; try clear w) | (refine V.tree ttOk (fun x0 => Sep Tryz.prog _ w0 x0 [.blk v [ptr d, .int .i64 (id : Int), .string nm, .map (some m)] 100]) (.q 0 (.q 1 (.q 2 (.q 3 (.q 4 (.q 5 (.q 6 (.q 7 (.alt 8 .nil .stop))))))))) mixed (by decide +kernel) (hL.drew.one (i := 0) rfl) ?_; replace hL := hL.drew; conv => whnf) | (refine V.tailA ttOk mixed (by decide +kernel) ?_; replace hL := hL.drew; conv => whnf) | (refine Both.mk ?_ ?_ <;> conv => whnf) | fail)
    refine (sync_fn nm hn6 (close (F' := _ :: _ :: _ :: _ :: _ :: F) hL hB)).mono fun r w ⟨hr, hD⟩ => ?_
    obtain ⟨dL, hL, hB, close⟩ := hD.open
    clear hD
    conv => whnf
    refine ⟨hL.one (i := 0) rfl, ?_⟩
    conv => whnf
    repeat (first | (refine RunH ?_; intro w hL hB; try clear w) | (refine Both.mk ?_ ?_ <;> conv => whnf) | fail)
    replace hL := (hL.front (i := 4) rfl).perm (.swap _ _ _)
    dsimp only [List.eraseIdx] at hL
    refine (vlay_fn (id := id) (nm := nm) (d := d) ⟨key, szS S nm, szN xs.length, cook, _⟩ _ hnd hk hL hB).mono fun r w ⟨hL, hB⟩ => ?_
    conv => whnf
    repeat (first | (refine RunH ?_; intro w hL hB; try clear w) | (refine Both.mk ?_ ?_ <;> conv => whnf) | fail)
    rw [hdef]
    exact ⟨rfl, close (F' := _ :: _ :: F) (hL.sub (.cons_cons _ (.cons_cons _ (.cons _ (.cons _ (.cons _ (.refl _))))))) hB⟩)
end
end Go.Proofs.YtladfadcgfdbfaaGreatDoor
namespace Go.Proofs.YtladfadcgfdbfaaGreatDoor
open Go.RowKit
open Go.Maps (Keyed)
set_option linter.unusedVariables false
set_option linter.unusedSimpArgs false
set_option maxRecDepth 100000
def rec (f : List UInt8) (p : Pc) : List UInt8 := Go.Proofs.YtladfadcgfdbfaaGreatDoor.win f p.at_ p.n
/-- the record stands there as it was put -/
def readOk (f : List UInt8) (p : Pc) : Prop := p.at_ + p.n ≤ f.length ∧ dE (rec f p) = 0 ∧ szN (dSize (rec f p)) = p.n ∧ dKey (rec f p) = p.key ∧ dCook (rec f p) = p.cook ∧ dDead (rec f p) = p.dead
instance (f : List UInt8) (p : Pc) : Decidable (readOk f p) := by unfold readOk; infer_instance
end Go.Proofs.YtladfadcgfdbfaaGreatDoor
