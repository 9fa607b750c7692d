/- The part of XUt that is for any seat. vacuum: Begin. Nothing is claimed here. -/
import Derived.Test.YtladfadcgfdbfaaGreatDoorD25
import Derived.Test.YtladfadcgfdbfaaGreatDoorD26
import Derived.Test.YtladfadcgfdbfaaGreatDoorD28
namespace Go.Proofs.YtladfadcgfdbfaaGreatDoor
open Go.RowKit
open Go.Maps (Keyed)
set_option linter.unusedVariables false
set_option linter.unusedSimpArgs false
set_option maxRecDepth 100000
theorem layP_len (ps : List Pc) (p : Pc) : (layP ps p).length ≤ ps.length + 1 := by
  have hput : (putP ps p).length ≤ ps.length + 1 := by
    have h := congrArg List.length (putA_keys (key := Pc.key) ps p)
    rw [List.length_map] at h
    show (putA Pc.key ps p).length ≤ _
    split at h
    · rw [h, List.length_map]; omega
    · rw [h, List.length_append, List.length_map]; simp
  unfold layP
  split
  · exact hput
  · split
    · exact hput
    · omega
theorem foldP_len : ∀ (Rs : List Nd) (at_ : Nat) (ps : List Pc), (foldP at_ ps Rs).length ≤ ps.length + Rs.length
  | [], _, _ => by simp [foldP]
  | r :: rs, at_, ps => by
    have := foldP_len rs (at_ + szR r) (layP ps (placeOf at_ r))
    have h2 := layP_len ps (placeOf at_ r)
    simp only [foldP, List.length_cons]
    omega
theorem foldP_nd : ∀ (Rs : List Nd) (at_ : Nat) (ps : List Pc), NdP ps → NdP (foldP at_ ps Rs)
  | [], _, _, h => h
  | r :: rs, at_, ps, h => foldP_nd rs _ _ (h.lay _)
theorem swap22 {α : Type} (a b c d : α) (X : List α) : (a :: b :: c :: d :: X).Perm (c :: d :: a :: b :: X) := by
  have h := (List.perm_append_comm (l₁ := [a, b]) (l₂ := [c, d])).append_right X
  simpa using h
theorem plsOf_len (ps : List Pc) : (plsOf ps).length = ps.length := by rw [plsOf, List.length_map, sortedK_len]
end Go.Proofs.YtladfadcgfdbfaaGreatDoor
namespace Go.Proofs.YtladfadcgfdbfaaGreatDoor
open Go.RowKit
set_option linter.unusedVariables false
set_option linter.unusedSimpArgs false
set_option maxRecDepth 100000
def shN (nm : ByteArray) : ByteArray := nm ++ ⟨#[46, 110, 101, 119]⟩
theorem shN_size (nm : ByteArray) : (shN nm).size = nm.size + 4 := by rw [shN, ByteArray.size_append]; rfl
theorem shN_ne (nm : ByteArray) : nm ≠ shN nm := fun h => by
  have := congrArg ByteArray.size h
  rw [shN_size] at this
  omega
theorem plsOf_perm {ps : List Pc} (hnd : NdP ps) : (plsOf ps).Perm ps := by
  have h1 : (plsOf ps).Perm ((ps.map Pc.key).map fun k => (getP ps k).getD (noPc k)) := (List.mergeSort_perm _ _).map _
  refine h1.trans ?_
  rw [List.map_map]
  refine List.Perm.of_eq ((List.map_congr_left (g := id) fun x hx => ?_).trans (List.map_id _))
  have : getP ps x.key = some x := getA_mem hnd hx
  simp only [Function.comp_apply, id, this, Option.getD_some]
section
variable {B d room id : Nat} {nm : ByteArray} {S : List Fl} {F : List Res} {w0 w : World}
/-- what Begin says, and leaves -/
def BegunJ (B : Nat) (w0 : World) (d room id : Nat) (nm : ByteArray) (S : List Fl) (Rs : List Nd) (F : List Res) (r : Value) (w' : World) : Prop :=
  ((getS S (shN nm)).isSome = true → r = .tuple #[.pointer none, .int .i64 8] ∧ DkS B w0 w' d room S F) ∧
  ((getS S (shN nm)).isSome = false → appE room S (shN nm) 8 ≠ 0 → r = .tuple #[.pointer none, .int .i64 (appE room S (shN nm) 8 : Nat)] ∧ DkS B w0 w' d room S F) ∧
  ((getS S (shN nm)).isSome = false → appE room S (shN nm) 8 = 0 → ∃ j rv, ∃ ls : List Pc, ls.Perm (foldP 8 [] Rs) ∧ ls.Pairwise (fun x y => ¬ ltP y x) ∧ r = .tuple #[ptr j, .int .i64 0] ∧ LeftIs rv ls.length 0 rv ∧
    DkS B w0 w' d room (appS room S (shN nm) (vhd id)) (.blk j (jC d id nm (shN nm) rv (8 + lenR Rs) (funcJ j) false) 76 :: .row 87 5 rv ls.length (ls.flatMap pcC) :: F))
set_option maxHeartbeats 16000000 in
theorem jbegin_fn (hn : NameIn B w0 id nm) (Rs : List Nd) (hok : ∀ r ∈ Rs, OkRec r) (la : Nat) (hg : getS S nm = some ⟨nm, vhd id ++ flat Rs, la⟩) (hRl : Rs.length ≤ 1000000) (hD : DkS B w0 w d room S F) :
    Fn Tryz.prog 10 #[ptr d, .int .i64 (id : Int)] w fun r w' => BegunJ B w0 d room id nm S Rs F r w' := by
  have hnn := hn.1
  have hDl : (vhd id ++ flat Rs).length = 8 + lenR Rs := by rw [List.length_append, flatR_len, vhd_len]
  have hle : (vhd id ++ flat Rs).length ≤ 1073741824 := OkF.of_get hD hg
  have hE : openE S nm id = 0 := by rw [openE, hg]; exact if_pos ⟨by dsimp only; omega, by dsimp only; rw [List.take_append_of_le_length (by rw [vhd_len]; omega), List.take_of_length_le (by rw [vhd_len]; omega)]⟩
  have hdat : datS S nm = vhd id ++ flat Rs := by rw [datS, hg]
  have hL := hD.rest
  refine Fn.mk Tryz.func10 rfl (by kernel_rfl) Tryz.ntmps10 rfl (by rw [Tryz.results10]) ?_
  have hB := hD.hB
  repeat (first | (refine RunH ?_; intro w hL hB; try clear w) | (refine Both.mk ?_ ?_ <;> conv => whnf) | fail)
  clear hL hB
  refine (vopen_fn hn hD).mono fun r w hr => ?_
  obtain ⟨v, m, ps, o, hsc, hnd, hok2, hr, hD⟩ := hr.2 hE
  subst hr
  have h8 := vhd_len id
  rw [hdat, ← h8] at hsc
  obtain ⟨hps, ho⟩ := scan_clean Rs hok hsc
  subst ho
  rw [h8] at hps
  replace hD : DkS B w0 w d room S _ := hD
  have hpl : ps.length ≤ 1000000 := by
    have := foldP_len Rs 8 []
    rw [hps]; simp at this; omega
  obtain ⟨dL, hL, hB, close⟩ := hD.open
  conv => whnf
  repeat (first | (refine RunH ?_; intro w hL hB; try clear w) | (refine Both.mk ?_ ?_ <;> conv => whnf) | fail)
  refine (hn.2 _ _ hL hB).mono fun r w ⟨hr, hbl⟩ => ?_
  subst hr
  replace hL := hL.call hB (Turns.of_below hbl)
  replace hB := Nat.le_trans hB hbl.size
  conv => whnf
  repeat (first | (refine RunH ?_; intro w hL hB; try clear w) | (refine Both.mk ?_ ?_ <;> conv => whnf) | fail)
  refine (hn.2 _ _ hL hB).mono fun r w ⟨hr, hbl⟩ => ?_
  subst hr
  replace hL := hL.call hB (Turns.of_below hbl)
  replace hB := Nat.le_trans hB hbl.size
  conv => whnf
  repeat (first | (refine RunH ?_; intro w hL hB; try clear w) | (refine Both.mk ?_ ?_ <;> conv => whnf) | fail)
  refine Chk.mk (by rw [show (ByteArray.mk #[46, 110, 101, 119]).size = 4 from rfl]; omega) ?_
  conv => whnf
  repeat (first | (refine RunH ?_; intro w hL hB; try clear w) | (refine Both.mk ?_ ?_ <;> conv => whnf) | fail)
  have hD := close (F' := _ :: _ :: F) hL hB
  clear hL hB close
  refine (vplaces_fn hnd hok2 hpl hD).mono fun rv w hD => ?_
  obtain ⟨dL, hL, hB, close⟩ := hD.open
  conv => whnf
  repeat (first | (refine RunH ?_; intro w hL hB; try clear w) | (refine Both.mk ?_ ?_ <;> conv => whnf) | fail)
  clear hL hB close
  refine (vsize_fn (by omega) (hD.perm (.swap _ _ _))).mono fun r w ⟨hr, hD⟩ => ?_
  subst hr
  replace hD := hD.perm (.swap _ _ _)
  obtain ⟨dL, hL, hB, close⟩ := hD.open
  rw [← datS_len, hdat, hDl]
  obtain ⟨ra, rc, rfl⟩ := (show SlN w 5 rv ps.length _ from hL.rowN (i := 0) rfl).shape
  conv => whnf
  repeat (first | (refine RunH ?_; intro w hL hB; try clear w) | (refine Both.mk ?_ ?_ <;> conv => whnf) | fail)
  (refine Nw.sep hL hB (fun j w hL hB hj => ?_); conv => whnf)
  replace hL : Sep Tryz.prog B w0 w ((.blk j (jC d id nm (shN nm) (.slice ra ps.length rc) (8 + lenR Rs) .nilFunc false) 76 :: .row 87 5 (.slice ra ps.length rc) ps.length ((plsOf ps).flatMap pcC) :: .blk v (volC d id nm m) 100 :: .mp 38 m (ps.map pcE) :: F) ++ dL) := hL
  have hsz6 : (shN nm).size ≤ 1000000 := by rw [shN_size]; omega
  have hD := close hL hB
  simp only [jC] at hL
  conv => whnf
  repeat (first | (refine RunH ?_; intro w hL hB; try clear w) | (refine Both.mk ?_ ?_ <;> conv => whnf) | fail)
  clear hL hB close
  refine (size_fn (shN nm) hsz6 hD).mono fun r w ⟨hr, hD⟩ => ?_
  subst hr
  cases hs : (getS S (shN nm)).isSome with
  | true =>
    obtain ⟨dL, hL, hB, close⟩ := hD.open
    conv => whnf
    repeat (first | (refine RunH ?_; intro w hL hB; try clear w) | (refine Both.mk ?_ ?_ <;> conv => whnf) | fail)
    exact ⟨fun _ => ⟨rfl, close (F' := F) (hL.sub (.cons _ (.cons _ (.cons _ (.cons _ (.refl _)))))) hB⟩, (fun h => by rw [hs] at h; cases h), (fun h => by rw [hs] at h; cases h)⟩
  | false =>
    obtain ⟨dL, hL, hB, close⟩ := hD.open
    simp only [jC] at hL
    conv => whnf
    repeat (first | (refine RunH ?_; intro w hL hB; try clear w) | (refine Both.mk ?_ ?_ <;> conv => whnf) | fail)
    replace hL := hL.perm (List.Perm.swap _ _ _)
    have hlen := plsOf_len ps
    have hpm : (plsOf ps).Perm ps := plsOf_perm hnd
    generalize plsOf ps = qs at hL hlen hpm
    rw [← hlen] at hL ⊢
    refine (sortP_fn _ qs _ (by omega) hL hB).mono fun r w ⟨ls, hp, hso, hB, hL⟩ => ?_
    conv => whnf
    repeat (first | (refine RunH ?_; intro w hL hB; try clear w) | (refine Both.mk ?_ ?_ <;> conv => whnf) | fail)
    clear hD
    replace hL := hL.perm (List.Perm.swap _ _ _)
    have hD := close (F' := _ :: _ :: _ :: _ :: F) hL hB
    clear hL hB close
    refine (read_fn nm (by omega) hD).mono fun r w hD => ?_
    rw [hg] at hD
    obtain ⟨u, hr, hD⟩ := hD
    subst hr
    obtain ⟨dL, hL, hB, close⟩ := hD.open
    obtain ⟨ua, uc, rfl⟩ := (show SlN w 1 u _ _ from hL.rowN (i := 0) rfl).shape
    dsimp only at hL
    generalize hVV : vhd id ++ flat Rs = Vf at *
    obtain ⟨ub, uo, rfl, _⟩ := (show SlN w 1 _ Vf.length (bv Vf) from hL.rowN (i := 0) rfl).addr (by omega)
    have huc : Vf.length ≤ uc := (show SlN w 1 _ Vf.length (bv Vf) from hL.rowN (i := 0) rfl).to1.len.2.1
    conv => whnf
    repeat (first | (refine RunK ?_; intro w hL hB; try clear w) | (refine V.tree ttOk (fun x0 => Sep Tryz.prog _ w0 x0 [.blk j [ptr d, .int .i64 (id : Int), .string nm, .string (shN nm), .slice ra qs.length rc, .int .i64 ((8 + lenR Rs : Nat) : Int), .nilFunc, .bool false] 76]) (.q 0 (.q 1 (.q 2 (.q 3 (.q 4 (.q 5 (.q 6 (.alt 7 (.q 8 .nil) .stop)))))))) mixed (by decide +kernel) (hL.drew.one (i := 1) rfl) ?_; replace hL := hL.drew; conv => whnf) | (refine V.tailA ttOk mixed (by decide +kernel) ?_; replace hL := hL.drew; conv => whnf) | (refine Both.mk ?_ ?_ <;> conv => whnf) | fail)
    intro n1 c1 z1 z2
    have hVl : Vf.length = 8 + lenR Rs := hDl
    have hn8 : n1 = 8 := by omega
    have hr8 : ∀ {y : World} {L : List Res}, Sep Tryz.prog B w0 y (.row 5 1 (.slice (some ⟨ub, uo, none⟩) Vf.length uc) Vf.length (bv Vf) :: L) → Sl y (.slice (some ⟨ub, uo, none⟩) n1 c1) (bv (vhd id)) := fun {y L} h => by
      have hs9 : Sl y (.slice (some ⟨ub, uo, none⟩) Vf.length uc) (bv Vf) := Sl.of_own (show y.ownsRow 0 5 1 _ _ _ from h.at (i := 0) rfl)
      have := hs9.take (k := n1) (c' := c1) (by rw [bv_length]; omega) (by omega) (by omega)
      rw [← bv_take, ← hVV, hn8, List.take_append_of_le_length (by rw [h8]; exact Nat.le_refl _), List.take_of_length_le (by rw [h8]; exact Nat.le_refl _)] at this
      rwa [hn8]
    conv => whnf
    repeat (first | (refine RunH ?_; intro w hL hB; try clear w) | (refine Both.mk ?_ ?_ <;> conv => whnf) | fail)
    refine (append_fn (shN nm) hsz6 _ (vhd id) (fun y hy => hr8 hy) (close (F' := _ :: _ :: _ :: _ :: _ :: F) hL hB)).mono fun e w ⟨he, hD⟩ => ?_
    clear hL hB close
    subst he
    rw [h8]
    obtain ⟨dL, hL, hB, close⟩ := hD.open
    conv => whnf
    refine And.intro (hL.one (i := 1) rfl) ?_
    by_cases hE8 : appE room S (shN nm) 8 = 0
    case neg =>
      have hS8 : appS room S (shN nm) (vhd id) = S := by rw [appS, h8, if_neg hE8]
      rw [hS8] at close hD
      have hfin : ∀ w', DkS B w0 w' d room (delS S (shN nm)) F → BegunJ B w0 d room id nm S Rs F (.tuple #[.pointer none, .int .i64 (appE room S (shN nm) 8 : Nat)]) w' := fun w' h => by
        rw [delS_none (by cases hh : getS S (shN nm) with | none => rfl | some f => rw [hh] at hs; cases hs)] at h
        exact ⟨(fun h9 => by rw [hs] at h9; cases h9), fun _ _ => ⟨rfl, h⟩, fun _ h9 => absurd h9 hE8⟩
      generalize appE room S (shN nm) 8 = E at *
      conv => whnf
      repeat (first | (refine RunH ?_; intro w hL hB; try clear w) | (refine Both.mk ?_ ?_ <;> conv => whnf) | fail)
      refine (remove_fn (shN nm) hsz6 hD).mono fun r w ⟨_, hD⟩ => ?_
      clear hL hB close
      obtain ⟨dL, hL, hB, close⟩ := hD.open
      conv => whnf
      repeat (first | (refine RunH ?_; intro w hL hB; try clear w) | (refine Both.mk ?_ ?_ <;> conv => whnf) | fail)
      exact hfin _ (close (F' := F) (hL.sub (.cons _ (.cons _ (.cons _ (.cons _ (.cons _ (.refl _))))))) hB)
    rw [hE8]
    conv => whnf
    repeat (first | (refine RunH ?_; intro w hL hB; try clear w) | (refine Both.mk ?_ ?_ <;> conv => whnf) | fail)
    have hlq : ls.length = qs.length := hp.length_eq
    refine ⟨(fun h9 => by rw [hs] at h9; cases h9), fun _ h9 => absurd hE8 h9, fun _ _ => ⟨j, .slice ra qs.length rc, ls, hp.trans (hps ▸ hpm), hso, rfl, ⟨ra, rc, ra, by rw [hlq], by rw [hlq, Nat.sub_zero, Nat.sub_zero], fun h0 => ?_⟩, ?_⟩⟩
    · obtain ⟨⟨g, hgg⟩, _⟩ := own_addr (show w.ownsRow 0 87 5 _ _ _ from hL.at (i := 2) rfl) (by omega)
      exact ⟨g, hgg, hgg⟩
    · rw [hlq]
      exact close (F' := _ :: _ :: F) (hL.sub (.cons _ (.cons_cons _ (.cons_cons _ (.cons _ (.cons _ (.refl _))))))) hB
end
end Go.Proofs.YtladfadcgfdbfaaGreatDoor
