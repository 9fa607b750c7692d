/- client: Begin with bytes that came in; rows among what is one's own. Nothing is claimed here. -/
import Derived.Test.YtcjnaljdbbjojaaGreatDoorClk
import Derived.Test.YtcjnaljdbbjojaaGreatDoorLs
namespace Go.Proofs.YtcjnaljdbbjojaaGreatDoor
open Go.RowKit
open Go.Maps (Keyed)
set_option linter.unusedVariables false
set_option linter.unusedSimpArgs false
set_option maxRecDepth 100000

theorem Sep.mrow {P : Program} {B : Nat} {w0 x : World} {L : List Res} {e : TypeId} {sz b o n c m : Nat} {xs : List Value} (h : Sep P B w0 x L) (hm : Res.row e sz (.slice (some ⟨b, o, none⟩) n c) m xs ∈ L) : Row x b o xs := (SlN.of_own (show x.ownsRow 0 e sz _ m xs from h.hold _ hm)).rowOf
section
variable {B : Nat} {w0 w : World}
set_option maxHeartbeats 16000000 in
theorem begin_arg (cb cm : Nat) (g bg tk : Int) (kind vol key ck draw : Int) (dv : Value) (d : List UInt8) (R : List Res) (hk : 1 ≤ kind ∧ kind ≤ 3) (hv : kind = 1 ∨ (1 ≤ vol ∧ vol ≤ 99999999)) (hkey : kind = 1 ∨ (1 ≤ key ∧ key ≤ 4611686018427387904)) (hd : ∀ x, Below B w0 x → Sl x dv (bv d)) (hdl : d.length ≤ 65536) (hdr : 0 ≤ draw ∧ draw < 4294967296) (htk : 0 ≤ tk ∧ tk < 1000000) (hg : 0 ≤ g ∧ g ≤ 2) (hbg : 0 ≤ bg ∧ bg < 100000)
    (hL : Sep Tryz.prog B w0 w (cR cb g bg tk cm (.slice none 0 0) (.slice none 0 0) :: .mp 3 cm [] :: R)) (hB : B ≤ w.heap.size) :
    Fn Tryz.prog 10 #[ptrN cb, .agg #[.int .i64 kind, .int .i64 vol, .int .u64 key, .int .u32 ck, dv], .int .i64 draw] w fun r w' =>
      if kind = 1 then Begun B w0 cb cm g bg tk (fun xd => { q0 (bg + 1) kind vol key ck xd draw with step := 0 }) [3, draw] d R r w' else Begun B w0 cb cm g bg tk (fun xd => { q0 (bg + 1) kind vol key ck xd draw with step := 1 }) [4, vol] d R r w' := by
  obtain ⟨da, dc, rfl⟩ := (hd _ hL.below).shape
  have hd2 : ∀ x, Below B w0 x → Sl x (.slice da d.length dc) (bv d) := fun x h => by have := hd x h; rwa [bv_length] at this
  rw [bv_length]
  have h1 : decide (1 ≤ kind ∧ kind ≤ 4) = true := decide_eq_true (by omega)
  have hlen := hL.at (i := 1) rfl
  unfold cR cC at hL
  refine Fn.mk Tryz.func10 rfl (by kernel_rfl) Tryz.ntmps10 rfl (by rw [Tryz.results10]) ?_
  repeat (first | (refine RunH ?_; intro w hL hB; try clear w) | (refine Both.mk ?_ ?_ <;> conv => whnf) | fail)
  (refine Nw.sep hL hB (fun xb w hL hB hxb => ?_); conv => whnf)
  repeat (first | (refine RunH ?_; intro w hL hB; try clear w) | (refine Both.mk ?_ ?_ <;> conv => whnf) | fail)
  (refine Nw.sep hL hB (fun fb w hL hB hfb => ?_); conv => whnf)
  repeat (first | (refine RunH ?_; intro w hL hB; try clear w) | (refine Both.mk ?_ ?_ <;> conv => whnf) | (refine (within_fn _ _ _ _).mono fun r w1 hr => ?_; obtain ⟨hr, hw⟩ := hr; subst hr; subst hw; conv => whnf) | (rw [h1]) | fail)
  rcases (show kind = 1 ∨ kind = 2 ∨ kind = 3 by omega) with hk1 | hk1 | hk1
  · have h2 := h1
    repeat (first | (refine RunH ?_; intro w hL hB; try clear w) | (refine Both.mk ?_ ?_ <;> conv => whnf) | (refine (within_fn _ _ _ _).mono fun r w1 hr => ?_; obtain ⟨hr, hw⟩ := hr; subst hr; subst hw; conv => whnf) | (rw [h2]) | (refine Rv.mlen ttOk tl58 (hL.at (i := 3) rfl) ?_; conv => whnf) | fail)
    refine (clone_fn _ d _ (hd2 _ hL.below) (by omega)).mono fun r w hr9 => ?_
    obtain ⟨hown, hbl⟩ := hr9
    replace hL := hL.addRow hB hbl hown
    replace hB := Nat.le_trans hB hbl.size
    obtain ⟨sa, sc, rfl⟩ := (hL.rowN (i := 0) rfl).shape
    clear hown hbl
    conv => whnf
    repeat (first | (refine RunH ?_; intro w hL hB; try clear w) | (refine Both.mk ?_ ?_ <;> conv => whnf) | fail)
    (refine Nw.sep hL hB (fun qb w hL hB hqb => ?_); conv => whnf)
    replace hL : Sep Tryz.prog B w0 w (qR qb (q0 (bg + 1) kind vol key ck (.slice sa d.length sc) draw) :: bR (.slice sa d.length sc) d :: _) := hL
    repeat (first | (refine RunH ?_; intro w hL hB; try clear w) | (refine Both.mk ?_ ?_ <;> conv => whnf) | fail)
    refine Ru.putS ttOk hL intK 5 tl58 rfl (goodS (n := bg + 1) (by omega)) hB fun w l' hput hL hB => ?_
    rw [put_nil hput] at hL
    dsimp only [List.set] at hL
    replace hL := ((hL.sub (L' := _ :: _ :: _ :: _ :: R) (((sub2 _ _ _).cons_cons _).cons_cons _)).nilRow 42 5).perm (pBeg _ _ _ _ _ _)
    replace hL : Sep Tryz.prog B w0 w (cR cb g (bg + 1) tk cm (.slice none 0 0) (.slice none 0 0) :: qR qb (q0 (bg + 1) kind vol key ck (.slice sa d.length sc) draw) :: .row 42 5 (.slice none 0 0) 0 [] :: .mp 3 cm [(.int .i64 (bg + 1), ptrN qb)] :: bR (.slice sa d.length sc) d :: R) := hL
    conv => whnf
    repeat (first | (refine RunH ?_; intro w hL hB; try clear w) | (refine Both.mk ?_ ?_ <;> conv => whnf) | fail)
    refine (begins_fn cb qb cm g (bg + 1) tk (.slice none 0 0) (.slice none 0 0) (q0 (bg + 1) kind vol key ck (.slice sa d.length sc) draw) 0 [] _ htk hg (by omega) hdr hL hB).mono fun r w hr => ?_
    obtain ⟨hr, hS⟩ := hr
    subst hr
    replace hS : if kind = 1 then _ else _ := hS
    rw [if_pos hk1] at hS
    obtain ⟨ov', nv', dv', sm, hB, hL⟩ := hS
    have hov := (show SlN w 5 ov' 1 _ from hL.rowN (i := 2) rfl).shape
    obtain ⟨oa, oc, rfl⟩ := hov
    conv => whnf
    repeat (first | (refine RunH ?_; intro w hL hB; try clear w) | (refine Both.mk ?_ ?_ <;> conv => whnf) | fail)
    refine (went_fn cb cm g (bg + 1) (tk + 1) (.slice none 0 0) (.slice oa 1 oc) _ ⟨_, _, _, rfl⟩ ⟨_, _, _, rfl⟩ hL hB).mono fun r w hr => ?_
    obtain ⟨hr, hB, hL⟩ := hr
    subst hr
    unfold cR cC qR qC at hL
    dsimp only [q0] at hL
    conv => whnf
    repeat (first | (refine RunH ?_; intro w hL hB; try clear w) | (refine Both.mk ?_ ?_ <;> conv => whnf) | fail)
    show (if kind = 1 then (_ : Prop) else _)
    rw [if_pos hk1]
    exact ⟨qb, sm, _, _, nv', dv', rfl, hB, hL.perm (pBeg2 _ _ _ _ _ _ _ _ _)⟩

  · have h2 : decide (1 ≤ vol ∧ vol ≤ 99999999) = true := decide_eq_true (by omega)
    repeat (first | (refine RunH ?_; intro w hL hB; try clear w) | (refine Both.mk ?_ ?_ <;> conv => whnf) | (refine (within_fn _ _ _ _).mono fun r w1 hr => ?_; obtain ⟨hr, hw⟩ := hr; subst hr; subst hw; conv => whnf) | (rw [h2]) | (refine Rv.mlen ttOk tl58 (hL.at (i := 3) rfl) ?_; conv => whnf) | fail)
    refine (clone_fn _ d _ (hd2 _ hL.below) (by omega)).mono fun r w hr9 => ?_
    obtain ⟨hown, hbl⟩ := hr9
    replace hL := hL.addRow hB hbl hown
    replace hB := Nat.le_trans hB hbl.size
    obtain ⟨sa, sc, rfl⟩ := (hL.rowN (i := 0) rfl).shape
    clear hown hbl
    conv => whnf
    repeat (first | (refine RunH ?_; intro w hL hB; try clear w) | (refine Both.mk ?_ ?_ <;> conv => whnf) | fail)
    (refine Nw.sep hL hB (fun qb w hL hB hqb => ?_); conv => whnf)
    replace hL : Sep Tryz.prog B w0 w (qR qb (q0 (bg + 1) kind vol key ck (.slice sa d.length sc) draw) :: bR (.slice sa d.length sc) d :: _) := hL
    repeat (first | (refine RunH ?_; intro w hL hB; try clear w) | (refine Both.mk ?_ ?_ <;> conv => whnf) | fail)
    refine Ru.putS ttOk hL intK 5 tl58 rfl (goodS (n := bg + 1) (by omega)) hB fun w l' hput hL hB => ?_
    rw [put_nil hput] at hL
    dsimp only [List.set] at hL
    replace hL := ((hL.sub (L' := _ :: _ :: _ :: _ :: R) (((sub2 _ _ _).cons_cons _).cons_cons _)).nilRow 42 5).perm (pBeg _ _ _ _ _ _)
    replace hL : Sep Tryz.prog B w0 w (cR cb g (bg + 1) tk cm (.slice none 0 0) (.slice none 0 0) :: qR qb (q0 (bg + 1) kind vol key ck (.slice sa d.length sc) draw) :: .row 42 5 (.slice none 0 0) 0 [] :: .mp 3 cm [(.int .i64 (bg + 1), ptrN qb)] :: bR (.slice sa d.length sc) d :: R) := hL
    conv => whnf
    repeat (first | (refine RunH ?_; intro w hL hB; try clear w) | (refine Both.mk ?_ ?_ <;> conv => whnf) | fail)
    refine (begins_fn cb qb cm g (bg + 1) tk (.slice none 0 0) (.slice none 0 0) (q0 (bg + 1) kind vol key ck (.slice sa d.length sc) draw) 0 [] _ htk hg (by omega) hdr hL hB).mono fun r w hr => ?_
    obtain ⟨hr, hS⟩ := hr
    subst hr
    replace hS : if kind = 1 then _ else _ := hS
    rw [if_neg (by omega)] at hS
    obtain ⟨ov', nv', dv', sm, hB, hL⟩ := hS
    have hov := (show SlN w 5 ov' 1 _ from hL.rowN (i := 2) rfl).shape
    obtain ⟨oa, oc, rfl⟩ := hov
    conv => whnf
    repeat (first | (refine RunH ?_; intro w hL hB; try clear w) | (refine Both.mk ?_ ?_ <;> conv => whnf) | fail)
    refine (went_fn cb cm g (bg + 1) (tk + 1) (.slice none 0 0) (.slice oa 1 oc) _ ⟨_, _, _, rfl⟩ ⟨_, _, _, rfl⟩ hL hB).mono fun r w hr => ?_
    obtain ⟨hr, hB, hL⟩ := hr
    subst hr
    unfold cR cC qR qC at hL
    dsimp only [q0] at hL
    conv => whnf
    repeat (first | (refine RunH ?_; intro w hL hB; try clear w) | (refine Both.mk ?_ ?_ <;> conv => whnf) | fail)
    show (if kind = 1 then (_ : Prop) else _)
    rw [if_neg (by omega)]
    exact ⟨qb, sm, _, _, nv', dv', rfl, hB, hL.perm (pBeg2 _ _ _ _ _ _ _ _ _)⟩

  · have h2 : decide (1 ≤ vol ∧ vol ≤ 99999999) = true := decide_eq_true (by omega)
    repeat (first | (refine RunH ?_; intro w hL hB; try clear w) | (refine Both.mk ?_ ?_ <;> conv => whnf) | (refine (within_fn _ _ _ _).mono fun r w1 hr => ?_; obtain ⟨hr, hw⟩ := hr; subst hr; subst hw; conv => whnf) | (rw [h2]) | (refine Rv.mlen ttOk tl58 (hL.at (i := 3) rfl) ?_; conv => whnf) | fail)
    refine (clone_fn _ d _ (hd2 _ hL.below) (by omega)).mono fun r w hr9 => ?_
    obtain ⟨hown, hbl⟩ := hr9
    replace hL := hL.addRow hB hbl hown
    replace hB := Nat.le_trans hB hbl.size
    obtain ⟨sa, sc, rfl⟩ := (hL.rowN (i := 0) rfl).shape
    clear hown hbl
    conv => whnf
    repeat (first | (refine RunH ?_; intro w hL hB; try clear w) | (refine Both.mk ?_ ?_ <;> conv => whnf) | fail)
    (refine Nw.sep hL hB (fun qb w hL hB hqb => ?_); conv => whnf)
    replace hL : Sep Tryz.prog B w0 w (qR qb (q0 (bg + 1) kind vol key ck (.slice sa d.length sc) draw) :: bR (.slice sa d.length sc) d :: _) := hL
    repeat (first | (refine RunH ?_; intro w hL hB; try clear w) | (refine Both.mk ?_ ?_ <;> conv => whnf) | fail)
    refine Ru.putS ttOk hL intK 5 tl58 rfl (goodS (n := bg + 1) (by omega)) hB fun w l' hput hL hB => ?_
    rw [put_nil hput] at hL
    dsimp only [List.set] at hL
    replace hL := ((hL.sub (L' := _ :: _ :: _ :: _ :: R) (((sub2 _ _ _).cons_cons _).cons_cons _)).nilRow 42 5).perm (pBeg _ _ _ _ _ _)
    replace hL : Sep Tryz.prog B w0 w (cR cb g (bg + 1) tk cm (.slice none 0 0) (.slice none 0 0) :: qR qb (q0 (bg + 1) kind vol key ck (.slice sa d.length sc) draw) :: .row 42 5 (.slice none 0 0) 0 [] :: .mp 3 cm [(.int .i64 (bg + 1), ptrN qb)] :: bR (.slice sa d.length sc) d :: R) := hL
    conv => whnf
    repeat (first | (refine RunH ?_; intro w hL hB; try clear w) | (refine Both.mk ?_ ?_ <;> conv => whnf) | fail)
    refine (begins_fn cb qb cm g (bg + 1) tk (.slice none 0 0) (.slice none 0 0) (q0 (bg + 1) kind vol key ck (.slice sa d.length sc) draw) 0 [] _ htk hg (by omega) hdr hL hB).mono fun r w hr => ?_
    obtain ⟨hr, hS⟩ := hr
    subst hr
    replace hS : if kind = 1 then _ else _ := hS
    rw [if_neg (by omega)] at hS
    obtain ⟨ov', nv', dv', sm, hB, hL⟩ := hS
    have hov := (show SlN w 5 ov' 1 _ from hL.rowN (i := 2) rfl).shape
    obtain ⟨oa, oc, rfl⟩ := hov
    conv => whnf
    repeat (first | (refine RunH ?_; intro w hL hB; try clear w) | (refine Both.mk ?_ ?_ <;> conv => whnf) | fail)
    refine (went_fn cb cm g (bg + 1) (tk + 1) (.slice none 0 0) (.slice oa 1 oc) _ ⟨_, _, _, rfl⟩ ⟨_, _, _, rfl⟩ hL hB).mono fun r w hr => ?_
    obtain ⟨hr, hB, hL⟩ := hr
    subst hr
    unfold cR cC qR qC at hL
    dsimp only [q0] at hL
    conv => whnf
    repeat (first | (refine RunH ?_; intro w hL hB; try clear w) | (refine Both.mk ?_ ?_ <;> conv => whnf) | fail)
    show (if kind = 1 then (_ : Prop) else _)
    rw [if_neg (by omega)]
    exact ⟨qb, sm, _, _, nv', dv', rfl, hB, hL.perm (pBeg2 _ _ _ _ _ _ _ _ _)⟩

end
end Go.Proofs.YtcjnaljdbbjojaaGreatDoor
