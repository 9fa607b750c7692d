/- client: New, Begin. Nothing is claimed here. -/
import Derived.Test.YtcjnaljdbbjojaaGreatDoorClf
namespace Go.Proofs.YtcjnaljdbbjojaaGreatDoor
open Go.RowKit
open Go.Maps (Keyed)
set_option linter.unusedVariables false
set_option linter.unusedSimpArgs false
set_option maxRecDepth 100000

theorem pBeg {α : Type} (a b c d e : α) (R : List α) : (a :: b :: c :: d :: e :: R).Perm (d :: b :: a :: e :: c :: R) :=
  (List.perm_middle (l₁ := [a, b, c])).trans (((List.Perm.swap b a _).trans (((List.Perm.swap e c R).cons a).cons b)).cons d)
theorem pBeg2 {α : Type} (a b c d e f g h : α) (R : List α) : (a :: b :: c :: d :: e :: f :: g :: h :: R).Perm (a :: b :: g :: d :: c :: e :: f :: h :: R) :=
  (((List.perm_middle (l₁ := [c, d, e, f])).trans ((List.Perm.swap d c _).cons g)).cons b).cons a
def cfV : Value := .agg #[.int .i64 3, .int .i64 4, .int .i64 2, .int .i64 2, .int .i64 1, .int .i64 1048576, .int .i64 4096]
theorem config_fn (w0 : World) : Fn Tryz.prog 9 #[] w0 fun r w' => r = cfV ∧ Below w0.heap.size w0 w' := by
  have hL := Sep.start Tryz.prog w0
  have hB := Nat.le_refl w0.heap.size
  unfold cfV
  refine Fn.mk Tryz.func9 rfl (by kernel_rfl) Tryz.ntmps9 rfl (by rw [Tryz.results9]) ?_
  repeat (first | (refine RunH ?_; intro w hL hB; try clear w) | (refine Both.mk ?_ ?_ <;> conv => whnf) | fail)
  (refine Nw.sep hL hB (fun cb w hL hB hcb => ?_); conv => whnf)
  repeat (first | (refine RunH ?_; intro w hL hB; try clear w) | (refine Both.mk ?_ ?_ <;> conv => whnf) | fail)
  exact ⟨rfl, hL.below⟩
theorem may_fn (w0 : World) : Fn Tryz.prog 15 #[cfV] w0 fun r w' => r = .bool true ∧ Below w0.heap.size w0 w' := by
  have hL := Sep.start Tryz.prog w0
  have hB := Nat.le_refl w0.heap.size
  unfold cfV
  refine Fn.mk Tryz.func15 rfl (by kernel_rfl) Tryz.ntmps15 rfl (by rw [Tryz.results15]) ?_
  repeat (first | (refine RunH ?_; intro w hL hB; try clear w) | (refine Both.mk ?_ ?_ <;> conv => whnf) | fail)
  (refine Nw.sep hL hB (fun cb w hL hB hcb => ?_); conv => whnf)
  repeat (first | (refine RunH ?_; intro w hL hB; try clear w) | (refine Both.mk ?_ ?_ <;> conv => whnf) | fail)
  refine (code_fn 2 1 (by decide) (by decide) _).mono fun r w hr => ?_
  obtain ⟨u, hr, _, hbl⟩ := hr
  subst hr
  replace hL := hL.call hB (Turns.of_below hbl)
  replace hB := Nat.le_trans hB hbl.size
  conv => whnf
  repeat (first | (refine RunH ?_; intro w hL hB; try clear w) | (refine Both.mk ?_ ?_ <;> conv => whnf) | (refine (within_fn _ _ _ _).mono fun r w1 hr => ?_; obtain ⟨hr, hw⟩ := hr; subst hr; subst hw; conv => whnf) | fail)
  exact ⟨rfl, hL.below⟩
section
variable {B : Nat} {w0 w : World}
theorem new_fn (R : List Res) (hL : Sep Tryz.prog B w0 w R) (hB : B ≤ w.heap.size) :
    Fn Tryz.prog 8 #[.int .i64 7, cfV] w fun r w' => ∃ cb cm, r = .tuple #[ptrN cb, .int .i64 0] ∧ B ≤ w'.heap.size ∧ Sep Tryz.prog B w0 w' (cR cb 0 0 0 cm (.slice none 0 0) (.slice none 0 0) :: .mp 3 cm [] :: R) := by
  have hmay := fun w => may_fn w
  unfold cfV at hmay ⊢
  refine Fn.mk Tryz.func8 rfl (by kernel_rfl) Tryz.ntmps8 rfl (by rw [Tryz.results8]) ?_
  repeat (first | (refine RunH ?_; intro w hL hB; try clear w) | (refine Both.mk ?_ ?_ <;> conv => whnf) | fail)
  (refine Nw.sep hL hB (fun xb w hL hB hxb => ?_); conv => whnf)
  repeat (first | (refine RunH ?_; intro w hL hB; try clear w) | (refine Both.mk ?_ ?_ <;> conv => whnf) | fail)
  refine (hmay _).mono fun r w hr => ?_
  obtain ⟨hr, hbl⟩ := hr
  subst hr
  replace hL := hL.call hB (Turns.of_below hbl)
  replace hB := Nat.le_trans hB hbl.size
  conv => whnf
  repeat (first | (refine RunH ?_; intro w hL hB; try clear w) | (refine Both.mk ?_ ?_ <;> conv => whnf) | fail)
  refine Nw.sepM hL 3 hB fun cm w hL hB _ => ?_
  conv => whnf
  repeat (first | (refine RunH ?_; intro w hL hB; try clear w) | (refine Both.mk ?_ ?_ <;> conv => whnf) | fail)
  (refine Nw.sep hL hB (fun cb w hL hB hcb => ?_); conv => whnf)
  repeat (first | (refine RunH ?_; intro w hL hB; try clear w) | (refine Both.mk ?_ ?_ <;> conv => whnf) | fail)
  refine ⟨cb, cm, rfl, hB, ?_⟩
  exact hL.sub (((sub1 _ _).cons_cons _).cons_cons _)
def q0 (num kind vol key ck : Int) (xd : Value) (draw : Int) : QS := ⟨num, kind, vol, key, ck, xd, draw, 0, 0, 0, 0, 0, 0, .slice none 0 0, 0, .slice none 0 0, 0, .map none, 0, 0⟩
/-- what Begin leaves -/
def Begun (B : Nat) (w0 : World) (cb cm : Nat) (g bg tk : Int) (qf : Value → QS) (nums : List Int) (d : List UInt8) (R : List Res) (r : Value) (w' : World) : Prop :=
  ∃ qb sm xd ov nv dv, r = .tuple #[.int .i64 (bg + 1), ov, .int .i64 0] ∧ B ≤ w'.heap.size ∧ Sep Tryz.prog B w0 w' (cR cb g (bg + 1) (tk + 1) cm (.slice none 0 0) (.slice none 0 0) :: qR qb { qf xd with master := g, tk := tk + 1, sent := .map (some sm) } :: .mp 3 cm [(.int .i64 (bg + 1), ptrN qb)] :: .mp 3 sm [(.int .i64 g, .bool true)] :: .row 42 5 ov 1 (mC g 50 nv dv) :: nR nv ((tk + 1) :: nums) :: bR dv [] :: bR xd d :: R)
set_option maxHeartbeats 16000000 in
theorem begin_fn (cb cm : Nat) (g bg tk : Int) (kind vol key ck draw : Int) (dv : Value) (d : List UInt8) (R : List Res) (hk : 1 ≤ kind ∧ kind ≤ 3) (hv : kind = 1 ∨ (1 ≤ vol ∧ vol ≤ 99999999)) (hkey : kind = 1 ∨ (1 ≤ key ∧ key ≤ 4611686018427387904)) (hd : bR dv d ∈ R) (hdl : d.length ≤ 65536) (hdr : 0 ≤ draw ∧ draw < 4294967296) (htk : 0 ≤ tk ∧ tk < 1000000) (hg : 0 ≤ g ∧ g ≤ 2) (hbg : 0 ≤ bg ∧ bg < 100000)
    (hL : Sep Tryz.prog B w0 w (cR cb g bg tk cm (.slice none 0 0) (.slice none 0 0) :: .mp 3 cm [] :: R)) (hB : B ≤ w.heap.size) :
    Fn Tryz.prog 10 #[ptrN cb, .agg #[.int .i64 kind, .int .i64 vol, .int .u64 key, .int .u32 ck, dv], .int .i64 draw] w fun r w' =>
      if kind = 1 then Begun B w0 cb cm g bg tk (fun xd => { q0 (bg + 1) kind vol key ck xd draw with step := 0 }) [3, draw] d R r w' else Begun B w0 cb cm g bg tk (fun xd => { q0 (bg + 1) kind vol key ck xd draw with step := 1 }) [4, vol] d R r w' := by
  obtain ⟨da, dc, rfl⟩ := (bR_sl (hL.hold (bR dv d) (mm1 (mm1 hd)))).shape
  rw [bv_length] at hd ⊢
  have h1 : decide (1 ≤ kind ∧ kind ≤ 4) = true := decide_eq_true (by omega)
  have hlen := hL.at (i := 1) rfl
  unfold cR cC at hL
  refine Fn.mk Tryz.func10 rfl (by kernel_rfl) Tryz.ntmps10 rfl (by rw [Tryz.results10]) ?_
  repeat (first | (refine RunH ?_; intro w hL hB; try clear w) | (refine Both.mk ?_ ?_ <;> conv => whnf) | fail)
  (refine Nw.sep hL hB (fun xb w hL hB hxb => ?_); conv => whnf)
  repeat (first | (refine RunH ?_; intro w hL hB; try clear w) | (refine Both.mk ?_ ?_ <;> conv => whnf) | fail)
  (refine Nw.sep hL hB (fun fb w hL hB hfb => ?_); conv => whnf)
  repeat (first | (refine RunH ?_; intro w hL hB; try clear w) | (refine Both.mk ?_ ?_ <;> conv => whnf) | (refine (within_fn _ _ _ _).mono fun r w1 hr => ?_; obtain ⟨hr, hw⟩ := hr; subst hr; subst hw; conv => whnf) | (rw [h1]) | fail)
  rcases (show kind = 1 ∨ kind = 2 ∨ kind = 3 by omega) with hk1 | hk1 | hk1
  · have h2 := h1
    repeat (first | (refine RunH ?_; intro w hL hB; try clear w) | (refine Both.mk ?_ ?_ <;> conv => whnf) | (refine (within_fn _ _ _ _).mono fun r w1 hr => ?_; obtain ⟨hr, hw⟩ := hr; subst hr; subst hw; conv => whnf) | (rw [h2]) | (refine Rv.mlen ttOk tl58 (hL.at (i := 3) rfl) ?_; conv => whnf) | fail)
    refine (clone_fn _ d _ (bR_sl (hL.hold _ (mm4 hd))) (by omega)).mono fun r w hr9 => ?_
    obtain ⟨hown, hbl⟩ := hr9
    replace hL := hL.addRow hB hbl hown
    replace hB := Nat.le_trans hB hbl.size
    obtain ⟨sa, sc, rfl⟩ := (hL.rowN (i := 0) rfl).shape
    clear hown hbl
    conv => whnf
    repeat (first | (refine RunH ?_; intro w hL hB; try clear w) | (refine Both.mk ?_ ?_ <;> conv => whnf) | fail)
    (refine Nw.sep hL hB (fun qb w hL hB hqb => ?_); conv => whnf)
    replace hL : Sep Tryz.prog B w0 w (qR qb (q0 (bg + 1) kind vol key ck (.slice sa d.length sc) draw) :: bR (.slice sa d.length sc) d :: _) := hL
    repeat (first | (refine RunH ?_; intro w hL hB; try clear w) | (refine Both.mk ?_ ?_ <;> conv => whnf) | fail)
    refine Ru.putS ttOk hL intK 5 tl58 rfl (goodS (n := bg + 1) (by omega)) hB fun w l' hput hL hB => ?_
    rw [put_nil hput] at hL
    dsimp only [List.set] at hL
    replace hL := ((hL.sub (L' := _ :: _ :: _ :: _ :: R) (((sub2 _ _ _).cons_cons _).cons_cons _)).nilRow 42 5).perm (pBeg _ _ _ _ _ _)
    replace hL : Sep Tryz.prog B w0 w (cR cb g (bg + 1) tk cm (.slice none 0 0) (.slice none 0 0) :: qR qb (q0 (bg + 1) kind vol key ck (.slice sa d.length sc) draw) :: .row 42 5 (.slice none 0 0) 0 [] :: .mp 3 cm [(.int .i64 (bg + 1), ptrN qb)] :: bR (.slice sa d.length sc) d :: R) := hL
    conv => whnf
    repeat (first | (refine RunH ?_; intro w hL hB; try clear w) | (refine Both.mk ?_ ?_ <;> conv => whnf) | fail)
    refine (begins_fn cb qb cm g (bg + 1) tk (.slice none 0 0) (.slice none 0 0) (q0 (bg + 1) kind vol key ck (.slice sa d.length sc) draw) 0 [] _ htk hg (by omega) hdr hL hB).mono fun r w hr => ?_
    obtain ⟨hr, hS⟩ := hr
    subst hr
    replace hS : if kind = 1 then _ else _ := hS
    rw [if_pos hk1] at hS
    obtain ⟨ov', nv', dv', sm, hB, hL⟩ := hS
    have hov := (show SlN w 5 ov' 1 _ from hL.rowN (i := 2) rfl).shape
    obtain ⟨oa, oc, rfl⟩ := hov
    conv => whnf
    repeat (first | (refine RunH ?_; intro w hL hB; try clear w) | (refine Both.mk ?_ ?_ <;> conv => whnf) | fail)
    refine (went_fn cb cm g (bg + 1) (tk + 1) (.slice none 0 0) (.slice oa 1 oc) _ ⟨_, _, _, rfl⟩ ⟨_, _, _, rfl⟩ hL hB).mono fun r w hr => ?_
    obtain ⟨hr, hB, hL⟩ := hr
    subst hr
    unfold cR cC qR qC at hL
    dsimp only [q0] at hL
    conv => whnf
    repeat (first | (refine RunH ?_; intro w hL hB; try clear w) | (refine Both.mk ?_ ?_ <;> conv => whnf) | fail)
    show (if kind = 1 then (_ : Prop) else _)
    rw [if_pos hk1]
    exact ⟨qb, sm, _, _, nv', dv', rfl, hB, hL.perm (pBeg2 _ _ _ _ _ _ _ _ _)⟩

  · have h2 : decide (1 ≤ vol ∧ vol ≤ 99999999) = true := decide_eq_true (by omega)
    repeat (first | (refine RunH ?_; intro w hL hB; try clear w) | (refine Both.mk ?_ ?_ <;> conv => whnf) | (refine (within_fn _ _ _ _).mono fun r w1 hr => ?_; obtain ⟨hr, hw⟩ := hr; subst hr; subst hw; conv => whnf) | (rw [h2]) | (refine Rv.mlen ttOk tl58 (hL.at (i := 3) rfl) ?_; conv => whnf) | fail)
    refine (clone_fn _ d _ (bR_sl (hL.hold _ (mm4 hd))) (by omega)).mono fun r w hr9 => ?_
    obtain ⟨hown, hbl⟩ := hr9
    replace hL := hL.addRow hB hbl hown
    replace hB := Nat.le_trans hB hbl.size
    obtain ⟨sa, sc, rfl⟩ := (hL.rowN (i := 0) rfl).shape
    clear hown hbl
    conv => whnf
    repeat (first | (refine RunH ?_; intro w hL hB; try clear w) | (refine Both.mk ?_ ?_ <;> conv => whnf) | fail)
    (refine Nw.sep hL hB (fun qb w hL hB hqb => ?_); conv => whnf)
    replace hL : Sep Tryz.prog B w0 w (qR qb (q0 (bg + 1) kind vol key ck (.slice sa d.length sc) draw) :: bR (.slice sa d.length sc) d :: _) := hL
    repeat (first | (refine RunH ?_; intro w hL hB; try clear w) | (refine Both.mk ?_ ?_ <;> conv => whnf) | fail)
    refine Ru.putS ttOk hL intK 5 tl58 rfl (goodS (n := bg + 1) (by omega)) hB fun w l' hput hL hB => ?_
    rw [put_nil hput] at hL
    dsimp only [List.set] at hL
    replace hL := ((hL.sub (L' := _ :: _ :: _ :: _ :: R) (((sub2 _ _ _).cons_cons _).cons_cons _)).nilRow 42 5).perm (pBeg _ _ _ _ _ _)
    replace hL : Sep Tryz.prog B w0 w (cR cb g (bg + 1) tk cm (.slice none 0 0) (.slice none 0 0) :: qR qb (q0 (bg + 1) kind vol key ck (.slice sa d.length sc) draw) :: .row 42 5 (.slice none 0 0) 0 [] :: .mp 3 cm [(.int .i64 (bg + 1), ptrN qb)] :: bR (.slice sa d.length sc) d :: R) := hL
    conv => whnf
    repeat (first | (refine RunH ?_; intro w hL hB; try clear w) | (refine Both.mk ?_ ?_ <;> conv => whnf) | fail)
    refine (begins_fn cb qb cm g (bg + 1) tk (.slice none 0 0) (.slice none 0 0) (q0 (bg + 1) kind vol key ck (.slice sa d.length sc) draw) 0 [] _ htk hg (by omega) hdr hL hB).mono fun r w hr => ?_
    obtain ⟨hr, hS⟩ := hr
    subst hr
    replace hS : if kind = 1 then _ else _ := hS
    rw [if_neg (by omega)] at hS
    obtain ⟨ov', nv', dv', sm, hB, hL⟩ := hS
    have hov := (show SlN w 5 ov' 1 _ from hL.rowN (i := 2) rfl).shape
    obtain ⟨oa, oc, rfl⟩ := hov
    conv => whnf
    repeat (first | (refine RunH ?_; intro w hL hB; try clear w) | (refine Both.mk ?_ ?_ <;> conv => whnf) | fail)
    refine (went_fn cb cm g (bg + 1) (tk + 1) (.slice none 0 0) (.slice oa 1 oc) _ ⟨_, _, _, rfl⟩ ⟨_, _, _, rfl⟩ hL hB).mono fun r w hr => ?_
    obtain ⟨hr, hB, hL⟩ := hr
    subst hr
    unfold cR cC qR qC at hL
    dsimp only [q0] at hL
    conv => whnf
    repeat (first | (refine RunH ?_; intro w hL hB; try clear w) | (refine Both.mk ?_ ?_ <;> conv => whnf) | fail)
    show (if kind = 1 then (_ : Prop) else _)
    rw [if_neg (by omega)]
    exact ⟨qb, sm, _, _, nv', dv', rfl, hB, hL.perm (pBeg2 _ _ _ _ _ _ _ _ _)⟩

  · have h2 : decide (1 ≤ vol ∧ vol ≤ 99999999) = true := decide_eq_true (by omega)
    repeat (first | (refine RunH ?_; intro w hL hB; try clear w) | (refine Both.mk ?_ ?_ <;> conv => whnf) | (refine (within_fn _ _ _ _).mono fun r w1 hr => ?_; obtain ⟨hr, hw⟩ := hr; subst hr; subst hw; conv => whnf) | (rw [h2]) | (refine Rv.mlen ttOk tl58 (hL.at (i := 3) rfl) ?_; conv => whnf) | fail)
    refine (clone_fn _ d _ (bR_sl (hL.hold _ (mm4 hd))) (by omega)).mono fun r w hr9 => ?_
    obtain ⟨hown, hbl⟩ := hr9
    replace hL := hL.addRow hB hbl hown
    replace hB := Nat.le_trans hB hbl.size
    obtain ⟨sa, sc, rfl⟩ := (hL.rowN (i := 0) rfl).shape
    clear hown hbl
    conv => whnf
    repeat (first | (refine RunH ?_; intro w hL hB; try clear w) | (refine Both.mk ?_ ?_ <;> conv => whnf) | fail)
    (refine Nw.sep hL hB (fun qb w hL hB hqb => ?_); conv => whnf)
    replace hL : Sep Tryz.prog B w0 w (qR qb (q0 (bg + 1) kind vol key ck (.slice sa d.length sc) draw) :: bR (.slice sa d.length sc) d :: _) := hL
    repeat (first | (refine RunH ?_; intro w hL hB; try clear w) | (refine Both.mk ?_ ?_ <;> conv => whnf) | fail)
    refine Ru.putS ttOk hL intK 5 tl58 rfl (goodS (n := bg + 1) (by omega)) hB fun w l' hput hL hB => ?_
    rw [put_nil hput] at hL
    dsimp only [List.set] at hL
    replace hL := ((hL.sub (L' := _ :: _ :: _ :: _ :: R) (((sub2 _ _ _).cons_cons _).cons_cons _)).nilRow 42 5).perm (pBeg _ _ _ _ _ _)
    replace hL : Sep Tryz.prog B w0 w (cR cb g (bg + 1) tk cm (.slice none 0 0) (.slice none 0 0) :: qR qb (q0 (bg + 1) kind vol key ck (.slice sa d.length sc) draw) :: .row 42 5 (.slice none 0 0) 0 [] :: .mp 3 cm [(.int .i64 (bg + 1), ptrN qb)] :: bR (.slice sa d.length sc) d :: R) := hL
    conv => whnf
    repeat (first | (refine RunH ?_; intro w hL hB; try clear w) | (refine Both.mk ?_ ?_ <;> conv => whnf) | fail)
    refine (begins_fn cb qb cm g (bg + 1) tk (.slice none 0 0) (.slice none 0 0) (q0 (bg + 1) kind vol key ck (.slice sa d.length sc) draw) 0 [] _ htk hg (by omega) hdr hL hB).mono fun r w hr => ?_
    obtain ⟨hr, hS⟩ := hr
    subst hr
    replace hS : if kind = 1 then _ else _ := hS
    rw [if_neg (by omega)] at hS
    obtain ⟨ov', nv', dv', sm, hB, hL⟩ := hS
    have hov := (show SlN w 5 ov' 1 _ from hL.rowN (i := 2) rfl).shape
    obtain ⟨oa, oc, rfl⟩ := hov
    conv => whnf
    repeat (first | (refine RunH ?_; intro w hL hB; try clear w) | (refine Both.mk ?_ ?_ <;> conv => whnf) | fail)
    refine (went_fn cb cm g (bg + 1) (tk + 1) (.slice none 0 0) (.slice oa 1 oc) _ ⟨_, _, _, rfl⟩ ⟨_, _, _, rfl⟩ hL hB).mono fun r w hr => ?_
    obtain ⟨hr, hB, hL⟩ := hr
    subst hr
    unfold cR cC qR qC at hL
    dsimp only [q0] at hL
    conv => whnf
    repeat (first | (refine RunH ?_; intro w hL hB; try clear w) | (refine Both.mk ?_ ?_ <;> conv => whnf) | fail)
    show (if kind = 1 then (_ : Prop) else _)
    rw [if_neg (by omega)]
    exact ⟨qb, sm, _, _, nv', dv', rfl, hB, hL.perm (pBeg2 _ _ _ _ _ _ _ _ _)⟩

end
end Go.Proofs.YtcjnaljdbbjojaaGreatDoor
