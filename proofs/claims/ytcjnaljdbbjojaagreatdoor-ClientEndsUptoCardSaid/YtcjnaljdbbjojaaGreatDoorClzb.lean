/- client: Begin among calls. Nothing is claimed here. -/
import Derived.Test.YtcjnaljdbbjojaaGreatDoorClza
import Derived.Test.YtcjnaljdbbjojaaGreatDoorClp
namespace Go.Proofs.YtcjnaljdbbjojaaGreatDoor
open Go.RowKit
open Go.Maps (Keyed)
set_option linter.unusedVariables false
set_option linter.unusedSimpArgs false
set_option maxRecDepth 100000

theorem pB9 {α : Type} (c q m s n b p x : α) (A R : List α) : (c :: q :: m :: s :: n :: b :: p :: x :: (A ++ R)).Perm ((c :: p :: ((A ++ [q]) ++ R)) ++ [m, s, n, b, x]) :=
  perm_cnt fun a => by simp only [List.count_append, List.count_cons, List.count_nil]; omega
/-- a call that was begun just now -/
def Fresh (g : Int) (q : QS) : Prop := q.waited = 0 ∧ q.step = (if q.kind = 1 then 0 else 1) ∧ q.master = g ∧ q.tried = 0 ∧ q.writes = 0 ∧ q.pause = 0 ∧ 0 ≤ q.salt ∧ q.salt < 4294967296
theorem put_kbs {qs : List QB} {n : Int} {b : Nat} {l : List (Value × Value)} (hn : ∀ p ∈ qs, p.2.num < n) (h : Put ((kbs qs).map pE) (.int .i64 n) (ptrN b) l) : l = (kbs qs).map pE ++ [pE (n, b)] := by
  have hno : ∀ u, (Value.int .i64 n, u) ∉ (kbs qs).map pE := fun u hu => by
    obtain ⟨x, hx, hxe⟩ := List.mem_map.1 hu
    simp only [pE, iV, Prod.mk.injEq, Value.int.injEq, true_and] at hxe
    obtain ⟨y, hy, rfl⟩ := List.mem_map.1 hx
    have := hn _ hy
    dsimp only at hxe
    omega
  generalize hm : (kbs qs).map pE = m at h hno
  cases h with
  | new h => rfl
  | old A C u h => exact absurd (by rw [h]; simp) (hno u)
theorem kbs_app (qs : List QB) (x : QB) : kbs (qs ++ [x]) = kbs qs ++ [(x.2.num, x.1)] := by simp [kbs]
theorem qRs_app (qs : List QB) (x : QB) : qRs (qs ++ [x]) = qRs qs ++ [qR x.1 x.2] := by simp [qRs]
section
variable {B : Nat} {w0 w : World}
/-- what Begin does -/
def Begun2 (B : Nat) (w0 : World) (cb cm : Nat) (g bg tk : Int) (qs : List QB) (R : List Res) (ok : Bool) (r : Value) (w' : World) : Prop :=
  B ≤ w'.heap.size ∧ ((ok = false ∧ r = .tuple #[.int .i64 0, .slice none 0 0, .int .i64 1] ∧ Sep Tryz.prog B w0 w' (cR cb g bg tk cm (.slice none 0 0) (.slice none 0 0) :: .mp 3 cm ((kbs qs).map pE) :: (qRs qs ++ R))) ∨
    (ok = true ∧ ∃ qb q oa on oc, r = .tuple #[.int .i64 (bg + 1), .slice oa on oc, .int .i64 0] ∧ Fresh g q ∧ q.num = bg + 1 ∧
      Sep Tryz.prog B w0 w' (cR cb g (bg + 1) (tk + 1) cm (.slice none 0 0) (.slice none 0 0) :: .mp 3 cm ((kbs (qs ++ [(qb, q)])).map pE) :: (qRs (qs ++ [(qb, q)]) ++ R))))
set_option maxHeartbeats 32000000 in
theorem begin_many (cb cm : Nat) (g bg tk : Int) (qs : List QB) (kind vol key ck draw : Int) (dv : Value) (d : List UInt8) (R : List Res) (hd : ∀ x, Below B w0 x → Sl x dv (bv d)) (hdl : d.length ≤ 65536) (htk : 0 ≤ tk ∧ tk < 900000) (hg : 0 ≤ g ∧ g ≤ 2) (hbg : 0 ≤ bg ∧ bg < 100000) (hlen : qs.length < 256) (hn : ∀ p ∈ qs, p.2.num < bg + 1)
    (hL : Sep Tryz.prog B w0 w (cR cb g bg tk cm (.slice none 0 0) (.slice none 0 0) :: .mp 3 cm ((kbs qs).map pE) :: (qRs qs ++ R))) (hB : B ≤ w.heap.size) :
    Fn Tryz.prog 10 #[ptrN cb, .agg #[.int .i64 kind, .int .i64 vol, .int .u64 key, .int .u32 ck, dv], .int .i64 draw] w fun r w' => ∃ ok, Begun2 B w0 cb cm g bg tk qs R ok r w' := by
  obtain ⟨da, dc, rfl⟩ := (hd _ hL.below).shape
  have hd2 : ∀ x, Below B w0 x → Sl x (.slice da d.length dc) (bv d) := fun x h => by have := hd x h; rwa [bv_length] at this
  rw [bv_length]
  have hml : ((kbs qs).map pE).length = qs.length := by rw [List.length_map, kbs_len]
  obtain ⟨sl, hsl⟩ : ∃ sl, IntKind.u32.wrap draw = sl := ⟨_, rfl⟩
  have hsl0 : 0 ≤ sl ∧ sl < 4294967296 := by rw [IntKind.wrap_u32] at hsl; omega
  unfold cR cC at hL
  refine Fn.mk Tryz.func10 rfl (by kernel_rfl) Tryz.ntmps10 rfl (by rw [Tryz.results10]) ?_
  repeat (first | (refine RunH ?_; intro w hL hB; try clear w) | (refine Both.mk ?_ ?_ <;> conv => whnf) | fail)
  (refine Nw.sep hL hB (fun xb w hL hB hxb => ?_); conv => whnf)
  repeat (first | (refine RunH ?_; intro w hL hB; try clear w) | (refine Both.mk ?_ ?_ <;> conv => whnf) | fail)
  (refine Nw.sep hL hB (fun fb w hL hB hfb => ?_); conv => whnf)
  by_cases hk : 1 ≤ kind ∧ kind ≤ 4
  case neg =>
    have h1 : decide (1 ≤ kind ∧ kind ≤ 4) = false := decide_eq_false hk
    repeat (first | (refine RunH ?_; intro w hL hB; try clear w) | (refine Both.mk ?_ ?_ <;> conv => whnf) | (refine (within_fn _ _ _ _).mono fun r w1 hr => ?_; obtain ⟨hr, hw⟩ := hr; subst hr; subst hw; conv => whnf) | (rw [h1]) | fail)
    exact ⟨false, hB, .inl ⟨rfl, rfl, hL.tl.tl⟩⟩
  have h1 : decide (1 ≤ kind ∧ kind ≤ 4) = true := decide_eq_true hk
  by_cases hk1 : kind = 1
  · subst hk1
    have h2 := h1
    clear h1
    have h1 : decide ((1 : Int) ≤ 1 ∧ (1 : Int) ≤ 4) = true := by decide
    repeat (first | (refine RunH ?_; intro w hL hB; try clear w) | (refine Both.mk ?_ ?_ <;> conv => whnf) | (refine (within_fn _ _ _ _).mono fun r w1 hr => ?_; obtain ⟨hr, hw⟩ := hr; subst hr; subst hw; conv => whnf) | (rw [h1]) | (rw [h2]) | (refine Rv.mlen ttOk tl58 (hL.at (i := 3) rfl) ?_; rw [hml]; conv => whnf) | fail)
    refine (clone_fn _ d _ (hd2 _ hL.below) (by omega)).mono fun r w hr9 => ?_
    obtain ⟨hown, hbl⟩ := hr9
    replace hL := hL.addRow hB hbl hown
    replace hB := Nat.le_trans hB hbl.size
    obtain ⟨sa, sc, rfl⟩ := (hL.rowN (i := 0) rfl).shape
    clear hown hbl
    conv => whnf
    repeat (first | (refine RunH ?_; intro w hL hB; try clear w) | (refine Both.mk ?_ ?_ <;> conv => whnf) | (refine Ar.mk ?_; rw [hsl]; conv => whnf) | fail)
    (refine Nw.sep hL hB (fun qb w hL hB hqb => ?_); conv => whnf)
    replace hL : Sep Tryz.prog B w0 w (qR qb (q0 (bg + 1) 1 vol key ck (.slice sa d.length sc) sl) :: bR (.slice sa d.length sc) d :: _) := hL
    repeat (first | (refine RunH ?_; intro w hL hB; try clear w) | (refine Both.mk ?_ ?_ <;> conv => whnf) | fail)
    refine Ru.putS ttOk hL intK 5 tl58 rfl (goodS (n := bg + 1) (by omega)) hB fun w l' hput hL hB => ?_
    rw [put_kbs hn hput] at hL
    dsimp only [List.set] at hL
    replace hL := ((hL.sub (L' := _ :: _ :: _ :: _ :: (qRs qs ++ R)) (((sub2 _ _ _).cons_cons _).cons_cons _)).nilRow 42 5).perm (pBeg _ _ _ _ _ _)
    replace hL : Sep Tryz.prog B w0 w (cR cb g (bg + 1) tk cm (.slice none 0 0) (.slice none 0 0) :: qR qb (q0 (bg + 1) 1 vol key ck (.slice sa d.length sc) sl) :: .row 42 5 (.slice none 0 0) 0 [] :: .mp 3 cm ((kbs qs).map pE ++ [pE (bg + 1, qb)]) :: bR (.slice sa d.length sc) d :: (qRs qs ++ R)) := hL
    conv => whnf
    repeat (first | (refine RunH ?_; intro w hL hB; try clear w) | (refine Both.mk ?_ ?_ <;> conv => whnf) | fail)
    refine (begins_fn cb qb cm g (bg + 1) tk (.slice none 0 0) (.slice none 0 0) (q0 (bg + 1) 1 vol key ck (.slice sa d.length sc) sl) 0 [] _ (by omega) hg (by omega) hsl0 hL hB).mono fun r w hr => ?_
    obtain ⟨hr, hS⟩ := hr
    subst hr
    obtain ⟨ov', nv', dv', sm, hB, hL⟩ := begun_one hS
    have hov := (show SlN w 5 ov' 1 _ from hL.rowN (i := 2) rfl).shape
    obtain ⟨oa, oc, rfl⟩ := hov
    conv => whnf
    repeat (first | (refine RunH ?_; intro w hL hB; try clear w) | (refine Both.mk ?_ ?_ <;> conv => whnf) | fail)
    refine (went_fn cb cm g (bg + 1) (tk + 1) (.slice none 0 0) (.slice oa 1 oc) _ ⟨_, _, _, rfl⟩ ⟨_, _, _, rfl⟩ hL hB).mono fun r w hr => ?_
    obtain ⟨hr, hB, hL⟩ := hr
    subst hr
    have hL2 := (hL.perm (pB9 _ _ _ _ _ _ _ _ _ _)).sub (List.sublist_append_left _ _)
    unfold cR cC qR qC at hL
    dsimp only [q0] at hL
    conv => whnf
    repeat (first | (refine RunH ?_; intro w hL hB; try clear w) | (refine Both.mk ?_ ?_ <;> conv => whnf) | fail)
    refine ⟨true, hB, .inr ⟨rfl, qb, { q0 (bg + 1) 1 vol key ck (.slice sa d.length sc) sl with step := if (1 : Int) = 1 then 0 else 1, waited := 0, tk := tk + 1, sent := .map (some sm), master := g }, oa, 1, oc, rfl, ?_, ?_, ?hsep⟩⟩
    case hsep =>
      rw [kbs_app, List.map_append, qRs_app]
      exact hL2
    · exact ⟨rfl, rfl, rfl, rfl, rfl, rfl, hsl0.1, hsl0.2⟩
    · rfl
  by_cases hv : 1 ≤ vol ∧ vol ≤ 99999999
  case neg =>
    have h2 : decide (1 ≤ vol ∧ vol ≤ 99999999) = false := decide_eq_false hv
    repeat (first | (refine RunH ?_; intro w hL hB; try clear w) | (refine Both.mk ?_ ?_ <;> conv => whnf) | (refine (within_fn _ _ _ _).mono fun r w1 hr => ?_; obtain ⟨hr, hw⟩ := hr; subst hr; subst hw; conv => whnf) | (rw [h1]) | (rw [h2]) | fail)
    exact ⟨false, hB, .inl ⟨rfl, rfl, hL.tl.tl⟩⟩
  have h2 : decide (1 ≤ vol ∧ vol ≤ 99999999) = true := decide_eq_true hv
  by_cases hy : key < 1
  · repeat (first | (refine RunH ?_; intro w hL hB; try clear w) | (refine Both.mk ?_ ?_ <;> conv => whnf) | (refine (within_fn _ _ _ _).mono fun r w1 hr => ?_; obtain ⟨hr, hw⟩ := hr; subst hr; subst hw; conv => whnf) | (rw [h1]) | (rw [h2]) | fail)
    exact ⟨false, hB, .inl ⟨rfl, rfl, hL.tl.tl⟩⟩
  by_cases hy2 : 4611686018427387904 < key
  · repeat (first | (refine RunH ?_; intro w hL hB; try clear w) | (refine Both.mk ?_ ?_ <;> conv => whnf) | (refine (within_fn _ _ _ _).mono fun r w1 hr => ?_; obtain ⟨hr, hw⟩ := hr; subst hr; subst hw; conv => whnf) | (rw [h1]) | (rw [h2]) | fail)
    exact ⟨false, hB, .inl ⟨rfl, rfl, hL.tl.tl⟩⟩
  by_cases hk2 : kind = 2
  · skip
    repeat (first | (refine RunH ?_; intro w hL hB; try clear w) | (refine Both.mk ?_ ?_ <;> conv => whnf) | (refine (within_fn _ _ _ _).mono fun r w1 hr => ?_; obtain ⟨hr, hw⟩ := hr; subst hr; subst hw; conv => whnf) | (rw [h1]) | (rw [h2]) | (refine Rv.mlen ttOk tl58 (hL.at (i := 3) rfl) ?_; rw [hml]; conv => whnf) | fail)
    refine (clone_fn _ d _ (hd2 _ hL.below) (by omega)).mono fun r w hr9 => ?_
    obtain ⟨hown, hbl⟩ := hr9
    replace hL := hL.addRow hB hbl hown
    replace hB := Nat.le_trans hB hbl.size
    obtain ⟨sa, sc, rfl⟩ := (hL.rowN (i := 0) rfl).shape
    clear hown hbl
    conv => whnf
    repeat (first | (refine RunH ?_; intro w hL hB; try clear w) | (refine Both.mk ?_ ?_ <;> conv => whnf) | (refine Ar.mk ?_; rw [hsl]; conv => whnf) | fail)
    (refine Nw.sep hL hB (fun qb w hL hB hqb => ?_); conv => whnf)
    replace hL : Sep Tryz.prog B w0 w (qR qb (q0 (bg + 1) kind vol key ck (.slice sa d.length sc) sl) :: bR (.slice sa d.length sc) d :: _) := hL
    repeat (first | (refine RunH ?_; intro w hL hB; try clear w) | (refine Both.mk ?_ ?_ <;> conv => whnf) | fail)
    refine Ru.putS ttOk hL intK 5 tl58 rfl (goodS (n := bg + 1) (by omega)) hB fun w l' hput hL hB => ?_
    rw [put_kbs hn hput] at hL
    dsimp only [List.set] at hL
    replace hL := ((hL.sub (L' := _ :: _ :: _ :: _ :: (qRs qs ++ R)) (((sub2 _ _ _).cons_cons _).cons_cons _)).nilRow 42 5).perm (pBeg _ _ _ _ _ _)
    replace hL : Sep Tryz.prog B w0 w (cR cb g (bg + 1) tk cm (.slice none 0 0) (.slice none 0 0) :: qR qb (q0 (bg + 1) kind vol key ck (.slice sa d.length sc) sl) :: .row 42 5 (.slice none 0 0) 0 [] :: .mp 3 cm ((kbs qs).map pE ++ [pE (bg + 1, qb)]) :: bR (.slice sa d.length sc) d :: (qRs qs ++ R)) := hL
    conv => whnf
    repeat (first | (refine RunH ?_; intro w hL hB; try clear w) | (refine Both.mk ?_ ?_ <;> conv => whnf) | fail)
    refine (begins_fn cb qb cm g (bg + 1) tk (.slice none 0 0) (.slice none 0 0) (q0 (bg + 1) kind vol key ck (.slice sa d.length sc) sl) 0 [] _ (by omega) hg (by omega) hsl0 hL hB).mono fun r w hr => ?_
    obtain ⟨hr, hS⟩ := hr
    subst hr
    obtain ⟨ov', nv', dv', sm, hB, hL⟩ := begun_one hS
    have hov := (show SlN w 5 ov' 1 _ from hL.rowN (i := 2) rfl).shape
    obtain ⟨oa, oc, rfl⟩ := hov
    conv => whnf
    repeat (first | (refine RunH ?_; intro w hL hB; try clear w) | (refine Both.mk ?_ ?_ <;> conv => whnf) | fail)
    refine (went_fn cb cm g (bg + 1) (tk + 1) (.slice none 0 0) (.slice oa 1 oc) _ ⟨_, _, _, rfl⟩ ⟨_, _, _, rfl⟩ hL hB).mono fun r w hr => ?_
    obtain ⟨hr, hB, hL⟩ := hr
    subst hr
    have hL2 := (hL.perm (pB9 _ _ _ _ _ _ _ _ _ _)).sub (List.sublist_append_left _ _)
    unfold cR cC qR qC at hL
    dsimp only [q0] at hL
    conv => whnf
    repeat (first | (refine RunH ?_; intro w hL hB; try clear w) | (refine Both.mk ?_ ?_ <;> conv => whnf) | fail)
    refine ⟨true, hB, .inr ⟨rfl, qb, { q0 (bg + 1) kind vol key ck (.slice sa d.length sc) sl with step := if (kind : Int) = 1 then 0 else 1, waited := 0, tk := tk + 1, sent := .map (some sm), master := g }, oa, 1, oc, rfl, ?_, ?_, ?hsep⟩⟩
    case hsep =>
      rw [kbs_app, List.map_append, qRs_app]
      exact hL2
    · exact ⟨rfl, rfl, rfl, rfl, rfl, rfl, hsl0.1, hsl0.2⟩
    · rfl
  · skip
    repeat (first | (refine RunH ?_; intro w hL hB; try clear w) | (refine Both.mk ?_ ?_ <;> conv => whnf) | (refine (within_fn _ _ _ _).mono fun r w1 hr => ?_; obtain ⟨hr, hw⟩ := hr; subst hr; subst hw; conv => whnf) | (rw [h1]) | (rw [h2]) | (refine Rv.mlen ttOk tl58 (hL.at (i := 3) rfl) ?_; rw [hml]; conv => whnf) | fail)
    refine (clone_fn _ d _ (hd2 _ hL.below) (by omega)).mono fun r w hr9 => ?_
    obtain ⟨hown, hbl⟩ := hr9
    replace hL := hL.addRow hB hbl hown
    replace hB := Nat.le_trans hB hbl.size
    obtain ⟨sa, sc, rfl⟩ := (hL.rowN (i := 0) rfl).shape
    clear hown hbl
    conv => whnf
    repeat (first | (refine RunH ?_; intro w hL hB; try clear w) | (refine Both.mk ?_ ?_ <;> conv => whnf) | (refine Ar.mk ?_; rw [hsl]; conv => whnf) | fail)
    (refine Nw.sep hL hB (fun qb w hL hB hqb => ?_); conv => whnf)
    replace hL : Sep Tryz.prog B w0 w (qR qb (q0 (bg + 1) kind vol key ck (.slice sa d.length sc) sl) :: bR (.slice sa d.length sc) d :: _) := hL
    repeat (first | (refine RunH ?_; intro w hL hB; try clear w) | (refine Both.mk ?_ ?_ <;> conv => whnf) | fail)
    refine Ru.putS ttOk hL intK 5 tl58 rfl (goodS (n := bg + 1) (by omega)) hB fun w l' hput hL hB => ?_
    rw [put_kbs hn hput] at hL
    dsimp only [List.set] at hL
    replace hL := ((hL.sub (L' := _ :: _ :: _ :: _ :: (qRs qs ++ R)) (((sub2 _ _ _).cons_cons _).cons_cons _)).nilRow 42 5).perm (pBeg _ _ _ _ _ _)
    replace hL : Sep Tryz.prog B w0 w (cR cb g (bg + 1) tk cm (.slice none 0 0) (.slice none 0 0) :: qR qb (q0 (bg + 1) kind vol key ck (.slice sa d.length sc) sl) :: .row 42 5 (.slice none 0 0) 0 [] :: .mp 3 cm ((kbs qs).map pE ++ [pE (bg + 1, qb)]) :: bR (.slice sa d.length sc) d :: (qRs qs ++ R)) := hL
    conv => whnf
    repeat (first | (refine RunH ?_; intro w hL hB; try clear w) | (refine Both.mk ?_ ?_ <;> conv => whnf) | fail)
    refine (begins_fn cb qb cm g (bg + 1) tk (.slice none 0 0) (.slice none 0 0) (q0 (bg + 1) kind vol key ck (.slice sa d.length sc) sl) 0 [] _ (by omega) hg (by omega) hsl0 hL hB).mono fun r w hr => ?_
    obtain ⟨hr, hS⟩ := hr
    subst hr
    obtain ⟨ov', nv', dv', sm, hB, hL⟩ := begun_one hS
    have hov := (show SlN w 5 ov' 1 _ from hL.rowN (i := 2) rfl).shape
    obtain ⟨oa, oc, rfl⟩ := hov
    conv => whnf
    repeat (first | (refine RunH ?_; intro w hL hB; try clear w) | (refine Both.mk ?_ ?_ <;> conv => whnf) | fail)
    refine (went_fn cb cm g (bg + 1) (tk + 1) (.slice none 0 0) (.slice oa 1 oc) _ ⟨_, _, _, rfl⟩ ⟨_, _, _, rfl⟩ hL hB).mono fun r w hr => ?_
    obtain ⟨hr, hB, hL⟩ := hr
    subst hr
    have hL2 := (hL.perm (pB9 _ _ _ _ _ _ _ _ _ _)).sub (List.sublist_append_left _ _)
    unfold cR cC qR qC at hL
    dsimp only [q0] at hL
    conv => whnf
    repeat (first | (refine RunH ?_; intro w hL hB; try clear w) | (refine Both.mk ?_ ?_ <;> conv => whnf) | fail)
    refine ⟨true, hB, .inr ⟨rfl, qb, { q0 (bg + 1) kind vol key ck (.slice sa d.length sc) sl with step := if (kind : Int) = 1 then 0 else 1, waited := 0, tk := tk + 1, sent := .map (some sm), master := g }, oa, 1, oc, rfl, ?_, ?_, ?hsep⟩⟩
    case hsep =>
      rw [kbs_app, List.map_append, qRs_app]
      exact hL2
    · exact ⟨rfl, rfl, rfl, rfl, rfl, rfl, hsl0.1, hsl0.2⟩
    · rfl
end
end Go.Proofs.YtcjnaljdbbjojaaGreatDoor
