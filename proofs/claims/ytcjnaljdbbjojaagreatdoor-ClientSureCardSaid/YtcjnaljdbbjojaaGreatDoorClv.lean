/- client: Tick of one call; told. Nothing is claimed here. -/
import Derived.Test.YtcjnaljdbbjojaaGreatDoorClu
import Derived.Test.YtcjnaljdbbjojaaGreatDoorClp
namespace Go.Proofs.YtcjnaljdbbjojaaGreatDoor
open Go.RowKit
open Go.Maps (Keyed)
set_option linter.unusedVariables false
set_option linter.unusedSimpArgs false
set_option maxRecDepth 100000

theorem BL.none {g tk : Int} {l : List QB} {qs' : List QB} {ms : List Value} {acc : List Res} (h : BL g tk l qs' ms acc) (hl : l = []) : qs' = [] ∧ ms = [] ∧ acc = [] := by
  induction h with
  | nil => exact ⟨rfl, rfl, rfl⟩
  | snoc dn dn' ms acc b q nv dv sm h ih => simp at hl
theorem BL.one {g tk : Int} {b : Nat} {q : QS} {qs' : List QB} {ms : List Value} {acc : List Res} (h : BL g tk [(b, q)] qs' ms acc) :
    ∃ nv dv sm, qs' = [(b, { q with step := if q.kind = 1 then 0 else 1, waited := 0, tk := tk + 1, sent := .map (some sm), master := g })] ∧ ms = mC g 50 nv dv ∧ acc = [.mp 3 sm [(.int .i64 g, .bool true)], nR nv ((tk + 1) :: (if q.kind = 1 then [3, q.salt] else [4, q.vol])), bR dv []] := by
  generalize hm : [(b, q)] = m at h
  cases h with
  | nil => cases hm
  | snoc dn dn' ms acc b2 q2 nv dv sm h =>
    cases dn with
    | nil =>
      obtain ⟨rfl, rfl, rfl⟩ := h.none rfl
      simp only [List.nil_append, List.cons.injEq, Prod.mk.injEq, and_true] at hm
      obtain ⟨rfl, rfl⟩ := hm
      refine ⟨nv, dv, sm, ?_, ?_, ?_⟩ <;> simp
    | cons a dn => simp at hm
section
variable {B : Nat} {w0 w : World}
theorem tick1_idle (cb cm qb : Nat) (g bg tk : Int) (q : QS) (R : List Res) (hnum : 0 ≤ q.num ∧ q.num ≤ 1000000) (hI : Idle q)
    (hL : Sep Tryz.prog B w0 w (cR cb g bg tk cm (.slice none 0 0) (.slice none 0 0) :: qR qb q :: .mp 3 cm [(.int .i64 q.num, ptrN qb)] :: R)) (hB : B ≤ w.heap.size) :
    Fn Tryz.prog 12 #[ptrN cb] w fun r w' => r = .tuple #[.slice none 0 0, .slice none 0 0] ∧ B ≤ w'.heap.size ∧
      Sep Tryz.prog B w0 w' (cR cb g bg tk cm (.slice none 0 0) (.slice none 0 0) :: qR qb { q with waited := q.waited + 1 } :: .mp 3 cm [(.int .i64 q.num, ptrN qb)] :: R) := by
  refine (tick_idle cb cm g bg tk [(qb, q)] R (by simp [nums]) (by intro p hp; rw [List.mem_singleton] at hp; subst hp; exact hnum) (by simp) (by intro p hp; rw [List.mem_singleton] at hp; subst hp; exact hI) (hL.perm ((List.Perm.swap _ _ _).cons _)) hB).mono fun r w ⟨hr, hB, hL⟩ => ?_
  exact ⟨hr, hB, hL.perm ((List.Perm.swap _ _ _).cons _)⟩
theorem tick1_begin (cb cm qb : Nat) (g bg tk : Int) (q : QS) (R : List Res) (hg : 0 ≤ g ∧ g ≤ 2) (htk : 0 ≤ tk ∧ tk < 900000) (hnum : 0 ≤ q.num ∧ q.num ≤ 1000000) (hI : Due q)
    (hL : Sep Tryz.prog B w0 w (cR cb g bg tk cm (.slice none 0 0) (.slice none 0 0) :: qR qb q :: .mp 3 cm [(.int .i64 q.num, ptrN qb)] :: R)) (hB : B ≤ w.heap.size) :
    Fn Tryz.prog 12 #[ptrN cb] w fun r w' => ∃ ov nv dv sm, r = .tuple #[.slice none 0 0, ov] ∧ B ≤ w'.heap.size ∧
      Sep Tryz.prog B w0 w' (cR cb g bg (tk + 1) cm (.slice none 0 0) (.slice none 0 0) :: qR qb { q with step := if q.kind = 1 then 0 else 1, waited := 0, tk := tk + 1, sent := .map (some sm), master := g } :: .mp 3 cm [(.int .i64 q.num, ptrN qb)] ::
        .mp 3 sm [(.int .i64 g, .bool true)] :: .row 42 5 ov 1 (mC g 50 nv dv) :: nR nv ((tk + 1) :: (if q.kind = 1 then [3, q.salt] else [4, q.vol])) :: bR dv [] :: R) := by
  refine (tick_begin cb cm g bg tk [(qb, q)] R hg htk (by simp [nums]) (by intro p hp; rw [List.mem_singleton] at hp; subst hp; exact hnum) (by simp) (by intro p hp; rw [List.mem_singleton] at hp; subst hp; exact hI) (hL.perm ((List.Perm.swap _ _ _).cons _)) hB).mono fun r w ⟨ov, qs', ms, acc, hr, hBL, hB, hL⟩ => ?_
  obtain ⟨nv, dv, sm, rfl, rfl, rfl⟩ := hBL.one
  refine ⟨ov, nv, dv, sm, hr, hB, hL.perm (perm_cnt fun a => ?_)⟩
  simp only [qRs, kbs, List.map_cons, List.map_nil, List.count_append, List.count_cons, List.count_nil, pE, iV, ptrN, List.length_singleton, List.length_cons, List.length_nil, Int.natCast_one, Nat.zero_add, Int.natCast_succ, Int.natCast_zero, Int.zero_add]
  omega
/-- the error of one Return -/
theorem told_fn (rb : Nat) (rc : Nat) (num err vol key ck : Int) (dv : Value) (w : World) (hr : Row w rb 0 (rC num err vol key ck dv)) :
    Fn Tryz.prog 14 #[.slice (some ⟨rb, 0, none⟩) 1 rc] w fun r w' => r = .tuple #[.int .i64 err, .bool true] ∧ w' = w := by
  have hL := Sep.start Tryz.prog w
  have hB := Nat.le_refl w.heap.size
  refine Fn.mk Tryz.func14 rfl (by kernel_rfl) Tryz.ntmps14 rfl (by rw [Tryz.results14]) ?_
  repeat (first | (refine RunH ?_; intro w hL hB; try clear w) | (refine Both.mk ?_ ?_ <;> conv => whnf) | (intro o9 ho9; conv => whnf) | (refine Ld.row1 ttOk hr rfl rfl (k := 1) rfl (by omega) ?_; conv => whnf) | fail)
  exact ⟨rfl, rfl⟩
end
end Go.Proofs.YtcjnaljdbbjojaaGreatDoor
