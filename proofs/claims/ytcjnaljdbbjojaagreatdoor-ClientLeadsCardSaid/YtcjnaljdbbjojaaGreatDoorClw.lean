/- ClientLeads, walked. Nothing is claimed here. -/
import Derived.Test.YtcjnaljdbbjojaaGreatDoorClv
namespace Go.Proofs.YtcjnaljdbbjojaaGreatDoor
open Go.RowKit
open Go.Maps (Keyed)
set_option linter.unusedVariables false
set_option linter.unusedSimpArgs false
set_option maxRecDepth 100000

set_option maxHeartbeats 32000000 in
theorem clientLeads_fn (hint : Int) (w0 : World) :
    Fn Tryz.prog 3 #[.int .i64 hint] w0 fun r w' => r = .bool true ∧ Below w0.heap.size w0 w' := by
  have hL := Sep.start Tryz.prog w0
  have hB := Nat.le_refl w0.heap.size
  have hkn := fun w (hb : Below w0.heap.size w0 w) => (known_fn w).mono fun r w' (h : r = .bool true ∧ Below w.heap.size w w') => (⟨h.1, hb.trans (h.2.mono hb.size)⟩ : r = .bool true ∧ Below w0.heap.size w0 w')
  refine Fn.mk Tryz.func3 rfl (by kernel_rfl) Tryz.ntmps3 rfl (by rw [Tryz.results3]) ?_
  repeat (first | (refine RunH ?_; intro w hL hB; try clear w) | (refine Both.mk ?_ ?_ <;> conv => whnf) | fail)
  by_cases h1 : hint < -1
  · skip
    repeat (first | (refine RunH ?_; intro w hL hB; try clear w) | (refine Both.mk ?_ ?_ <;> conv => whnf) | fail)
    refine (hkn _ hL.below).mono fun r w ⟨hr, hb⟩ => ?_
    subst hr
    conv => whnf
    repeat (first | (refine RunH ?_; intro w hL hB; try clear w) | (refine Both.mk ?_ ?_ <;> conv => whnf) | fail)
    exact ⟨rfl, hb⟩
  by_cases h2 : 2 < hint
  · skip
    repeat (first | (refine RunH ?_; intro w hL hB; try clear w) | (refine Both.mk ?_ ?_ <;> conv => whnf) | fail)
    refine (hkn _ hL.below).mono fun r w ⟨hr, hb⟩ => ?_
    subst hr
    conv => whnf
    repeat (first | (refine RunH ?_; intro w hL hB; try clear w) | (refine Both.mk ?_ ?_ <;> conv => whnf) | fail)
    exact ⟨rfl, hb⟩
  repeat (first | (refine RunH ?_; intro w hL hB; try clear w) | (refine Both.mk ?_ ?_ <;> conv => whnf) | (refine (config_fn _).mono fun r w hr => ?_; obtain ⟨hr, hw⟩ := hr; subst hr; replace hL := hL.call hB (Turns.of_below hw); replace hB := Nat.le_trans hB hw.size; conv => whnf) | fail)
  refine (new_fn _ hL hB).mono fun r w ⟨cb, cm, hr, hB, hL⟩ => ?_
  subst hr
  conv => whnf
  repeat (first | (refine RunH ?_; intro w hL hB; try clear w) | (refine Both.mk ?_ ?_ <;> conv => whnf) | fail)
  refine (begin_fn cb cm 0 0 0 1 0 0 0 0 (.slice none 0 0) [] _ (by omega) (by omega) (by omega) (.head _) (by simp) (by omega) (by omega) (by omega) (by omega) ((hL.nilRow 5 1).perm ((List.perm_append_comm (l₁ := [_]) (l₂ := [_, _])).append_right _)) hB).mono fun r w hr => ?_
  rw [if_pos rfl] at hr
  obtain ⟨qb, sm, xd, ov, nv, dv, hr, hB, hL⟩ := hr
  subst hr
  obtain ⟨oa, oc, rfl⟩ := (show SlN w 5 ov 1 _ from hL.rowN (i := 4) rfl).shape
  obtain ⟨⟨ob, rfl⟩, _⟩ := own_addr (hL.at (i := 4) rfl) (by omega)
  obtain ⟨na, nc, rfl⟩ : ∃ a c, nv = .slice a 3 c := (nR_sl (hL.at (i := 5) rfl)).shape
  obtain ⟨⟨nb, rfl⟩, _⟩ := own_addr (show w.ownsRow 0 3 1 _ _ _ from hL.at (i := 5) rfl) (by simp)
  conv => whnf
  repeat (first | (refine RunH ?_; intro w hL hB; try clear w) | (refine Both.mk ?_ ?_ <;> conv => whnf) | (refine Ld.row1 ttOk (hL.mrow (by repeat (first | exact .head _ | apply List.Mem.tail))) rfl rfl (k := 0) (by rfl) (by omega) ?_; conv => whnf) | (refine Ld.row1 ttOk (hL.mrow (by repeat (first | exact .head _ | apply List.Mem.tail))) rfl rfl (k := 1) (by rfl) (by omega) ?_; conv => whnf) | (refine Ld.row1 ttOk (hL.mrow (by repeat (first | exact .head _ | apply List.Mem.tail))) rfl rfl (k := 2) (by rfl) (by omega) ?_; conv => whnf) | (refine Ld.row1 ttOk (hL.mrow (by repeat (first | exact .head _ | apply List.Mem.tail))) rfl rfl (k := 3) (by rfl) (by omega) ?_; conv => whnf) | (intro o9 ho9; conv => whnf) | fail)
  refine Rv.buildS (len := 3) (vs := [.int .i64 (0 + 1), .int .i64 13, .int .i64 hint]) ttOk hL tl40 tl3 rfl rfl (by intro u hu; simp only [List.mem_cons, List.not_mem_nil, or_false] at hu; rcases hu with rfl | rfl | rfl <;> rfl) (by decide) (by decide) hB (fun b8 w hL hB => ?_)
  conv => whnf
  repeat (first | (refine RunH ?_; intro w hL hB; try clear w) | (refine Both.mk ?_ ?_ <;> conv => whnf) | fail)
  replace hL : Sep Tryz.prog w0.heap.size w0 w (nR (.slice (some ⟨b8, 0, none⟩) 3 3) [0 + 1, 13, hint] :: _) := hL
  refine (hear_lead cb cm qb sm 0 (0 + 1) (0 + 1) _ 0 0 (0 + 1) (.slice (some ⟨b8, 0, none⟩) 3 3) (.slice none 0 0) hint _ rfl (by omega) rfl rfl rfl (by omega) ⟨(by show (0 : Int) ≤ 0; decide), (by show (0 : Int) < 19; decide)⟩ rfl ⟨_, _, _, rfl⟩ (hL.perm (p14 _ _ _ _ _ _)) hB (.head _)).mono fun r w hr => ?_
  clear hL hB
  obtain ⟨hr, hB, hL⟩ := hr
  subst hr
  conv => whnf
  repeat (first | (refine RunH ?_; intro w hL hB; try clear w) | (refine Both.mk ?_ ?_ <;> conv => whnf) | fail)
  obtain ⟨R1, q1, hL, e1, e2, e3, e4, e5⟩ : ∃ R1 : List Res, ∃ q1 : QS, Sep Tryz.prog w0.heap.size w0 w (cR cb (if 0 ≤ hint then hint else 1) (0 + 1) (0 + 1) cm (.slice none 0 0) (.slice none 0 0) :: qR qb { q1 with waited := ((0 : Nat) : Int) } :: .mp 3 cm [(.int .i64 q1.num, ptrN qb)] :: R1) ∧ q1.num = 1 ∧ q1.step = 6 ∧ q1.pause = 2 ∧ q1.kind = 1 ∧ q1.salt = 0 :=
    ⟨_, ⟨0 + 1, 1, 0, 0, 0, xd, 0, 6, 0, 2, 0 + 1, 0, 0, .slice none 0 0, 0, .slice none 0 0, 0 + 1, .map none, 0, 0⟩, hL, rfl, rfl, rfl, rfl, rfl⟩
  refine V.loop (α := Nat × Value) (fun z => [(0, .int .i64 hint), (3, ptrN cb), (8, z.2), (9, .int .i64 (z.1 : Int))])
    (fun z w' => w0.heap.size ≤ w'.heap.size ∧ ((z.1 ≤ 1 ∧ z.2 = .slice none 0 0 ∧ Sep Tryz.prog w0.heap.size w0 w' (cR cb (if 0 ≤ hint then hint else 1) (0 + 1) (0 + 1) cm (.slice none 0 0) (.slice none 0 0) :: qR qb { q1 with waited := (z.1 : Int) } :: .mp 3 cm [(.int .i64 q1.num, ptrN qb)] :: R1)) ∨
      (z.1 = 2 ∧ ∃ ob oc nv dv, ∃ L : List Res, z.2 = .slice (some ⟨ob, 0, none⟩) 1 oc ∧ Sep Tryz.prog w0.heap.size w0 w' (.row 42 5 (.slice (some ⟨ob, 0, none⟩) 1 oc) 1 (mC (if 0 ≤ hint then hint else 1) 50 nv dv) :: L)))) (fun z => 3 - z.1) (0, .slice none 0 0) ⟨rfl, rfl, rfl, rfl, trivial⟩ ⟨hB, .inl ⟨by omega, rfl, hL⟩⟩ ?_
  repeat clear hL
  repeat clear hB
  rintro ⟨k, v⟩ w ⟨hB, ⟨hk, rfl, hL⟩ | ⟨hk, ob, oc, nv, dv, L, rfl, hL⟩⟩
  · dsimp only at hk hL
    repeat (first | (refine RunH ?_; intro w hL hB; try clear w) | (refine Both.mk ?_ ?_ <;> conv => whnf) | fail)
    rcases (show k = 0 ∨ k = 1 by omega) with rfl | rfl
    · refine (tick1_idle cb cm qb (if 0 ≤ hint then hint else 1) (0 + 1) (0 + 1) { q1 with waited := ((0 : Nat) : Int) } R1 ⟨(by show 0 ≤ q1.num; omega), (by show q1.num ≤ 1000000; omega)⟩ ⟨(by show (0 : Int) ≤ 0; omega), (by show (0 : Int) ≤ 1000; omega), (by show q1.pause ≤ 1000; omega), .inl ⟨e2, (by show (0 : Int) + 1 < q1.pause; omega)⟩⟩ hL hB).mono fun r w hr => ?_
      obtain ⟨hr, hB, hL⟩ := hr
      subst hr
      conv => whnf
      repeat (first | (refine RunH ?_; intro w hL hB; try clear w) | (refine Both.mk ?_ ?_ <;> conv => whnf) | fail)
      exact ⟨(1, .slice none 0 0), ⟨rfl, rfl, rfl, rfl, trivial⟩, ⟨hB, .inl ⟨by omega, rfl, hL⟩⟩, by dsimp only; omega⟩
    · refine (tick1_begin cb cm qb (if 0 ≤ hint then hint else 1) (0 + 1) (0 + 1) { q1 with waited := ((1 : Nat) : Int) } R1 (by split <;> omega) (by omega) ⟨(by show 0 ≤ q1.num; omega), (by show q1.num ≤ 1000000; omega)⟩ ⟨(by show (0 : Int) ≤ 1; omega), (by show (1 : Int) ≤ 1000; omega), (by show q1.pause ≤ 1 + 1; omega), e2, (by show 0 ≤ q1.salt; omega), (by show q1.salt < 4294967296; omega)⟩ hL hB).mono fun r w hr => ?_
      obtain ⟨ov, nv, dv, sm2, hr, hB, hL⟩ := hr
      subst hr
      obtain ⟨oa2, oc2, rfl⟩ := (show SlN w 5 ov 1 _ from hL.rowN (i := 4) rfl).shape
      obtain ⟨⟨ob2, rfl⟩, _⟩ := own_addr (hL.at (i := 4) rfl) (by omega)
      conv => whnf
      repeat (first | (refine RunH ?_; intro w hL hB; try clear w) | (refine Both.mk ?_ ?_ <;> conv => whnf) | fail)
      exact ⟨(2, _), ⟨rfl, rfl, rfl, rfl, trivial⟩, ⟨hB, .inr ⟨rfl, ob2, oc2, nv, dv, _, rfl, hL.front (i := 4) rfl⟩⟩, by dsimp only; omega⟩
  · dsimp only at hk
    subst hk
    have hC : True := trivial
    by_cases h0 : hint = -1
    · subst h0
      repeat (first | (refine RunH ?_; intro w hL hB; try clear w) | (refine Both.mk ?_ ?_ <;> conv => whnf) | (refine Ld.row1 ttOk (hL.mrow (by repeat (first | exact .head _ | apply List.Mem.tail))) rfl rfl (k := 0) (by rfl) (by omega) ?_; conv => whnf) | (refine Ld.row1 ttOk (hL.mrow (by repeat (first | exact .head _ | apply List.Mem.tail))) rfl rfl (k := 1) (by rfl) (by omega) ?_; conv => whnf) | (refine Ld.row1 ttOk (hL.mrow (by repeat (first | exact .head _ | apply List.Mem.tail))) rfl rfl (k := 2) (by rfl) (by omega) ?_; conv => whnf) | (refine Ld.row1 ttOk (hL.mrow (by repeat (first | exact .head _ | apply List.Mem.tail))) rfl rfl (k := 3) (by rfl) (by omega) ?_; conv => whnf) | (intro o9 ho9; conv => whnf) | fail)
      refine (hkn _ hL.below).mono fun r w ⟨hr, hb⟩ => ?_
      subst hr
      conv => whnf
      repeat (first | (refine RunH ?_; intro w hL hB; try clear w) | (refine Both.mk ?_ ?_ <;> conv => whnf) | fail)
      exact ⟨rfl, hb⟩
    · rw [if_pos (by omega)] at hL
      repeat (first | (refine RunH ?_; intro w hL hB; try clear w) | (refine Both.mk ?_ ?_ <;> conv => whnf) | (refine Ld.row1 ttOk (hL.mrow (by repeat (first | exact .head _ | apply List.Mem.tail))) rfl rfl (k := 0) (by rfl) (by omega) ?_; conv => whnf) | (refine Ld.row1 ttOk (hL.mrow (by repeat (first | exact .head _ | apply List.Mem.tail))) rfl rfl (k := 1) (by rfl) (by omega) ?_; conv => whnf) | (refine Ld.row1 ttOk (hL.mrow (by repeat (first | exact .head _ | apply List.Mem.tail))) rfl rfl (k := 2) (by rfl) (by omega) ?_; conv => whnf) | (refine Ld.row1 ttOk (hL.mrow (by repeat (first | exact .head _ | apply List.Mem.tail))) rfl rfl (k := 3) (by rfl) (by omega) ?_; conv => whnf) | (intro o9 ho9; conv => whnf) | fail)
      refine (hkn _ hL.below).mono fun r w ⟨hr, hb⟩ => ?_
      subst hr
      conv => whnf
      repeat (first | (refine RunH ?_; intro w hL hB; try clear w) | (refine Both.mk ?_ ?_ <;> conv => whnf) | fail)
      exact ⟨rfl, hb⟩
end Go.Proofs.YtcjnaljdbbjojaaGreatDoor
