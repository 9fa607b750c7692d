/- client: the law's helpers: Count, known. Nothing is claimed here. -/
import Derived.Test.YtcjnaljdbbjojaaGreatDoorClh
namespace Go.Proofs.YtcjnaljdbbjojaaGreatDoor
open Go.RowKit
open Go.Maps (Keyed)
set_option linter.unusedVariables false
set_option linter.unusedSimpArgs false
set_option maxRecDepth 100000

theorem own_addr {w : World} {base sz n c m : Nat} {e : TypeId} {a : Option Addr} {xs : List Value} (h : w.ownsRow base e sz (.slice a n c) m xs) (hn : 0 < m) : (∃ g, a = some ⟨g, 0, none⟩) ∧ n ≤ c := by
  rcases h.2 with h | ⟨g, cap, cur, h, _, _, h1, _⟩
  · have := h.2; omega
  · injection h with e1 e2 e3
    subst e2; subst e3
    exact ⟨⟨g, e1⟩, h1⟩
theorem Ld.rowV {w : World} {t : TypeId} {d : Td} {b o o' : Nat} {xs vs : List Value} {k : Nat} {K : Value → Prop} (hr : Row w b o xs) (hl : look TT t = some d) (ha : d.sh.agg = true) (hn : vs.length = d.size) (hv : ∀ j x, vs[j]? = some x → xs[k + j]? = some x) (ho : o' = o + k) (hk : K (.agg vs.toArray)) : Ld Tryz.prog w t ⟨b, o', none⟩ K := by
  subst ho
  exact Ld.agg ttOk hl ha hn (fun j x hj => by
    have := hr (k + j) x (hv j x hj)
    rw [← Nat.add_assoc] at this
    exact this) hk
theorem p14 {α : Type} (x a b c d : α) (R : List α) : (x :: a :: b :: c :: d :: R).Perm (a :: b :: c :: d :: x :: R) := by
  have := List.perm_append_comm (l₁ := [x]) (l₂ := [a, b, c, d])
  exact (this.append_right R)
section
variable {B : Nat} {w0 w : World}
theorem count_fn (cb cm : Nat) (g bg tk : Int) (rv ov : Value) (l : List (Value × Value)) (R : List Res) (hL : Sep Tryz.prog B w0 w (cR cb g bg tk cm rv ov :: .mp 3 cm l :: R)) (hB : B ≤ w.heap.size) :
    Fn Tryz.prog 13 #[ptrN cb] w fun r w' => r = .int .i64 (l.length : Int) ∧ w' = w := by
  unfold cR cC at hL
  refine Fn.mk Tryz.func13 rfl (by kernel_rfl) Tryz.ntmps13 rfl (by rw [Tryz.results13]) ?_
  repeat (first | (refine RunH ?_; intro w hL hB; try clear w) | (refine Both.mk ?_ ?_ <;> conv => whnf) | (refine Rv.mlen ttOk tl58 (hL.at (i := 1) rfl) ?_; conv => whnf) | fail)
  exact ⟨rfl, rfl⟩
end
set_option maxHeartbeats 16000000 in
theorem known_fn (w0 : World) : Fn Tryz.prog 7 #[] w0 fun r w' => r = .bool true ∧ Below w0.heap.size w0 w' := by
  have hL := Sep.start Tryz.prog w0
  have hB := Nat.le_refl w0.heap.size
  refine Fn.mk Tryz.func7 rfl (by kernel_rfl) Tryz.ntmps7 rfl (by rw [Tryz.results7]) ?_
  repeat (first | (refine RunH ?_; intro w hL hB; try clear w) | (refine Both.mk ?_ ?_ <;> conv => whnf) | (refine (config_fn _).mono fun r w hr => ?_; obtain ⟨hr, hw⟩ := hr; subst hr; replace hL := hL.call hB (Turns.of_below hw); replace hB := Nat.le_trans hB hw.size; conv => whnf) | fail)
  refine (new_fn _ hL hB).mono fun r w ⟨cb, cm, hr, hB, hL⟩ => ?_
  subst hr
  conv => whnf
  repeat (first | (refine RunH ?_; intro w hL hB; try clear w) | (refine Both.mk ?_ ?_ <;> conv => whnf) | fail)
  refine (begin_fn cb cm 0 0 0 1 0 0 0 5 (.slice none 0 0) [] _ (by omega) (by omega) (by omega) (.head _) (by simp) (by omega) (by omega) (by omega) (by omega) ((hL.nilRow 5 1).perm ((List.perm_append_comm (l₁ := [_]) (l₂ := [_, _])).append_right _)) hB).mono fun r w hr => ?_
  rw [if_pos rfl] at hr
  obtain ⟨qb, sm, xd, ov, nv, dv, hr, hB, hL⟩ := hr
  subst hr
  obtain ⟨oa, oc, rfl⟩ := (show SlN w 5 ov 1 _ from hL.rowN (i := 4) rfl).shape
  obtain ⟨⟨ob, rfl⟩, _⟩ := own_addr (hL.at (i := 4) rfl) (by omega)
  obtain ⟨na, nc, rfl⟩ : ∃ a c, nv = .slice a 3 c := (nR_sl (hL.at (i := 5) rfl)).shape
  obtain ⟨⟨nb, rfl⟩, _⟩ := own_addr (show w.ownsRow 0 3 1 _ _ _ from hL.at (i := 5) rfl) (by simp)
  conv => whnf
  repeat (first | (refine RunH ?_; intro w hL hB; try clear w) | (refine Both.mk ?_ ?_ <;> conv => whnf) | (intro o9 ho9; conv => whnf) | (refine Ld.row1 ttOk (hL.rowN (i := 4) rfl).rowOf rfl rfl (k := 3) rfl (by omega) ?_; conv => whnf) | (refine Ld.row1 ttOk (hL.rowN (i := 5) rfl).rowOf rfl rfl (k := 0) rfl (by omega) ?_; conv => whnf) | fail)
  refine Rv.buildS (len := 7) (vs := [.int .i64 1, .int .i64 0, .int .i64 3, .int .i64 1, .int .i64 9, .int .i64 1, .int .i64 0]) ttOk hL tl40 tl3 rfl rfl (by intro u hu; simp only [List.mem_cons, List.not_mem_nil, or_false] at hu; rcases hu with rfl | rfl | rfl | rfl | rfl | rfl | rfl <;> rfl) (by decide) (by decide) hB (fun b7 w hL hB => ?_)
  conv => whnf
  repeat (first | (refine RunH ?_; intro w hL hB; try clear w) | (refine Both.mk ?_ ?_ <;> conv => whnf) | fail)
  refine (hear_assign cb cm qb sm 0 1 1 _ 0 0 1 (.slice (some ⟨b7, 0, none⟩) 7 7) (.slice none 0 0) 3 1 9 1 0 [] _ rfl (by omega) rfl rfl rfl (by simp) (by simp) (by omega) (by omega) (by omega) (by omega) ⟨(by show (0 : Int) ≤ 0 + 1; decide), (by show (0 : Int) + 1 ≤ 1000000; decide)⟩ ⟨_, _, _, rfl⟩ (hL.perm (p14 _ _ _ _ _ _)) hB (.head _)).mono fun r w hr => ?_
  obtain ⟨rv, hr, hB, hL⟩ := hr
  subst hr
  obtain ⟨ra, rc, rfl⟩ := (show SlN w 6 rv 1 _ from hL.rowN (i := 2) rfl).shape
  obtain ⟨⟨rb, rfl⟩, _⟩ := own_addr (hL.at (i := 2) rfl) (by omega)
  conv => whnf
  repeat (first | (refine RunH ?_; intro w hL hB; try clear w) | (refine Both.mk ?_ ?_ <;> conv => whnf) | (intro o9 ho9; conv => whnf) | (refine Ld.row1 ttOk (hL.rowN (i := 2) rfl).rowOf rfl rfl (k := 1) rfl (by omega) ?_; conv => whnf) | (refine Ld.rowV (vs := [.int .i64 3, .int .u64 1, .int .u32 9]) (hL.rowN (i := 2) rfl).rowOf rfl rfl rfl (k := 2) (fun j x hj => by rcases j with _ | _ | _ | j <;> first | exact hj | (simp at hj)) (by omega) ?_; conv => whnf) | fail)
  refine Eg.mk true (fun w => by rfl) (by kernel_rfl) ?_
  conv => whnf
  repeat (first | (refine RunH ?_; intro w hL hB; try clear w) | (refine Both.mk ?_ ?_ <;> conv => whnf) | fail)
  exact ⟨rfl, hL.below⟩
end Go.Proofs.YtcjnaljdbbjojaaGreatDoor
