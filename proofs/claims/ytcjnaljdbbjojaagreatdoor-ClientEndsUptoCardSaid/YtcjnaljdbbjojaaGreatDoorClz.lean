/- client: Tick when nobody answered for the last time: calls end. Nothing is claimed here. -/
import Derived.Test.YtcjnaljdbbjojaaGreatDoorCly
namespace Go.Proofs.YtcjnaljdbbjojaaGreatDoor
open Go.RowKit
open Go.Maps (Keyed)
set_option linter.unusedVariables false
set_option linter.unusedSimpArgs false
set_option maxRecDepth 100000

theorem gone_kbs {b : Nat} {q : QS} {T : List QB} {l : List (Value × Value)} (hnd : NdI (kbs ((b, q) :: T))) (h : Gone ((kbs ((b, q) :: T)).map pE) (.int .i64 q.num) l) : l = (kbs T).map pE := by
  have hno : ∀ u, (Value.int .i64 q.num, u) ∉ (kbs T).map pE := fun u hu => by
    obtain ⟨x, hx, hxe⟩ := List.mem_map.1 hu
    simp only [pE, iV, Prod.mk.injEq, Value.int.injEq, true_and] at hxe
    have h2 : NdI ((q.num, b) :: kbs T) := hnd
    rw [NdI, List.map_cons, List.nodup_cons] at h2
    have h3 := List.mem_map_of_mem (f := Prod.fst) hx
    rw [hxe.1] at h3
    exact h2.1 h3
  generalize hm : (kbs ((b, q) :: T)).map pE = m at h
  cases h with
  | no h => exact absurd rfl (h (pE (q.num, b)) (by rw [← hm]; exact List.mem_cons_self ..))
  | yes A C u h =>
    rw [← hm] at h
    have h : pE (q.num, b) :: (kbs T).map pE = A ++ (.int .i64 q.num, u) :: C := h
    cases A with
    | nil => simp only [List.nil_append, List.cons.injEq] at h; simp [h.2]
    | cons a A =>
      simp only [List.cons_append, List.cons.injEq] at h
      exact absurd (by rw [h.2]; simp) (hno u)
section
variable {B : Nat} {w0 w : World}
set_option maxHeartbeats 8000000 in
theorem ends_many (cb qb cm : Nat) (g bg tk : Int) (rv ov : Value) (q : QS) (err vol key ck n0 : Int) (a : Option Addr) (n c : Nat) (T : List QB) (hndI : NdI (kbs ((qb, q) :: T))) (m : Nat) (rs : List Value) (R : List Res) (hm : m ≤ 1000) (hnum : 0 ≤ q.num ∧ q.num ≤ 1000000)
    (hL : Sep Tryz.prog B w0 w (cR cb g bg tk cm rv ov :: qR qb q :: .mp 3 cm ((kbs ((qb, q) :: T)).map pE) :: .row 51 6 rv m rs :: R)) (hB : B ≤ w.heap.size) :
    Fn Tryz.prog 23 #[ptrN cb, ptrN qb, .agg (rC n0 err vol key ck (.slice a n c)).toArray] w fun r w' => r = .tuple #[] ∧ ∃ rv', B ≤ w'.heap.size ∧
      Sep Tryz.prog B w0 w' (cR cb g bg tk cm rv' ov :: qR qb q :: .mp 3 cm ((kbs T).map pE) :: .row 51 6 rv' (m + 1) (rs ++ rC q.num err vol key ck (.slice a n c)) :: R) := by
  obtain ⟨oa, oc, hov⟩ := (show SlN w 6 rv m rs from hL.rowN (i := 3) rfl).shape
  subst hov
  unfold cR cC qR qC at hL
  refine Fn.mk Tryz.func23 rfl (by kernel_rfl) Tryz.ntmps23 rfl (by rw [Tryz.results23]) ?_
  repeat (first | (refine RunH ?_; intro w hL hB; try clear w) | (refine Both.mk ?_ ?_ <;> conv => whnf) | fail)
  (refine Nw.sep hL hB (fun rb w hL hB hrb => ?_); conv => whnf)
  repeat (first | (refine RunH ?_; intro w hL hB; try clear w) | (refine Both.mk ?_ ?_ <;> conv => whnf) | fail)
  replace hL : Sep Tryz.prog B w0 w (.blk rb (rC q.num err vol key ck (.slice a n c)) 51 :: _) := hL
  have hcl : ∀ {x : World} {L' : List Res}, Sep Tryz.prog B w0 x L' → .blk rb (rC q.num err vol key ck (.slice a n c)) 51 ∈ L' → Blk x rb (rC q.num err vol key ck (.slice a n c)) 51 := fun h hm => h.hold _ hm
  refine V.tree ttOk (fun x => Blk x rb (rC q.num err vol key ck (.slice a n c)) 51) (.q 0 (.q 1 (.q 2 (.q 3 (.q 5 (.alt 4 (.alt 6 (.alt 7 (.q 8 (.q 9 (.alt 10 .nil .stop))) .stop) .stop) (.alt 6 (.alt 4 (.alt 7 (.q 8 (.q 9 (.alt 10 .nil .stop))) .stop) .stop) .stop))))))) mixed (by decide +kernel) (hcl hL.drew (.head _)) ?_
  replace hL := hL.drew
  conv => whnf
  repeat' (first | (refine RunH ?_; intro w hL hB; try clear w) | (refine Br.dec (fun hbr => ?_) (fun hbr => ?_) <;> conv => whnf) | (refine Br.mk (fun hbr => ?_) (fun hbr => ?_) <;> conv => whnf) | (refine Both.mk ?_ ?_ <;> conv => whnf) | (refine Lq.of_class (fun x hx => Ld.blks ttOk (rC q.num err vol key ck (.slice a n c)) rfl rfl hx rfl (fun j x h => by rw [Nat.zero_add]; exact h) rfl) ?_; conv => whnf) | (refine And.intro (hcl hL (by repeat (first | exact .head _ | apply List.Mem.tail))) ?_; conv => whnf) | (refine Rv.buildS (len := 1) (vs := [.agg (rC q.num err vol key ck (.slice a n c)).toArray]) ttOk hL tl43 tl51 rfl rfl (by intro u hu; simp only [List.mem_singleton] at hu; subst hu; rfl) (by decide) (by decide) hB fun bp w hL hB => ?_; replace hL : Sep Tryz.prog B w0 w (.row 51 6 (.slice (some ⟨bp, 0, none⟩) 1 1) 1 (rC q.num err vol key ck (.slice a n c)) :: _) := hL; conv => whnf) | (refine Rv.appendS (m := 1) (news := rC q.num err vol key ck (.slice a n c)) ttOk hL tl43 tl51 rfl (by decide) 5 rfl (hL.rowN (i := 0) rfl) rC_one (by simp only [maxLen]; omega) (by omega) hB fun vo w hL hB => ?_; dsimp only [List.set] at hL; obtain ⟨wa, wc, rfl⟩ := (show SlN w 6 vo (m + 1) _ from hL.rowN (i := 5) rfl).shape; conv => whnf) | fail)
  all_goals
    refine Rv.goneS ttOk hL intK 4 tl58 rfl (goodS (by omega)) hB fun w l' hg hL hB => ?_
    rw [gone_kbs hndI hg] at hL
    dsimp only [List.set] at hL
    conv => whnf
    repeat (first | (refine RunH ?_; intro w hL hB; try clear w) | (refine Both.mk ?_ ?_ <;> conv => whnf) | fail)
    exact ⟨rfl, _, hB, hL.tl.tl⟩
/-- the error of a call nobody answered -/
def endE (q : QS) : Int := if q.kind = 1 then 16 else 14
set_option maxHeartbeats 8000000 in
theorem round_end (cb qb cm : Nat) (g bg tk : Int) (rv ov : Value) (q : QS) (ticks : Int) (T : List QB) (hndI : NdI (kbs ((qb, q) :: T))) (m : Nat) (rs : List Value) (R : List Res) (hm : m ≤ 1000) (hnum : 0 ≤ q.num ∧ q.num ≤ 1000000) (ht : q.tried = 19) (hw : q.writes = 0)
    (hL : Sep Tryz.prog B w0 w (cR cb g bg tk cm rv ov :: qR qb q :: .mp 3 cm ((kbs ((qb, q) :: T)).map pE) :: .row 51 6 rv m rs :: R)) (hB : B ≤ w.heap.size) :
    Fn Tryz.prog 22 #[ptrN cb, ptrN qb, .int .i64 ticks] w fun r w' => r = .tuple #[] ∧ ∃ rv', B ≤ w'.heap.size ∧
      Sep Tryz.prog B w0 w' (cR cb g bg tk cm rv' ov :: qR qb { q with tried := 20 } :: .mp 3 cm ((kbs T).map pE) :: .row 51 6 rv' (m + 1) (rs ++ rC q.num (endE q) 0 0 0 (.slice none 0 0)) :: R) := by
  have hen := fun w e hL hB => ends_many (B := B) (w0 := w0) (w := w) cb qb cm g bg tk rv ov { q with tried := 20 } e 0 0 0 0 none 0 0 T hndI m rs R hm hnum hL hB
  unfold cR cC qR qC at hL
  rw [ht] at hL
  refine Fn.mk Tryz.func22 rfl (by kernel_rfl) Tryz.ntmps22 rfl (by rw [Tryz.results22]) ?_
  repeat (first | (refine RunH ?_; intro w hL hB; try clear w) | (refine Both.mk ?_ ?_ <;> conv => whnf) | fail)
  by_cases hk : q.kind = 1
  · rw [endE, if_pos hk]
    repeat (first | (refine RunH ?_; intro w hL hB; try clear w) | (refine Both.mk ?_ ?_ <;> conv => whnf) | fail)
    refine (hen _ 16 hL hB).mono fun r w hr => ?_
    obtain ⟨hr, rv', hB, hL⟩ := hr
    subst hr
    conv => whnf
    refine RunR ?_
    exact ⟨rfl, rv', hB, hL⟩
  · rw [endE, if_neg hk]
    repeat (first | (refine RunH ?_; intro w hL hB; try clear w) | (refine Both.mk ?_ ?_ <;> conv => whnf) | fail)
    refine (hen _ 14 hL hB).mono fun r w hr => ?_
    obtain ⟨hr, rv', hB, hL⟩ := hr
    subst hr
    conv => whnf
    refine RunR ?_
    exact ⟨rfl, rv', hB, hL⟩
end
end Go.Proofs.YtcjnaljdbbjojaaGreatDoor
