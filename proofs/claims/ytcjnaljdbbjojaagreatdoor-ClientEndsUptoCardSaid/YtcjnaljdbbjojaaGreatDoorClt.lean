/- client: Tick when calls begin anew. Nothing is claimed here. -/
import Derived.Test.YtcjnaljdbbjojaaGreatDoorCls
namespace Go.Proofs.YtcjnaljdbbjojaaGreatDoor
open Go.RowKit
open Go.Maps (Keyed)
set_option linter.unusedVariables false
set_option linter.unusedSimpArgs false
set_option maxRecDepth 100000

theorem perm_cnt {α : Type} {l1 l2 : List α} (h : ∀ [DecidableEq α] (a : α), l1.count a = l2.count a) : l1.Perm l2 := by
  classical
  exact List.perm_iff_count.2 fun a => h a
theorem pT3 {α : Type} (c m k p x : α) (A C R : List α) : (c :: m :: k :: p :: (A ++ x :: C ++ R)).Perm (c :: x :: m :: k :: p :: (A ++ C ++ R)) :=
  perm_cnt fun a => by simp only [List.count_append, List.count_cons, List.count_nil]; omega
theorem pT4 {α : Type} (c x m s n b k p : α) (A C acc R : List α) : (c :: x :: m :: s :: n :: b :: k :: p :: (A ++ C ++ (acc ++ R))).Perm (c :: m :: k :: p :: ((A ++ [x]) ++ C ++ ((s :: n :: b :: acc) ++ R))) :=
  perm_cnt fun a => by simp only [List.count_append, List.count_cons, List.count_nil]; omega
/-- calls that begin anew, one behind the other: what they were, what they are, the messages, and what these own -/
inductive BL (g tk : Int) : List QB → List QB → List Value → List Res → Prop
  | nil : BL g tk [] [] [] []
  | snoc (dn dn' : List QB) (ms : List Value) (acc : List Res) (b : Nat) (q : QS) (nv dv : Value) (sm : Nat) (h : BL g tk dn dn' ms acc) :
      BL g tk (dn ++ [(b, q)]) (dn' ++ [(b, { q with step := if q.kind = 1 then 0 else 1, waited := 0, tk := tk + (dn.length : Int) + 1, sent := .map (some sm), master := g })]) (ms ++ mC g 50 nv dv)
        (.mp 3 sm [(.int .i64 g, .bool true)] :: nR nv ((tk + (dn.length : Int) + 1) :: (if q.kind = 1 then [3, q.salt] else [4, q.vol])) :: bR dv [] :: acc)
/-- a call that is to begin anew -/
def Due (q : QS) : Prop := 0 ≤ q.waited ∧ q.waited ≤ 1000 ∧ q.pause ≤ q.waited + 1 ∧ q.step = 6 ∧ 0 ≤ q.salt ∧ q.salt < 4294967296
section
variable {B : Nat} {w0 w : World}
theorem begun_one {cb qb cm : Nat} {g bg tk : Int} {rv : Value} {q : QS} {m : Nat} {ms : List Value} {R : List Res} {x : World} (h : if q.kind = 1 then Sent B w0 x cb qb cm g bg tk rv { q with step := 0, master := g } m ms g 50 [3, q.salt] [] R else Sent B w0 x cb qb cm g bg tk rv { q with step := 1, master := g } m ms g 50 [4, q.vol] [] R) :
    Sent B w0 x cb qb cm g bg tk rv { q with step := if q.kind = 1 then 0 else 1, master := g } m ms g 50 (if q.kind = 1 then [3, q.salt] else [4, q.vol]) [] R := by
  by_cases hk : q.kind = 1
  · rw [if_pos hk] at h
    rw [if_pos hk, if_pos hk]
    exact h
  · rw [if_neg hk] at h
    rw [if_neg hk, if_neg hk]
    exact h
set_option maxHeartbeats 16000000 in
theorem tick_begin (cb cm : Nat) (g bg tk : Int) (qs : List QB) (R : List Res) (hg : 0 ≤ g ∧ g ≤ 2) (htk : 0 ≤ tk ∧ tk < 900000) (hnd : (nums qs).Pairwise (· < ·)) (hnum : ∀ p ∈ qs, 0 ≤ p.2.num ∧ p.2.num ≤ 1000000) (hlen : qs.length ≤ 256) (hI : ∀ p ∈ qs, Due p.2)
    (hL : Sep Tryz.prog B w0 w (cR cb g bg tk cm (.slice none 0 0) (.slice none 0 0) :: .mp 3 cm ((kbs qs).map pE) :: (qRs qs ++ R))) (hB : B ≤ w.heap.size) :
    Fn Tryz.prog 12 #[ptrN cb] w fun r w' => ∃ ov qs' ms acc, r = .tuple #[.slice none 0 0, ov] ∧ BL g tk qs qs' ms acc ∧ B ≤ w'.heap.size ∧
      Sep Tryz.prog B w0 w' (cR cb g bg (tk + (qs.length : Int)) cm (.slice none 0 0) (.slice none 0 0) :: .row 42 5 ov qs.length ms :: .mp 3 cm ((kbs qs).map pE) :: (qRs qs' ++ (acc ++ R))) := by
  have hndI := nums_nd hnd
  unfold cR cC at hL
  refine Fn.mk Tryz.func12 rfl (by kernel_rfl) Tryz.ntmps12 rfl (by rw [Tryz.results12]) ?_
  repeat (first | (refine RunH ?_; intro w hL hB; try clear w) | (refine Both.mk ?_ ?_ <;> conv => whnf) | fail)
  refine (keysFnI 1 rfl hL hB).mono fun r w ⟨c, hr, hL, hB⟩ => ?_
  subst hr
  conv => whnf
  repeat (first | (refine RunH ?_; intro w hL hB; try clear w) | (refine Both.mk ?_ ?_ <;> conv => whnf) | fail)
  refine (sortedFnI c 1 rfl hndI (by rw [kbs_len]; omega) hL hB).mono fun r w ⟨hL, hB⟩ => ?_
  rw [nums_sorted hnd, kbs_len] at hL
  obtain ⟨ka, kc, rfl⟩ := (hL.rowN (i := 0) rfl).shape
  replace hL := (hL.nilRow 42 5).perm (List.perm_middle (l₁ := [_, _]))
  conv => whnf
  repeat (first | (refine RunH ?_; intro w hL hB; try clear w) | (refine Both.mk ?_ ?_ <;> conv => whnf) | fail)
  refine V.loop (α := List QB) (fun dn => [(0, ptrN cb), (14, .slice ka qs.length kc), (15, .int .i64 (qs.length : Int)), (16, .int .i64 (dn.length : Int))])
    (fun dn w' => ∃ td dn' ms acc ov, dn ++ td = qs ∧ BL g tk dn dn' ms acc ∧ B ≤ w'.heap.size ∧ Sep Tryz.prog B w0 w' (cR cb g bg (tk + (dn.length : Int)) cm (.slice none 0 0) ov :: .row 42 5 ov dn.length ms :: .row 3 1 (.slice ka qs.length kc) qs.length ((nums qs).map iV) :: .mp 3 cm ((kbs qs).map pE) :: (qRs dn' ++ qRs td ++ (acc ++ R)))) (fun dn => qs.length - dn.length) [] ⟨rfl, rfl, rfl, rfl, trivial⟩ ⟨qs, [], [], [], .slice none 0 0, rfl, .nil, hB, ?_⟩ ?_
  · show Sep _ _ _ _ (cR cb g bg (tk + 0) cm _ _ :: _)
    rw [Int.add_zero]
    exact hL
  repeat clear hL
  repeat clear hB
  rintro dn w ⟨td, dn', ms, acc, ov, hqs, hBL, hB, hL⟩
  have hlq : dn.length + td.length = qs.length := by rw [← hqs, List.length_append]
  obtain ⟨oa, oc, rfl⟩ := (show SlN w 5 ov dn.length ms from hL.rowN (i := 1) rfl).shape
  cases td with
  | nil =>
    have hn : dn = qs := by simpa using hqs
    have hl2 : dn.length = qs.length := by rw [hn]
    repeat (first | (refine RunH ?_; intro w hL hB; try clear w) | (refine Both.mk ?_ ?_ <;> conv => whnf) | fail)
    refine (went_fn cb cm g bg _ _ _ _ ⟨_, _, _, rfl⟩ ⟨_, _, _, rfl⟩ hL hB).mono fun r w hr => ?_
    obtain ⟨hr, hB, hL⟩ := hr
    subst hr
    unfold cR cC at hL
    conv => whnf
    repeat (first | (refine RunH ?_; intro w hL hB; try clear w) | (refine Both.mk ?_ ?_ <;> conv => whnf) | fail)
    subst hn
    refine ⟨_, dn', ms, acc, rfl, hBL, hB, ?_⟩
    have h2 := hL.sub (L' := cR cb g bg (tk + (dn.length : Int)) cm (.slice none 0 0) (.slice none 0 0) :: .row 42 5 (.slice oa dn.length oc) dn.length ms :: .mp 3 cm ((kbs dn).map pE) :: (qRs dn' ++ qRs [] ++ (acc ++ R))) (.cons_cons _ (.cons_cons _ (.cons _ (.refl _))))
    rwa [show qRs [] = [] from rfl, List.append_nil] at h2
  | cons p td =>
    rw [List.length_cons] at hlq
    have hpm : p ∈ qs := by rw [← hqs]; simp
    obtain ⟨qb, q⟩ := p
    have hid := hI _ hpm
    have hq0 := hnum _ hpm
    dsimp only at hid hq0
    replace hL := hL.perm (pT3 _ _ _ _ (qR qb q) _ (qRs td) _)
    obtain ⟨⟨kb, rfl⟩, _⟩ := own_addr (show w.ownsRow 0 3 1 _ _ _ from hL.at (i := 3) rfl) (by omega)
    have hkey : ((nums qs).map iV)[dn.length]? = some (.int .i64 q.num) := by rw [← hqs]; simp [nums]
    unfold cR cC qR qC at hL
    repeat (first | (refine RunH ?_; intro w hL hB; try clear w) | (refine Both.mk ?_ ?_ <;> conv => whnf) | (intro o9 ho9; conv => whnf) | (refine Ld.row1 ttOk (hL.rowN (i := 3) rfl).rowOf rfl rfl (k := dn.length) (v := .int .i64 q.num) hkey (by omega) ?_; conv => whnf) | fail)
    refine Rv.seekS ttOk hL intK 4 tl58 tl63 rfl (goodS (by omega)) fun u ok hgot => ?_
    rw [got_kbs hndI hpm hgot]
    clear hgot
    obtain ⟨h1, h2, h3, h4, h5, h6⟩ := hid
    conv => whnf
    repeat (first | (refine RunK ?_; intro w hL hB; try clear w) | (refine V.treeA ttOk hL (.q 0 (.q 1 (.q 2 (.q 3 (.q 4 (.q 5 (.q 6 (.q 7 (.q 8 (.q 9 (.q 10 (.q 11 (.q 12 (.q 13 (.q 14 (.q 15 (.q 16 .nil))))))))))))))))) mixed (by decide +kernel) ?_; replace hL := hL.drew; conv => whnf) | (refine V.tailA ttOk mixed (by decide +kernel) ?_; replace hL := hL.drew; conv => whnf) | (refine Both.mk ?_ ?_ <;> conv => whnf) | fail)
    refine (begins_fn cb qb cm g bg (tk + (dn.length : Int)) (.slice none 0 0) (.slice oa dn.length oc) { q with waited := q.waited + 1 } dn.length ms _ (by omega) hg (by omega) ⟨h5, h6⟩ hL hB).mono fun r w hr => ?_
    obtain ⟨hr, hS⟩ := hr
    subst hr
    dsimp only at hS
    conv => whnf
    repeat (first | (refine RunH ?_; intro w hL hB; try clear w) | (refine Both.mk ?_ ?_ <;> conv => whnf) | fail)
    replace hS := begun_one hS
    obtain ⟨ov', nv', dv', sm, hB, hL⟩ := hS
    have hL2 := hL.perm (pT4 _ _ _ _ _ _ _ _ _ _ _ _)
    refine ⟨dn ++ [(qb, q)], ⟨rfl, rfl, rfl, vint (by simp), trivial⟩, ⟨td, _, _, _, ov', by rw [← hqs, List.append_assoc]; rfl, .snoc dn dn' ms acc qb q nv' dv' sm hBL, hB, ?_⟩, by dsimp only; rw [List.length_append, List.length_singleton]; omega⟩
    rw [List.length_append, List.length_singleton, show tk + ((dn.length + 1 : Nat) : Int) = tk + (dn.length : Int) + 1 from by push_cast; omega]
    have e1 : ∀ z, qRs (dn' ++ [z]) = qRs dn' ++ [qR z.1 z.2] := fun z => by simp [qRs]
    rw [e1]
    exact hL2
end
end Go.Proofs.YtcjnaljdbbjojaaGreatDoor
