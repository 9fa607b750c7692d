/- client: looks, begins, went, round, ends, comes, reads. Nothing is claimed here. -/
import Derived.Test.YtcjnaljdbbjojaaGreatDoorClb
namespace Go.Proofs.YtcjnaljdbbjojaaGreatDoor
open Go.RowKit
open Go.Maps (Keyed)
set_option linter.unusedVariables false
set_option linter.unusedSimpArgs false
set_option maxRecDepth 100000

theorem one_num {u : Value} {n : Int} (h : u ∈ [Value.int .i64 n]) : (cellsL u).length = 1 := by
  simp only [List.mem_singleton] at h; subst h; rfl
/-- worlds in which a client and a call stand as they did, but for what goes changes -/
def Cls (cb qb cm : Nat) (g bg : Int) (rv : Value) (q : QS) (x : World) : Prop := ∃ tk ov a b c d, Blk x cb (cC g bg tk cm rv ov) 60 ∧ Blk x qb (qC { q with step := a, waited := b, tk := c, sent := d }) 70
theorem Cls.ldc {cb qb cm : Nat} {g bg : Int} {rv : Value} {q : QS} {x : World} (h : Cls cb qb cm g bg rv q x) {i : Nat} {v : Value} {t : TypeId} {dd : Td} (hv : ∀ tk ov, lget (cC g bg tk cm rv ov) i = some v) (hl : look TT t = some dd) (ha : dd.sh.agg = false) : Ld Tryz.prog x t ⟨cb, i, none⟩ fun u => u = v := by
  obtain ⟨tk, ov, a, b, c, d, h1, h2⟩ := h
  exact Ld.blk ttOk hl ha h1 (by rw [← lget_eq]; exact hv tk ov) rfl
theorem Cls.ldq {cb qb cm : Nat} {g bg : Int} {rv : Value} {q : QS} {x : World} (h : Cls cb qb cm g bg rv q x) {i : Nat} {v : Value} {t : TypeId} {dd : Td} (hv : ∀ a b c d, lget (qC { q with step := a, waited := b, tk := c, sent := d }) i = some v) (hl : look TT t = some dd) (ha : dd.sh.agg = false) : Ld Tryz.prog x t ⟨qb, i, none⟩ fun u => u = v := by
  obtain ⟨tk, ov, a, b, c, d, h1, h2⟩ := h
  exact Ld.blk ttOk hl ha h2 (by rw [← lget_eq]; exact hv a b c d) rfl
theorem Cls.mk' {B cb qb cm : Nat} {g bg : Int} {rv : Value} {q : QS} {w0 x : World} {L' : List Res} {tk : Int} {ov : Value} {a b c : Int} {d : Value} (h : Sep Tryz.prog B w0 x L') (h1 : cR cb g bg tk cm rv ov ∈ L') (h2 : qR qb { q with step := a, waited := b, tk := c, sent := d } ∈ L') : Cls cb qb cm g bg rv q x := ⟨tk, ov, a, b, c, d, h.hold _ h1, h.hold _ h2⟩
theorem Sent.cls {B cb qb cm : Nat} {g bg tk : Int} {rv : Value} {q q1 : QS} {w0 x : World} {m : Nat} {ms : List Value} {to kind : Int} {nums : List Int} {d : List UInt8} {R : List Res} (h : Sent B w0 x cb qb cm g bg tk rv q1 m ms to kind nums d R) (a : Int) (he : q1 = { q with step := a }) : Cls cb qb cm g bg rv q x := by
  obtain ⟨ov', nv', dv', sm, h1, h2⟩ := h
  subst he
  exact Cls.mk' h2 (.head _) (.tail _ (.head _))
section
variable {B : Nat} {w0 w : World}
set_option maxHeartbeats 8000000 in
theorem looks_fn (cb qb cm : Nat) (g bg tk : Int) (rv ov : Value) (q : QS) (step : Int) (m : Nat) (ms : List Value) (R : List Res) (htk : 0 ≤ tk ∧ tk < 1000000) (hg : 0 ≤ g ∧ g ≤ 2) (hm : m ≤ 1000)
    (hL : Sep Tryz.prog B w0 w (cR cb g bg tk cm rv ov :: qR qb q :: .row 42 5 ov m ms :: R)) (hB : B ≤ w.heap.size) :
    Fn Tryz.prog 32 #[ptrN cb, ptrN qb, .int .i64 step] w fun r w' => r = .tuple #[] ∧ Sent B w0 w' cb qb cm g bg tk rv { q with step := step, master := g } m ms g 50 [4, q.vol] [] R := by
  unfold cR cC qR qC at hL
  refine Fn.mk Tryz.func32 rfl (by kernel_rfl) Tryz.ntmps32 rfl (by rw [Tryz.results32]) ?_
  repeat (first | (refine RunH ?_; intro w hL hB; try clear w) | (refine Both.mk ?_ ?_ <;> conv => whnf) | fail)
  obtain ⟨q1, hq1⟩ : ∃ q1 : QS, q1 = { q with master := g } := ⟨_, rfl⟩
  replace hL : Sep Tryz.prog B w0 w (cR cb g bg tk cm rv ov :: qR qb q1 :: .row 42 5 ov m ms :: R) := by rw [hq1]; exact hL
  refine V.tree ttOk (Cls cb qb cm g bg rv q1) (.q 0 (.q 1 (.q 2 (.q 3 (.q 4 (.q 5 (.q 6 (.q 8 (.q 9 (.q 10 (.q 11 (.q 12 (.q 13 (.alt 7 (.alt 14 (.alt 15 .nil .stop) .stop) (.alt 14 (.alt 7 (.alt 15 .nil .stop) .stop) .stop))))))))))))))) mixed (by decide +kernel) (Cls.mk' hL.drew (.head _) (.tail _ (.head _))) ?_
  replace hL := hL.drew
  conv => whnf
  repeat' (first | (refine RunH ?_; intro w hL hB; try clear w) | (refine Br.dec (fun hbr => ?_) (fun hbr => ?_) <;> conv => whnf) | (refine Br.mk (fun hbr => ?_) (fun hbr => ?_) <;> conv => whnf) | (refine Both.mk ?_ ?_ <;> conv => whnf) | (refine Lq.of_class (fun x hx => Cls.ldc hx (fun _ _ => rfl) rfl rfl) ?_; conv => whnf) | (refine Lq.of_class (fun x hx => Cls.ldq (v := .int .i64 q1.vol) hx (fun _ _ _ _ => rfl) rfl rfl) ?_; conv => whnf) | (refine And.intro (Cls.mk' hL (by repeat (first | exact .head _ | apply List.Mem.tail)) (by repeat (first | exact .head _ | apply List.Mem.tail))) ?_; conv => whnf) | (refine Rv.buildS (len := 1) (vs := [.int .i64 g]) ttOk hL tl40 tl3 rfl rfl (by intro u hu; exact one_num hu) (by decide) (by decide) hB (fun ba w hL hB => ?_); conv => whnf) | (refine Rv.buildS (len := 2) (vs := [.int .i64 4, .int .i64 q1.vol]) ttOk hL tl40 tl3 rfl rfl (by intro u hu; simp only [List.mem_cons, List.not_mem_nil, or_false] at hu; rcases hu with rfl | rfl <;> rfl) (by decide) (by decide) hB (fun bb w hL hB => ?_); conv => whnf) | fail)
  all_goals
    refine (goes_fn cb qb cm g bg tk rv ov q1 step 50 (.slice none 0 0) (.slice (some ⟨ba, 0, none⟩) 1 1) (.slice (some ⟨bb, 0, none⟩) 2 2) [] g [4, q1.vol] m ms _ htk (by omega) hm (by simp) ((hL.nilRow 5 1).perm (p33 _ _ _ _ _ _ _)) hB (.head _) (by repeat (first | exact .head _ | apply List.Mem.tail)) (by repeat (first | exact .head _ | apply List.Mem.tail)) (by simp)).mono fun r w hr => ?_
    obtain ⟨hr, hS⟩ := hr
    subst hr
    replace hS : Sent B w0 w cb qb cm g bg tk rv { q1 with step := step } m ms g 50 [4, q1.vol] [] _ := hS
    replace hS := hS.sub (sub3 _ _ _ _)
    conv => whnf
    refine ⟨hS.cls _ rfl, ?_⟩
    conv => whnf
    refine RunR ?_
    subst hq1
    exact ⟨rfl, hS⟩
set_option maxHeartbeats 8000000 in
theorem begins_fn (cb qb cm : Nat) (g bg tk : Int) (rv ov : Value) (q : QS) (m : Nat) (ms : List Value) (R : List Res) (htk : 0 ≤ tk ∧ tk < 1000000) (hg : 0 ≤ g ∧ g ≤ 2) (hm : m ≤ 1000) (hsl : 0 ≤ q.salt ∧ q.salt < 4294967296)
    (hL : Sep Tryz.prog B w0 w (cR cb g bg tk cm rv ov :: qR qb q :: .row 42 5 ov m ms :: R)) (hB : B ≤ w.heap.size) :
    Fn Tryz.prog 18 #[ptrN cb, ptrN qb] w fun r w' => r = .tuple #[] ∧ if q.kind = 1 then Sent B w0 w' cb qb cm g bg tk rv { q with step := 0, master := g } m ms g 50 [3, q.salt] [] R else Sent B w0 w' cb qb cm g bg tk rv { q with step := 1, master := g } m ms g 50 [4, q.vol] [] R := by
  by_cases hk : q.kind = 1
  case neg =>
    have hlk := fun w hL hB => looks_fn (B := B) (w0 := w0) (w := w) cb qb cm g bg tk rv ov q 1 m ms R htk hg hm hL hB
    unfold cR cC qR qC at hL
    refine Fn.mk Tryz.func18 rfl (by kernel_rfl) Tryz.ntmps18 rfl (by rw [Tryz.results18]) ?_
    repeat (first | (refine RunH ?_; intro w hL hB; try clear w) | (refine Both.mk ?_ ?_ <;> conv => whnf) | fail)
    refine (hlk _ hL hB).mono fun r w hr => ?_
    obtain ⟨hr, hS⟩ := hr
    subst hr
    conv => whnf
    refine RunR ?_
    exact ⟨rfl, by rw [if_neg hk]; exact hS⟩
  unfold cR cC qR qC at hL
  rw [hk] at hL
  refine Fn.mk Tryz.func18 rfl (by kernel_rfl) Tryz.ntmps18 rfl (by rw [Tryz.results18]) ?_
  repeat (first | (refine RunH ?_; intro w hL hB; try clear w) | (refine Both.mk ?_ ?_ <;> conv => whnf) | fail)
  obtain ⟨q1, hq1⟩ : ∃ q1 : QS, q1 = { q with master := g } := ⟨_, rfl⟩
  replace hL : Sep Tryz.prog B w0 w (cR cb g bg tk cm rv ov :: qR qb q1 :: .row 42 5 ov m ms :: R) := by rw [hq1]; unfold cR cC qR qC; dsimp only; rw [hk]; exact hL
  have hs1 : q1.salt = q.salt := by rw [hq1]
  refine V.tree ttOk (Cls cb qb cm g bg rv q1) (.q 0 (.q 1 (.q 2 (.q 3 (.q 4 (.q 5 (.q 7 (.q 8 (.q 9 (.q 10 (.q 11 (.alt 6 (.alt 12 (.alt 13 .nil .stop) .stop) (.alt 12 (.alt 6 (.alt 13 .nil .stop) .stop) .stop))))))))))))) mixed (by decide +kernel) (Cls.mk' hL.drew (.head _) (.tail _ (.head _))) ?_
  replace hL := hL.drew
  conv => whnf
  repeat' (first | (refine RunH ?_; intro w hL hB; try clear w) | (refine Br.dec (fun hbr => ?_) (fun hbr => ?_) <;> conv => whnf) | (refine Br.mk (fun hbr => ?_) (fun hbr => ?_) <;> conv => whnf) | (refine Both.mk ?_ ?_ <;> conv => whnf) | (refine Lq.of_class (fun x hx => Cls.ldc hx (fun _ _ => rfl) rfl rfl) ?_; conv => whnf) | (refine Lq.of_class (fun x hx => Cls.ldq (v := .int .u32 q1.salt) hx (fun _ _ _ _ => rfl) rfl rfl) ?_; conv => whnf) | (refine And.intro (Cls.mk' hL (by repeat (first | exact .head _ | apply List.Mem.tail)) (by repeat (first | exact .head _ | apply List.Mem.tail))) ?_; conv => whnf) | (refine Rv.buildS (len := 1) (vs := [.int .i64 g]) ttOk hL tl40 tl3 rfl rfl (by intro u hu; exact one_num hu) (by decide) (by decide) hB (fun ba w hL hB => ?_); conv => whnf) | (refine Rv.buildS (len := 2) (vs := [.int .i64 3, .int .i64 q1.salt]) ttOk hL tl40 tl3 rfl rfl (by intro u hu; simp only [List.mem_cons, List.not_mem_nil, or_false] at hu; rcases hu with rfl | rfl <;> rfl) (by decide) (by decide) hB (fun bb w hL hB => ?_); conv => whnf) | fail)
  all_goals
    refine (goes_fn cb qb cm g bg tk rv ov q1 0 50 (.slice none 0 0) (.slice (some ⟨ba, 0, none⟩) 1 1) (.slice (some ⟨bb, 0, none⟩) 2 2) [] g [3, q1.salt] m ms _ htk (by omega) hm (by simp) ((hL.nilRow 5 1).perm (p33 _ _ _ _ _ _ _)) hB (.head _) (by repeat (first | exact .head _ | apply List.Mem.tail)) (by repeat (first | exact .head _ | apply List.Mem.tail)) (by simp)).mono fun r w hr => ?_
    obtain ⟨hr, hS⟩ := hr
    subst hr
    replace hS : Sent B w0 w cb qb cm g bg tk rv { q1 with step := 0 } m ms g 50 [3, q1.salt] [] _ := hS
    replace hS := hS.sub (sub3 _ _ _ _)
    conv => whnf
    refine ⟨hS.cls _ rfl, ?_⟩
    conv => whnf
    refine RunR ?_
    subst hq1
    exact ⟨rfl, by rw [if_pos hk]; exact hS⟩
theorem went_fn (cb cm : Nat) (g bg tk : Int) (rv ov : Value) (R : List Res) (hrv : ∃ a n c, rv = .slice a n c) (hov : ∃ a n c, ov = .slice a n c) (hL : Sep Tryz.prog B w0 w (cR cb g bg tk cm rv ov :: R)) (hB : B ≤ w.heap.size) :
    Fn Tryz.prog 19 #[ptrN cb] w fun r w' => r = .tuple #[rv, ov] ∧ B ≤ w'.heap.size ∧ Sep Tryz.prog B w0 w' (cR cb g bg tk cm (.slice none 0 0) (.slice none 0 0) :: R) := by
  obtain ⟨a1, n1, c1, rfl⟩ := hrv
  obtain ⟨a2, n2, c2, rfl⟩ := hov
  unfold cR cC at hL
  refine Fn.mk Tryz.func19 rfl (by kernel_rfl) Tryz.ntmps19 rfl (by rw [Tryz.results19]) ?_
  repeat (first | (refine RunK ?_; intro w hL hB; try clear w) | (refine V.treeA ttOk hL (.q 0 (.q 1 (.q 2 (.q 3 (.q 4 (.q 5 (.q 6 (.q 7 (.q 8 (.q 9 .nil)))))))))) mixed (by decide +kernel) ?_; replace hL := hL.drew; conv => whnf) | (refine V.tailA ttOk mixed (by decide +kernel) ?_; replace hL := hL.drew; conv => whnf) | (refine Both.mk ?_ ?_ <;> conv => whnf) | fail)
  exact ⟨rfl, hB, hL⟩
theorem round_fn (cb qb cm : Nat) (g bg tk : Int) (rv ov : Value) (q : QS) (ticks : Int) (R : List Res) (ht : 0 ≤ q.tried ∧ q.tried < 19) (hL : Sep Tryz.prog B w0 w (cR cb g bg tk cm rv ov :: qR qb q :: R)) (hB : B ≤ w.heap.size) :
    Fn Tryz.prog 22 #[ptrN cb, ptrN qb, .int .i64 ticks] w fun r w' => r = .tuple #[] ∧ B ≤ w'.heap.size ∧ Sep Tryz.prog B w0 w' (cR cb g bg tk cm rv ov :: qR qb { q with tried := q.tried + 1, step := 6, waited := 0, pause := ticks, sent := .map none } :: R) := by
  unfold cR cC qR qC at hL
  refine Fn.mk Tryz.func22 rfl (by kernel_rfl) Tryz.ntmps22 rfl (by rw [Tryz.results22]) ?_
  repeat (first | (refine RunH ?_; intro w hL hB; try clear w) | (refine Both.mk ?_ ?_ <;> conv => whnf) | fail)
  exact ⟨rfl, hB, hL⟩
end
end Go.Proofs.YtcjnaljdbbjojaaGreatDoor
