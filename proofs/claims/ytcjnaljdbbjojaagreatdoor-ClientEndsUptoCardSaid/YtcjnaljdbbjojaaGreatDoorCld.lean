/- client: ends, comes, reads. Nothing is claimed here. -/
import Derived.Test.YtcjnaljdbbjojaaGreatDoorClc
namespace Go.Proofs.YtcjnaljdbbjojaaGreatDoor
open Go.RowKit
open Go.Maps (Keyed)
set_option linter.unusedVariables false
set_option linter.unusedSimpArgs false
set_option maxRecDepth 100000

def rC (num err vol key ck : Int) (dv : Value) : List Value := [.int .i64 num, .int .i64 err, .int .i64 vol, .int .u64 key, .int .u32 ck, dv]
theorem rC_one {num err vol key ck : Int} {a : Option Addr} {n c : Nat} : ∀ u ∈ rC num err vol key ck (.slice a n c), u.oneCell' = true := by
  intro u hu
  simp only [rC, List.mem_cons, List.not_mem_nil, or_false] at hu
  rcases hu with rfl | rfl | rfl | rfl | rfl | rfl <;> rfl
theorem gone_one {x v : Value} {l : List (Value × Value)} (h : Gone [(x, v)] x l) : l = [] := by
  generalize hm : [(x, v)] = m at h
  cases h with
  | no h => exact absurd rfl (h (x, v) (by rw [← hm]; simp))
  | yes A B u h =>
    rw [← hm] at h
    cases A with
    | nil => simp at h; simp [h.2]
    | cons a A => simp at h
theorem p43 {α : Type} (x y z f a b c : α) (R : List α) : (x :: y :: z :: f :: a :: b :: c :: R).Perm (a :: b :: c :: x :: y :: z :: f :: R) := by
  have := List.perm_append_comm (l₁ := [x, y, z, f]) (l₂ := [a, b, c])
  exact (this.append_right R)
theorem sub4 {α : Type} (a b c d : α) (l : List α) : l.Sublist (a :: b :: c :: d :: l) := .cons _ (.cons _ (.cons _ (.cons _ (.refl _))))
section
variable {B : Nat} {w0 w : World}
set_option maxHeartbeats 8000000 in
theorem ends_fn (cb qb cm : Nat) (g bg tk : Int) (rv ov : Value) (q : QS) (err vol key ck n0 : Int) (a : Option Addr) (n c : Nat) (m : Nat) (rs : List Value) (R : List Res) (hm : m ≤ 1000) (hnum : 0 ≤ q.num ∧ q.num ≤ 1000000)
    (hL : Sep Tryz.prog B w0 w (cR cb g bg tk cm rv ov :: qR qb q :: .mp 3 cm [(.int .i64 q.num, ptrN qb)] :: .row 51 6 rv m rs :: R)) (hB : B ≤ w.heap.size) :
    Fn Tryz.prog 23 #[ptrN cb, ptrN qb, .agg (rC n0 err vol key ck (.slice a n c)).toArray] w fun r w' => r = .tuple #[] ∧ ∃ rv', B ≤ w'.heap.size ∧
      Sep Tryz.prog B w0 w' (cR cb g bg tk cm rv' ov :: qR qb q :: .mp 3 cm [] :: .row 51 6 rv' (m + 1) (rs ++ rC q.num err vol key ck (.slice a n c)) :: R) := by
  obtain ⟨oa, oc, hov⟩ := (show SlN w 6 rv m rs from hL.rowN (i := 3) rfl).shape
  subst hov
  unfold cR cC qR qC at hL
  refine Fn.mk Tryz.func23 rfl (by kernel_rfl) Tryz.ntmps23 rfl (by rw [Tryz.results23]) ?_
  repeat (first | (refine RunH ?_; intro w hL hB; try clear w) | (refine Both.mk ?_ ?_ <;> conv => whnf) | fail)
  (refine Nw.sep hL hB (fun rb w hL hB hrb => ?_); conv => whnf)
  repeat (first | (refine RunH ?_; intro w hL hB; try clear w) | (refine Both.mk ?_ ?_ <;> conv => whnf) | fail)
  replace hL : Sep Tryz.prog B w0 w (.blk rb (rC q.num err vol key ck (.slice a n c)) 51 :: _) := hL
  have hcl : ∀ {x : World} {L' : List Res}, Sep Tryz.prog B w0 x L' → .blk rb (rC q.num err vol key ck (.slice a n c)) 51 ∈ L' → Blk x rb (rC q.num err vol key ck (.slice a n c)) 51 := fun h hm => h.hold _ hm
  refine V.tree ttOk (fun x => Blk x rb (rC q.num err vol key ck (.slice a n c)) 51) (.q 0 (.q 1 (.q 2 (.q 3 (.q 5 (.alt 4 (.alt 6 (.alt 7 (.q 8 (.q 9 (.alt 10 .nil .stop))) .stop) .stop) (.alt 6 (.alt 4 (.alt 7 (.q 8 (.q 9 (.alt 10 .nil .stop))) .stop) .stop) .stop))))))) mixed (by decide +kernel) (hcl hL.drew (.head _)) ?_
  replace hL := hL.drew
  conv => whnf
  repeat' (first | (refine RunH ?_; intro w hL hB; try clear w) | (refine Br.dec (fun hbr => ?_) (fun hbr => ?_) <;> conv => whnf) | (refine Br.mk (fun hbr => ?_) (fun hbr => ?_) <;> conv => whnf) | (refine Both.mk ?_ ?_ <;> conv => whnf) | (refine Lq.of_class (fun x hx => Ld.blks ttOk (rC q.num err vol key ck (.slice a n c)) rfl rfl hx rfl (fun j x h => by rw [Nat.zero_add]; exact h) rfl) ?_; conv => whnf) | (refine And.intro (hcl hL (by repeat (first | exact .head _ | apply List.Mem.tail))) ?_; conv => whnf) | (refine Rv.buildS (len := 1) (vs := [.agg (rC q.num err vol key ck (.slice a n c)).toArray]) ttOk hL tl43 tl51 rfl rfl (by intro u hu; simp only [List.mem_singleton] at hu; subst hu; rfl) (by decide) (by decide) hB fun bp w hL hB => ?_; replace hL : Sep Tryz.prog B w0 w (.row 51 6 (.slice (some ⟨bp, 0, none⟩) 1 1) 1 (rC q.num err vol key ck (.slice a n c)) :: _) := hL; conv => whnf) | (refine Rv.appendS (m := 1) (news := rC q.num err vol key ck (.slice a n c)) ttOk hL tl43 tl51 rfl (by decide) 5 rfl (hL.rowN (i := 0) rfl) rC_one (by simp only [maxLen]; omega) (by omega) hB fun vo w hL hB => ?_; dsimp only [List.set] at hL; obtain ⟨wa, wc, rfl⟩ := (show SlN w 6 vo (m + 1) _ from hL.rowN (i := 5) rfl).shape; conv => whnf) | fail)
  all_goals
    refine Rv.goneS ttOk hL intK 4 tl58 rfl (goodS (by omega)) hB fun w l' hg hL hB => ?_
    rw [gone_one hg] at hL
    dsimp only [List.set] at hL
    conv => whnf
    repeat (first | (refine RunH ?_; intro w hL hB; try clear w) | (refine Both.mk ?_ ?_ <;> conv => whnf) | fail)
    exact ⟨rfl, _, hB, hL.tl.tl⟩
set_option maxHeartbeats 8000000 in
/-- what a call comes to, that has no bytes to tell -/
theorem comes_none (cb qb cm : Nat) (g bg tk : Int) (rv ov : Value) (q : QS) (e : Int) (dv : Value) (m : Nat) (ms : List Value) (R : List Res) (he : ¬ (e = 0 ∧ q.kind = 3)) (htk : 0 ≤ tk ∧ tk < 1000000) (hg : 0 ≤ g ∧ g ≤ 2) (hm : m ≤ 1000)
    (hL : Sep Tryz.prog B w0 w (cR cb g bg tk cm rv ov :: qR qb q :: .row 42 5 ov m ms :: R)) (hB : B ≤ w.heap.size) :
    Fn Tryz.prog 37 #[ptrN cb, ptrN qb, .int .i64 e, dv] w fun r w' => r = .tuple #[] ∧ Sent B w0 w' cb qb cm g bg tk rv { q with outc := e, data := .slice none 0 0, step := 5, master := g } m ms g 50 [4, q.vol] [] R := by
  have hlk := fun w hL hB => looks_fn (B := B) (w0 := w0) (w := w) cb qb cm g bg tk rv ov { q with outc := e, data := .slice none 0 0 } 5 m ms R htk hg hm hL hB
  unfold cR cC qR qC at hL
  refine Fn.mk Tryz.func37 rfl (by kernel_rfl) Tryz.ntmps37 rfl (by rw [Tryz.results37]) ?_
  repeat (first | (refine RunH ?_; intro w hL hB; try clear w) | (refine Both.mk ?_ ?_ <;> conv => whnf) | fail)
  rcases (show e ≠ 0 ∨ (e = 0 ∧ q.kind ≠ 3) by omega) with h1 | ⟨h1, h2⟩
  · repeat (first | (refine RunH ?_; intro w hL hB; try clear w) | (refine Both.mk ?_ ?_ <;> conv => whnf) | fail)
    refine (hlk _ hL hB).mono fun r w hr => ?_
    obtain ⟨hr, hS⟩ := hr
    subst hr
    conv => whnf
    refine RunR ?_
    exact ⟨rfl, hS⟩
  · repeat (first | (refine RunH ?_; intro w hL hB; try clear w) | (refine Both.mk ?_ ?_ <;> conv => whnf) | fail)
    refine (hlk _ hL hB).mono fun r w hr => ?_
    obtain ⟨hr, hS⟩ := hr
    subst hr
    conv => whnf
    refine RunR ?_
    exact ⟨rfl, hS⟩
set_option maxHeartbeats 8000000 in
/-- .. and that has -/
theorem comes_data (cb qb cm : Nat) (g bg tk : Int) (rv ov : Value) (q : QS) (dv : Value) (d : List UInt8) (m : Nat) (ms : List Value) (R : List Res) (hk : q.kind = 3) (X : Res) (hd : X ∈ R) (hX : ∀ x, X.holds Tryz.prog x → Sl x dv (bv d)) (hdl : d.length ≤ 2147483648) (htk : 0 ≤ tk ∧ tk < 1000000) (hg : 0 ≤ g ∧ g ≤ 2) (hm : m ≤ 1000)
    (hL : Sep Tryz.prog B w0 w (cR cb g bg tk cm rv ov :: qR qb q :: .row 42 5 ov m ms :: R)) (hB : B ≤ w.heap.size) :
    Fn Tryz.prog 37 #[ptrN cb, ptrN qb, .int .i64 0, dv] w fun r w' => r = .tuple #[] ∧ ∃ dv', Sent B w0 w' cb qb cm g bg tk rv { q with outc := 0, data := dv', step := 5, master := g } m ms g 50 [4, q.vol] [] (bR dv' d :: R) := by
  obtain ⟨da, dc, rfl⟩ := (hX _ (hL.hold X (mm3 hd))).shape
  have hlk := fun w dv' hL hB => looks_fn (B := B) (w0 := w0) (w := w) cb qb cm g bg tk rv ov { q with outc := 0, data := dv' } 5 m ms (bR dv' d :: R) htk hg hm hL hB
  unfold cR cC qR qC at hL
  refine Fn.mk Tryz.func37 rfl (by kernel_rfl) Tryz.ntmps37 rfl (by rw [Tryz.results37]) ?_
  repeat (first | (refine RunH ?_; intro w hL hB; try clear w) | (refine Both.mk ?_ ?_ <;> conv => whnf) | fail)
  refine (cloneS_fn _ d _ (hX _ (hL.hold X (mm3 hd))) hdl).mono fun r w hr9 => ?_
  obtain ⟨hown, hbl⟩ := hr9
  replace hL := hL.addRow hB hbl hown
  replace hB := Nat.le_trans hB hbl.size
  obtain ⟨sa, sc, rfl⟩ := (hL.rowN (i := 0) rfl).shape
  clear hown hbl
  conv => whnf
  repeat (first | (refine RunH ?_; intro w hL hB; try clear w) | (refine Both.mk ?_ ?_ <;> conv => whnf) | fail)
  refine (hlk _ (.slice sa d.length sc) (hL.perm ((List.perm_append_comm (l₁ := [_]) (l₂ := [_, _, _])).append_right R)) hB).mono fun r w hr => ?_
  obtain ⟨hr, hS⟩ := hr
  subst hr
  conv => whnf
  refine RunR ?_
  exact ⟨rfl, _, hS⟩
set_option maxHeartbeats 16000000 in
theorem reads_fn (cb qb cm : Nat) (g bg tk : Int) (rv ov : Value) (q : QS) (n : Int) (ns : List Int) (m : Nat) (ms : List Value) (R : List Res) (hns : nR q.nodes (n :: ns) ∈ R) (hn : 0 ≤ n ∧ n ≤ 63) (hkey : 0 ≤ q.key ∧ q.key < 9223372036854775808) (hck : 0 ≤ q.ck ∧ q.ck < 4294967296) (htk : 0 ≤ tk ∧ tk < 1000000) (hm : m ≤ 1000)
    (hL : Sep Tryz.prog B w0 w (cR cb g bg tk cm rv ov :: qR qb q :: .row 42 5 ov m ms :: R)) (hB : B ≤ w.heap.size) :
    Fn Tryz.prog 36 #[ptrN cb, ptrN qb, .int .i64 0] w fun r w' => r = .tuple #[] ∧ Sent B w0 w' cb qb cm g bg tk rv { q with place := 0, step := 3 } m ms (3 + n) 21 [q.vol, q.ep, q.key, q.ck, 0] [] R := by
  have hns0 : nR q.nodes (n :: ns) ∈ R := hns
  obtain ⟨na, nc, hnv⟩ := (nR_sl (hL.hold (nR q.nodes (n :: ns)) (mm3 hns))).shape
  rw [hnv] at hns
  obtain ⟨nb, no, hnad, _⟩ := (nR_sl (hL.hold (nR _ (n :: ns)) (mm3 hns))).addr (by simp [numC])
  rw [hnad] at hns hnv
  rw [numC_len] at hns hnv
  have hnr : ∀ {x : World} {L' : List Res}, Sep Tryz.prog B w0 x L' → nR (.slice (some ⟨nb, no, none⟩) (n :: ns).length nc) (n :: ns) ∈ L' → Row x nb no (numC (n :: ns)) := fun h hm => (nR_sl (h.hold _ hm)).toN.rowOf
  have hlen : 1 ≤ (n :: ns).length := by simp
  unfold cR cC qR qC at hL
  rw [hnv] at hL
  refine Fn.mk Tryz.func36 rfl (by kernel_rfl) Tryz.ntmps36 rfl (by rw [Tryz.results36]) ?_
  repeat (first | (refine RunH ?_; intro w hL hB; try clear w) | (refine Both.mk ?_ ?_ <;> conv => whnf) | fail)
  (refine Nw.sep hL hB (fun fb w hL hB hfb => ?_); conv => whnf)
  repeat (first | (refine RunH ?_; intro w hL hB; try clear w) | (refine Both.mk ?_ ?_ <;> conv => whnf) | fail)
  obtain ⟨q1, hq1⟩ : ∃ q1 : QS, q1 = { q with place := 0 } := ⟨_, rfl⟩
  have hnv1 : q1.nodes = .slice (some ⟨nb, no, none⟩) (n :: ns).length nc := by rw [hq1]; exact hnv
  replace hL : Sep Tryz.prog B w0 w (.blk fb [.int .i64 q1.vol, .int .u64 q1.key, .int .u32 q1.ck] 36 :: cR cb g bg tk cm rv ov :: qR qb q1 :: .row 42 5 ov m ms :: R) := by rw [hq1]; unfold cR cC qR qC; dsimp only; rw [hnv]; exact hL
  have hcl : ∀ {x : World} {L' : List Res} {tk : Int} {ov : Value} {a b c : Int} {d : Value}, Sep Tryz.prog B w0 x L' → cR cb g bg tk cm rv ov ∈ L' → qR qb { q1 with step := a, waited := b, tk := c, sent := d } ∈ L' → .blk fb [.int .i64 q1.vol, .int .u64 q1.key, .int .u32 q1.ck] 36 ∈ L' → nR (.slice (some ⟨nb, no, none⟩) (n :: ns).length nc) (n :: ns) ∈ L' →
      Cls cb qb cm g bg rv q1 x ∧ Blk x fb [.int .i64 q1.vol, .int .u64 q1.key, .int .u32 q1.ck] 36 ∧ Row x nb no (numC (n :: ns)) := fun h a b c d => ⟨Cls.mk' h a b, h.hold _ c, hnr h d⟩
  have hk1 : q1.key = q.key := by rw [hq1]
  have hc1 : q1.ck = q.ck := by rw [hq1]
  refine V.tree ttOk (fun x => Cls cb qb cm g bg rv q1 x ∧ Blk x fb [.int .i64 q1.vol, .int .u64 q1.key, .int .u32 q1.ck] 36 ∧ Row x nb no (numC (n :: ns))) (.q 0 (.q 1 (.q 2 (.q 3 (.q 4 (.q 5 (.q 6 (.q 7 (.q 8 (.q 9 (.q 12 (.q 13 (.q 14 (.q 15 (.q 16 (.q 17 (.q 18 (.q 19 (.q 20 (.q 21 (.q 22 (.q 23 (.q 24 (.alt 10 (.alt 11 (.alt 25 (.alt 26 .nil .stop) .stop) (.alt 25 (.alt 11 (.alt 26 .nil .stop) .stop) .stop)) (.alt 25 (.alt 10 (.alt 11 (.alt 26 .nil .stop) .stop) .stop) .stop))))))))))))))))))))))))) mixed (by decide +kernel) (hcl hL.drew (.tail _ (.head _)) (.tail _ (.tail _ (.head _))) (.head _) (mm4 hns)) ?_
  replace hL := hL.drew
  conv => whnf
  repeat' (first | (refine RunH ?_; intro w hL hB; try clear w) | (refine Br.dec (fun hbr => ?_) (fun hbr => ?_) <;> conv => whnf) | (refine Br.mk (fun hbr => ?_) (fun hbr => ?_) <;> conv => whnf) | (refine Both.mk ?_ ?_ <;> conv => whnf) | (refine Lq.of_class (fun x hx => Cls.ldq (v := .slice (some ⟨nb, no, none⟩) (n :: ns).length nc) hx.1 (fun _ _ _ _ => congrArg some hnv1) rfl rfl) ?_; conv => whnf) | (refine Lq.of_class (fun x hx => Cls.ldq (v := .int .i64 q1.ep) hx.1 (fun _ _ _ _ => rfl) rfl rfl) ?_; conv => whnf) | (refine Lq.of_class (fun x hx => Ld.blk ttOk rfl rfl hx.2.1 rfl rfl) ?_; conv => whnf) | (intro o3 ho3; conv => whnf) | (refine Lq.of_class (fun x hx => Ld.row1 ttOk hx.2.2 rfl rfl (k := 0) (v := .int .i64 n) rfl (by omega) rfl) ?_; conv => whnf) | (refine (node_fn cb cm g bg tk rv ov _ n (by omega) hL (by repeat (first | exact .head _ | apply List.Mem.tail)) hB).mono fun r w' hr9 => ?_; obtain ⟨hr9, hw9⟩ := hr9; subst hr9; replace hw9 := hw9.symm; subst hw9; conv => whnf) | (refine And.intro (hcl hL (by repeat (first | exact .head _ | apply List.Mem.tail)) (by repeat (first | exact .head _ | apply List.Mem.tail)) (by repeat (first | exact .head _ | apply List.Mem.tail)) (by repeat (first | exact hns | exact .head _ | apply List.Mem.tail))) ?_; conv => whnf) | (refine Rv.buildS (len := 1) (vs := [.int .i64 (3 + n)]) ttOk hL tl40 tl3 rfl rfl (by intro u hu; exact one_num hu) (by decide) (by decide) hB (fun ba w hL hB => ?_); conv => whnf) | (refine Rv.buildS (len := 5) (vs := [.int .i64 q1.vol, .int .i64 q1.ep, .int .i64 q1.key, .int .i64 q1.ck, .int .i64 0]) ttOk hL tl40 tl3 rfl rfl (by intro u hu; simp only [List.mem_cons, List.not_mem_nil, or_false] at hu; rcases hu with rfl | rfl | rfl | rfl | rfl <;> rfl) (by decide) (by decide) hB (fun bb w hL hB => ?_); conv => whnf) | fail)
  all_goals
    refine (goes_fn cb qb cm g bg tk rv ov q1 3 21 (.slice none 0 0) (.slice (some ⟨ba, 0, none⟩) 1 1) (.slice (some ⟨bb, 0, none⟩) 5 5) [] (3 + n) [q1.vol, q1.ep, q1.key, q1.ck, 0] m ms _ htk (by omega) hm (by simp) ((hL.nilRow 5 1).perm (p43 _ _ _ _ _ _ _ _)) hB (.head _) (by repeat (first | exact .head _ | apply List.Mem.tail)) (by repeat (first | exact .head _ | apply List.Mem.tail)) (by simp)).mono fun r w hr => ?_
    obtain ⟨hr, hS⟩ := hr
    subst hr
    replace hS : Sent B w0 w cb qb cm g bg tk rv { q1 with step := 3 } m ms (3 + n) 21 [q1.vol, q1.ep, q1.key, q1.ck, 0] [] _ := hS
    have hcls2 : Cls cb qb cm g bg rv q1 w ∧ Blk w fb [.int .i64 q1.vol, .int .u64 q1.key, .int .u32 q1.ck] 36 ∧ Row w nb no (numC (n :: ns)) := by
      obtain ⟨ov', nv', dv', sm, h1, h2⟩ := hS
      exact hcl h2 (.head _) (.tail _ (.head _)) (by repeat (first | exact .head _ | apply List.Mem.tail)) (by repeat (first | exact hns | exact .head _ | apply List.Mem.tail))
    replace hS := hS.sub (sub4 _ _ _ _ _)
    conv => whnf
    refine ⟨hcls2, ?_⟩
    conv => whnf
    refine RunR ?_
    subst hq1
    exact ⟨rfl, hS⟩
end
end Go.Proofs.YtcjnaljdbbjojaaGreatDoor
