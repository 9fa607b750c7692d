/- client: looked, wrote, read. Nothing is claimed here. -/
import Derived.Test.YtcjnaljdbbjojaaGreatDoorCle
namespace Go.Proofs.YtcjnaljdbbjojaaGreatDoor
open Go.RowKit
open Go.Maps (Keyed)
set_option linter.unusedVariables false
set_option linter.unusedSimpArgs false
set_option maxRecDepth 100000

theorem p53 {α : Type} (x y u v z a b c : α) (R : List α) : (x :: y :: u :: v :: z :: a :: b :: c :: R).Perm (a :: b :: c :: x :: y :: u :: v :: z :: R) := by
  have := List.perm_append_comm (l₁ := [x, y, u, v, z]) (l₂ := [a, b, c])
  exact (this.append_right R)
theorem p34 {α : Type} (x y z a b c d : α) (R : List α) : (x :: y :: z :: a :: b :: c :: d :: R).Perm (a :: b :: c :: d :: x :: y :: z :: R) := by
  have := List.perm_append_comm (l₁ := [x, y, z]) (l₂ := [a, b, c, d])
  exact (this.append_right R)
section
variable {B : Nat} {w0 w : World}
set_option maxHeartbeats 16000000 in
theorem looked_put (cb qb cm : Nat) (g bg tk : Int) (rv ov : Value) (q : QS) (fr to kind n0 st ep fz n1 : Int) (nv dv : Value) (ns : List Int) (d : List UInt8) (m : Nat) (ms : List Value) (R : List Res) (hst : st = 0) (hfz : fz = 0) (hep : 1 ≤ ep ∧ ep ≤ 2147483647) (hn1 : 0 ≤ n1 ∧ n1 ≤ 63) (hnl : ns.length ≤ 1000) (hds : ∃ a n c, dv = .slice a n c)
    (hk : q.kind = 2) (hw : 0 ≤ q.writes ∧ q.writes ≤ 1000) (hkey : 0 ≤ q.key ∧ q.key < 9223372036854775808) (hck : 0 ≤ q.ck ∧ q.ck < 4294967296) (hxd : bR q.xd d ∈ R) (hdl : d.length ≤ 2147483648) (htk : 0 ≤ tk ∧ tk < 1000000) (hm : m ≤ 1000)
    (hL : Sep Tryz.prog B w0 w (cR cb g bg tk cm rv ov :: qR qb q :: .row 42 5 ov m ms :: R)) (hB : B ≤ w.heap.size) (hns : nR nv (n0 :: 0 :: q.vol :: st :: ep :: fz :: n1 :: ns) ∈ R) :
    Fn Tryz.prog 24 #[ptrN cb, ptrN qb, msV fr to kind nv dv, .int .i64 0] w fun r w' => r = .tuple #[] ∧ ∃ nv', Sent B w0 w' cb qb cm g bg tk rv { q with ep := ep, nodes := nv', writes := q.writes + 1, step := 2 } m ms (3 + n1) 20 [q.vol, ep, q.key, q.ck, 0] d (nR nv' (n1 :: ns) :: R) := by
  obtain ⟨da, dn, dc, rfl⟩ := hds
  obtain ⟨xa, xc, hxv⟩ := (bR_sl (hL.hold (bR q.xd d) (mm3 hxd))).shape
  obtain ⟨na, nc, rfl⟩ := (nR_sl (hL.hold (nR nv (n0 :: 0 :: q.vol :: st :: ep :: fz :: n1 :: ns)) (mm3 hns))).shape
  obtain ⟨nb, no, rfl, _⟩ := (nR_sl (hL.hold (nR _ (n0 :: 0 :: q.vol :: st :: ep :: fz :: n1 :: ns)) (mm3 hns))).addr (by simp [numC])
  rw [numC_len] at hns ⊢
  have hnr : ∀ {x : World} {L' : List Res}, Sep Tryz.prog B w0 x L' → nR (.slice (some ⟨nb, no, none⟩) (n0 :: 0 :: q.vol :: st :: ep :: fz :: n1 :: ns).length nc) (n0 :: 0 :: q.vol :: st :: ep :: fz :: n1 :: ns) ∈ L' → Sl x (.slice (some ⟨nb, no, none⟩) (n0 :: 0 :: q.vol :: st :: ep :: fz :: n1 :: ns).length nc) (numC (n0 :: 0 :: q.vol :: st :: ep :: fz :: n1 :: ns)) := fun h hm => nR_sl (h.hold _ hm)
  have hlen : 7 ≤ (n0 :: 0 :: q.vol :: st :: ep :: fz :: n1 :: ns).length := by simp
  have hdr : (numC (n0 :: 0 :: q.vol :: st :: ep :: fz :: n1 :: ns)).drop 6 = numC (n1 :: ns) := rfl
  have hle : (numC (n0 :: 0 :: q.vol :: st :: ep :: fz :: n1 :: ns)).length = (n0 :: 0 :: q.vol :: st :: ep :: fz :: n1 :: ns).length := numC_len _
  have hlc := (nR_sl (hL.hold _ (mm3 hns))).len.2.1
  generalize hln : (n0 :: 0 :: q.vol :: st :: ep :: fz :: n1 :: ns).length = ln at *
  unfold cR cC qR qC at hL
  unfold msV
  refine Fn.mk Tryz.func24 rfl (by kernel_rfl) Tryz.ntmps24 rfl (by rw [Tryz.results24]) ?_
  repeat (first | (refine RunH ?_; intro w hL hB; try clear w) | (refine Both.mk ?_ ?_ <;> conv => whnf) | fail)
  (refine Nw.sep hL hB (fun mb w hL hB hmb => ?_); conv => whnf)
  repeat (first | (refine RunH ?_; intro w hL hB; try clear w) | (refine Both.mk ?_ ?_ <;> conv => whnf) | fail)
  have hcl6 : ∀ {x : World} {L' : List Res}, Sep Tryz.prog B w0 x L' → .blk mb [.int .i64 fr, .int .i64 to, .int .i64 kind, .slice (some ⟨nb, no, none⟩) ln nc, .slice da dn dc] 42 ∈ L' → nR (.slice (some ⟨nb, no, none⟩) ln nc) (n0 :: 0 :: q.vol :: st :: ep :: fz :: n1 :: ns) ∈ L' → Blk x mb [.int .i64 fr, .int .i64 to, .int .i64 kind, .slice (some ⟨nb, no, none⟩) ln nc, .slice da dn dc] 42 ∧ Sl x (.slice (some ⟨nb, no, none⟩) ln nc) (numC (n0 :: 0 :: q.vol :: st :: ep :: fz :: n1 :: ns)) := fun h a b => ⟨h.hold _ a, hnr h b⟩
  refine V.treeA ttOk hL (.q 0 (.q 1 (.q 2 (.q 3 (.q 4 (.q 5 (.q 6 (.q 7 (.q 8 (.alt 9 (.q 10 (.alt 11 .nil .stop)) .stop)))))))))) mixed (by decide +kernel) ?_
  replace hL := hL.drew
  conv => whnf
  repeat' (first | (refine RunH ?_; intro w hL hB; try clear w) | (refine Br.dec (fun hbr => ?_) (fun hbr => ?_) <;> conv => whnf) | (refine Br.mk (fun hbr => ?_) (fun hbr => ?_) <;> conv => whnf) | (refine Both.mk ?_ ?_ <;> conv => whnf) | (intro o9 ho9; conv => whnf) | (refine Lq.of_class (fun x hx => Ld.row1 ttOk (hnr hx (by repeat (first | exact hns | exact .head _ | apply List.Mem.tail))).toN.rowOf rfl rfl (k := 3) (v := .int .i64 st) rfl (by omega) rfl) ?_; conv => whnf) | fail)
  (refine Nw.sep hL hB (fun fb w hL hB hfb => ?_); conv => whnf)
  refine And.intro hL.tl ?_
  conv => whnf
  repeat (first | (refine RunH ?_; intro w hL hB; try clear w) | (refine Both.mk ?_ ?_ <;> conv => whnf) | fail)
  replace hL : Sep Tryz.prog B w0 w (.blk fb [.int .i64 q.vol, .int .u64 q.key, .int .u32 q.ck] 36 :: _) := hL
  refine V.tree ttOk (fun x => Blk x mb [.int .i64 fr, .int .i64 to, .int .i64 kind, .slice (some ⟨nb, no, none⟩) ln nc, .slice da dn dc] 42 ∧ Sl x (.slice (some ⟨nb, no, none⟩) ln nc) (numC (n0 :: 0 :: q.vol :: st :: ep :: fz :: n1 :: ns))) (.q 0 (.q 1 (.q 2 (.q 3 (.q 4 (.q 5 (.q 6 (.q 7 (.q 8 (.alt 9 (.q 10 (.q 11 (.alt 12 (.q 13 (.q 14 (.alt 15 .nil .stop))) .stop))) .stop)))))))))) mixed (by decide +kernel) (hcl6 hL.drew (by repeat (first | exact .head _ | apply List.Mem.tail)) (by repeat (first | exact hns | exact .head _ | apply List.Mem.tail))) ?_
  replace hL := hL.drew
  conv => whnf
  repeat' (first | (refine RunH ?_; intro w hL hB; try clear w) | (refine Br.dec (fun hbr => ?_) (fun hbr => ?_) <;> conv => whnf) | (refine Br.mk (fun hbr => ?_) (fun hbr => ?_) <;> conv => whnf) | (refine Both.mk ?_ ?_ <;> conv => whnf) | (refine Lq.of_class (fun x hx => Ld.blk ttOk rfl rfl hx.1 rfl rfl) ?_; conv => whnf) | (intro o5 n5 c5 g1 g2 g3 g4; conv => whnf) | (intro o9 ho9; conv => whnf) | (refine Lq.of_class (fun x hx => Ld.row1 ttOk hx.2.toN.rowOf rfl rfl (k := 4) (v := .int .i64 ep) rfl (by omega) rfl) ?_; conv => whnf) | (refine And.intro (hcl6 hL (by repeat (first | exact .head _ | apply List.Mem.tail)) (by repeat (first | exact hns | exact .head _ | apply List.Mem.tail))) ?_; conv => whnf) | (refine (cloneI_fn _ (n1 :: ns) _ (by have h := (hnr hL (by repeat (first | exact hns | exact .head _ | apply List.Mem.tail))).drop (k := 6) (o' := o5) (n' := n5) (c' := c5) (by omega) (fun h => by have := g1 (by omega); omega) (by omega) (by omega); rw [hdr] at h; exact h) (by rw [List.length_cons]; omega)).mono fun r w hr9 => ?_; obtain ⟨hown, hbl⟩ := hr9; replace hL := hL.addRow hB hbl hown; replace hB := Nat.le_trans hB hbl.size; obtain ⟨sa, sc, rfl⟩ := (hL.rowN (i := 0) rfl).shape; clear hown hbl; conv => whnf) | fail)
  refine Ld.row1 ttOk (hnr hL (by repeat (first | exact hns | exact .head _ | apply List.Mem.tail))).toN.rowOf rfl rfl (k := 5) (v := .int .i64 fz) rfl (by omega) ?_
  conv => whnf
  repeat (first | (refine RunK ?_; intro w hL hB; try clear w) | (refine V.treeA ttOk hL (.q 0 (.q 1 (.q 2 (.q 3 (.q 4 (.q 5 (.q 6 .nil))))))) mixed (by decide +kernel) ?_; replace hL := hL.drew; conv => whnf) | (refine V.tailA ttOk mixed (by decide +kernel) ?_; replace hL := hL.drew; conv => whnf) | (refine Both.mk ?_ ?_ <;> conv => whnf) | fail)
  obtain ⟨sb, so, rfl, _⟩ := (nR_sl (hL.hold (nR (.slice sa (n1 :: ns).length sc) (n1 :: ns)) (.head _))).addr (by simp [numC])
  obtain ⟨q1, hq1⟩ : ∃ q1 : QS, q1 = { q with ep := ep, nodes := .slice (some ⟨sb, so, none⟩) (n1 :: ns).length sc, writes := q.writes + 1 } := ⟨_, rfl⟩
  replace hL : Sep Tryz.prog B w0 w (nR (.slice (some ⟨sb, so, none⟩) (n1 :: ns).length sc) (n1 :: ns) :: .blk fb [.int .i64 q1.vol, .int .u64 q1.key, .int .u32 q1.ck] 36 :: .blk mb [.int .i64 fr, .int .i64 to, .int .i64 kind, .slice (some ⟨nb, no, none⟩) ln nc, .slice da dn dc] 42 :: cR cb g bg tk cm rv ov :: qR qb q1 :: .row 42 5 ov m ms :: R) := by rw [hq1]; exact hL
  have hnv1 : q1.nodes = .slice (some ⟨sb, so, none⟩) (n1 :: ns).length sc := by rw [hq1]
  have hep1 : q1.ep = ep := by rw [hq1]
  have hxd1 : q1.xd = q.xd := by rw [hq1]
  have hk1 : q1.key = q.key := by rw [hq1]
  have hc1 : q1.ck = q.ck := by rw [hq1]
  have hlen1 : 1 ≤ (n1 :: ns).length := by simp
  have hcl : ∀ {x : World} {L' : List Res} {tk : Int} {ov : Value} {a b c : Int} {d : Value}, Sep Tryz.prog B w0 x L' → cR cb g bg tk cm rv ov ∈ L' → qR qb { q1 with step := a, waited := b, tk := c, sent := d } ∈ L' → .blk fb [.int .i64 q1.vol, .int .u64 q1.key, .int .u32 q1.ck] 36 ∈ L' → nR (.slice (some ⟨sb, so, none⟩) (n1 :: ns).length sc) (n1 :: ns) ∈ L' →
      Cls cb qb cm g bg rv q1 x ∧ Blk x fb [.int .i64 q1.vol, .int .u64 q1.key, .int .u32 q1.ck] 36 ∧ Row x sb so (numC (n1 :: ns)) := fun h a b c d => ⟨Cls.mk' h a b, h.hold _ c, (nR_sl (h.hold _ d)).toN.rowOf⟩
  refine V.tree ttOk (fun x => Cls cb qb cm g bg rv q1 x ∧ Blk x fb [.int .i64 q1.vol, .int .u64 q1.key, .int .u32 q1.ck] 36 ∧ Row x sb so (numC (n1 :: ns))) (.q 0 (.q 1 (.q 2 (.q 3 (.q 4 (.q 5 (.q 6 (.q 7 (.q 8 (.q 9 (.q 12 (.q 13 (.q 14 (.q 15 (.q 16 (.q 17 (.q 18 (.q 19 (.q 20 (.q 21 (.q 22 (.q 23 (.q 24 (.alt 10 (.alt 11 (.alt 25 (.alt 26 .nil .stop) .stop) (.alt 25 (.alt 11 (.alt 26 .nil .stop) .stop) .stop)) (.alt 25 (.alt 10 (.alt 11 (.alt 26 .nil .stop) .stop) .stop) .stop))))))))))))))))))))))))) mixed (by decide +kernel) (hcl hL.drew (by repeat (first | exact .head _ | apply List.Mem.tail)) (by repeat (first | exact .head _ | apply List.Mem.tail)) (by repeat (first | exact .head _ | apply List.Mem.tail)) (.head _)) ?_
  replace hL := hL.drew
  conv => whnf
  repeat' (first | (refine RunH ?_; intro w hL hB; try clear w) | (refine Br.dec (fun hbr => ?_) (fun hbr => ?_) <;> conv => whnf) | (refine Br.mk (fun hbr => ?_) (fun hbr => ?_) <;> conv => whnf) | (refine Both.mk ?_ ?_ <;> conv => whnf) | (refine Lq.of_class (fun x hx => Cls.ldq (v := .slice (some ⟨sb, so, none⟩) (n1 :: ns).length sc) hx.1 (fun _ _ _ _ => congrArg some hnv1) rfl rfl) ?_; conv => whnf) | (refine Lq.of_class (fun x hx => Cls.ldq (v := .int .i64 q1.ep) hx.1 (fun _ _ _ _ => rfl) rfl rfl) ?_; conv => whnf) | (refine Lq.of_class (fun x hx => Ld.blk ttOk rfl rfl hx.2.1 rfl rfl) ?_; conv => whnf) | (intro o3 ho3; conv => whnf) | (refine Lq.of_class (fun x hx => Ld.row1 ttOk hx.2.2 rfl rfl (k := 0) (v := .int .i64 n1) rfl (by omega) rfl) ?_; conv => whnf) | (refine (node_fn cb cm g bg tk rv ov _ n1 (by omega) hL (by repeat (first | exact .head _ | apply List.Mem.tail)) hB).mono fun r w' hr9 => ?_; obtain ⟨hr9, hw9⟩ := hr9; subst hr9; replace hw9 := hw9.symm; subst hw9; conv => whnf) | (refine And.intro (hcl hL (by repeat (first | exact .head _ | apply List.Mem.tail)) (by repeat (first | exact .head _ | apply List.Mem.tail)) (by repeat (first | exact .head _ | apply List.Mem.tail)) (by repeat (first | exact .head _ | apply List.Mem.tail))) ?_; conv => whnf) | (refine Rv.buildS (len := 1) (vs := [.int .i64 (3 + n1)]) ttOk hL tl40 tl3 rfl rfl (by intro u hu; exact one_num hu) (by decide) (by decide) hB (fun ba w hL hB => ?_); conv => whnf) | (refine Rv.buildS (len := 5) (vs := [.int .i64 q1.vol, .int .i64 q1.ep, .int .i64 q1.key, .int .i64 q1.ck, .int .i64 0]) ttOk hL tl40 tl3 rfl rfl (by intro u hu; simp only [List.mem_cons, List.not_mem_nil, or_false] at hu; rcases hu with rfl | rfl | rfl | rfl | rfl <;> rfl) (by decide) (by decide) hB (fun bb w hL hB => ?_); conv => whnf) | fail)
  all_goals
    refine (goes_fn cb qb cm g bg tk rv ov q1 2 20 q.xd (.slice (some ⟨ba, 0, none⟩) 1 1) (.slice (some ⟨bb, 0, none⟩) 5 5) d (3 + n1) [q1.vol, q1.ep, q1.key, q1.ck, 0] m ms _ htk (by omega) hm (by simp) (hL.perm (p53 _ _ _ _ _ _ _ _ _)) hB (mm3 (mm1 (mm1 hxd))) (by repeat (first | exact .head _ | apply List.Mem.tail)) (by repeat (first | exact .head _ | apply List.Mem.tail)) hdl).mono fun r w hr => ?_
    obtain ⟨hr, hS⟩ := hr
    subst hr
    replace hS : Sent B w0 w cb qb cm g bg tk rv { q1 with step := 2 } m ms (3 + n1) 20 [q1.vol, q1.ep, q1.key, q1.ck, 0] d _ := hS
    have hcls2 : Cls cb qb cm g bg rv q1 w ∧ Blk w fb [.int .i64 q1.vol, .int .u64 q1.key, .int .u32 q1.ck] 36 ∧ Row w sb so (numC (n1 :: ns)) := by
      obtain ⟨ov', nv', dv', sm, h1, h2⟩ := hS
      exact hcl h2 (.head _) (.tail _ (.head _)) (by repeat (first | exact .head _ | apply List.Mem.tail)) (by repeat (first | exact .head _ | apply List.Mem.tail))
    replace hS := hS.sub (R' := nR (.slice (some ⟨sb, so, none⟩) (n1 :: ns).length sc) (n1 :: ns) :: R) (.cons _ (.cons _ (.cons_cons _ (sub2 _ _ _))))
    conv => whnf
    refine ⟨hcls2, ?_⟩
    conv => whnf
    refine RunR ?_
    subst hq1
    exact ⟨rfl, _, hS⟩
set_option maxHeartbeats 16000000 in
theorem looked_get (cb qb cm : Nat) (g bg tk : Int) (rv ov : Value) (q : QS) (fr to kind n0 st ep fz n1 : Int) (nv dv : Value) (ns : List Int) (m : Nat) (ms : List Value) (R : List Res) (hst : st = 0) (hfz : fz = 0) (hep : 1 ≤ ep ∧ ep ≤ 2147483647) (hn1 : 0 ≤ n1 ∧ n1 ≤ 63) (hnl : ns.length ≤ 1000) (hds : ∃ a n c, dv = .slice a n c)
    (hk : q.kind = 3) (hkey : 0 ≤ q.key ∧ q.key < 9223372036854775808) (hck : 0 ≤ q.ck ∧ q.ck < 4294967296) (htk : 0 ≤ tk ∧ tk < 1000000) (hm : m ≤ 1000)
    (hL : Sep Tryz.prog B w0 w (cR cb g bg tk cm rv ov :: qR qb q :: .row 42 5 ov m ms :: R)) (hB : B ≤ w.heap.size) (hns : nR nv (n0 :: 0 :: q.vol :: st :: ep :: fz :: n1 :: ns) ∈ R) :
    Fn Tryz.prog 24 #[ptrN cb, ptrN qb, msV fr to kind nv dv, .int .i64 0] w fun r w' => r = .tuple #[] ∧ ∃ nv', Sent B w0 w' cb qb cm g bg tk rv { q with ep := ep, nodes := nv', place := 0, step := 3 } m ms (3 + n1) 21 [q.vol, ep, q.key, q.ck, 0] [] (nR nv' (n1 :: ns) :: R) := by
  obtain ⟨da, dn, dc, rfl⟩ := hds
  obtain ⟨na, nc, rfl⟩ := (nR_sl (hL.hold (nR nv (n0 :: 0 :: q.vol :: st :: ep :: fz :: n1 :: ns)) (mm3 hns))).shape
  obtain ⟨nb, no, rfl, _⟩ := (nR_sl (hL.hold (nR _ (n0 :: 0 :: q.vol :: st :: ep :: fz :: n1 :: ns)) (mm3 hns))).addr (by simp [numC])
  rw [numC_len] at hns ⊢
  have hnr : ∀ {x : World} {L' : List Res}, Sep Tryz.prog B w0 x L' → nR (.slice (some ⟨nb, no, none⟩) (n0 :: 0 :: q.vol :: st :: ep :: fz :: n1 :: ns).length nc) (n0 :: 0 :: q.vol :: st :: ep :: fz :: n1 :: ns) ∈ L' → Sl x (.slice (some ⟨nb, no, none⟩) (n0 :: 0 :: q.vol :: st :: ep :: fz :: n1 :: ns).length nc) (numC (n0 :: 0 :: q.vol :: st :: ep :: fz :: n1 :: ns)) := fun h hm => nR_sl (h.hold _ hm)
  have hlen : 7 ≤ (n0 :: 0 :: q.vol :: st :: ep :: fz :: n1 :: ns).length := by simp
  have hdr : (numC (n0 :: 0 :: q.vol :: st :: ep :: fz :: n1 :: ns)).drop 6 = numC (n1 :: ns) := rfl
  have hle : (numC (n0 :: 0 :: q.vol :: st :: ep :: fz :: n1 :: ns)).length = (n0 :: 0 :: q.vol :: st :: ep :: fz :: n1 :: ns).length := numC_len _
  have hlc := (nR_sl (hL.hold _ (mm3 hns))).len.2.1
  generalize hln : (n0 :: 0 :: q.vol :: st :: ep :: fz :: n1 :: ns).length = ln at *
  unfold cR cC qR qC at hL
  unfold msV
  refine Fn.mk Tryz.func24 rfl (by kernel_rfl) Tryz.ntmps24 rfl (by rw [Tryz.results24]) ?_
  repeat (first | (refine RunH ?_; intro w hL hB; try clear w) | (refine Both.mk ?_ ?_ <;> conv => whnf) | fail)
  (refine Nw.sep hL hB (fun mb w hL hB hmb => ?_); conv => whnf)
  repeat (first | (refine RunH ?_; intro w hL hB; try clear w) | (refine Both.mk ?_ ?_ <;> conv => whnf) | fail)
  have hcl6 : ∀ {x : World} {L' : List Res}, Sep Tryz.prog B w0 x L' → .blk mb [.int .i64 fr, .int .i64 to, .int .i64 kind, .slice (some ⟨nb, no, none⟩) ln nc, .slice da dn dc] 42 ∈ L' → nR (.slice (some ⟨nb, no, none⟩) ln nc) (n0 :: 0 :: q.vol :: st :: ep :: fz :: n1 :: ns) ∈ L' → Blk x mb [.int .i64 fr, .int .i64 to, .int .i64 kind, .slice (some ⟨nb, no, none⟩) ln nc, .slice da dn dc] 42 ∧ Sl x (.slice (some ⟨nb, no, none⟩) ln nc) (numC (n0 :: 0 :: q.vol :: st :: ep :: fz :: n1 :: ns)) := fun h a b => ⟨h.hold _ a, hnr h b⟩
  refine V.treeA ttOk hL (.q 0 (.q 1 (.q 2 (.q 3 (.q 4 (.q 5 (.q 6 (.q 7 (.q 8 (.alt 9 (.q 10 (.alt 11 .nil .stop)) .stop)))))))))) mixed (by decide +kernel) ?_
  replace hL := hL.drew
  conv => whnf
  repeat' (first | (refine RunH ?_; intro w hL hB; try clear w) | (refine Br.dec (fun hbr => ?_) (fun hbr => ?_) <;> conv => whnf) | (refine Br.mk (fun hbr => ?_) (fun hbr => ?_) <;> conv => whnf) | (refine Both.mk ?_ ?_ <;> conv => whnf) | (intro o9 ho9; conv => whnf) | (refine Lq.of_class (fun x hx => Ld.row1 ttOk (hnr hx (by repeat (first | exact hns | exact .head _ | apply List.Mem.tail))).toN.rowOf rfl rfl (k := 3) (v := .int .i64 st) rfl (by omega) rfl) ?_; conv => whnf) | fail)
  (refine Nw.sep hL hB (fun fb w hL hB hfb => ?_); conv => whnf)
  refine And.intro hL.tl ?_
  conv => whnf
  repeat (first | (refine RunH ?_; intro w hL hB; try clear w) | (refine Both.mk ?_ ?_ <;> conv => whnf) | fail)
  replace hL : Sep Tryz.prog B w0 w (.blk fb [.int .i64 q.vol, .int .u64 q.key, .int .u32 q.ck] 36 :: _) := hL
  refine V.tree ttOk (fun x => Blk x mb [.int .i64 fr, .int .i64 to, .int .i64 kind, .slice (some ⟨nb, no, none⟩) ln nc, .slice da dn dc] 42 ∧ Sl x (.slice (some ⟨nb, no, none⟩) ln nc) (numC (n0 :: 0 :: q.vol :: st :: ep :: fz :: n1 :: ns))) (.q 0 (.q 1 (.q 2 (.q 3 (.q 4 (.q 5 (.q 6 (.q 7 (.q 8 (.alt 9 (.q 10 (.q 11 (.alt 12 (.q 13 (.q 14 (.alt 15 .nil .stop))) .stop))) .stop)))))))))) mixed (by decide +kernel) (hcl6 hL.drew (by repeat (first | exact .head _ | apply List.Mem.tail)) (by repeat (first | exact hns | exact .head _ | apply List.Mem.tail))) ?_
  replace hL := hL.drew
  conv => whnf
  repeat' (first | (refine RunH ?_; intro w hL hB; try clear w) | (refine Br.dec (fun hbr => ?_) (fun hbr => ?_) <;> conv => whnf) | (refine Br.mk (fun hbr => ?_) (fun hbr => ?_) <;> conv => whnf) | (refine Both.mk ?_ ?_ <;> conv => whnf) | (refine Lq.of_class (fun x hx => Ld.blk ttOk rfl rfl hx.1 rfl rfl) ?_; conv => whnf) | (intro o5 n5 c5 g1 g2 g3 g4; conv => whnf) | (intro o9 ho9; conv => whnf) | (refine Lq.of_class (fun x hx => Ld.row1 ttOk hx.2.toN.rowOf rfl rfl (k := 4) (v := .int .i64 ep) rfl (by omega) rfl) ?_; conv => whnf) | (refine And.intro (hcl6 hL (by repeat (first | exact .head _ | apply List.Mem.tail)) (by repeat (first | exact hns | exact .head _ | apply List.Mem.tail))) ?_; conv => whnf) | (refine (cloneI_fn _ (n1 :: ns) _ (by have h := (hnr hL (by repeat (first | exact hns | exact .head _ | apply List.Mem.tail))).drop (k := 6) (o' := o5) (n' := n5) (c' := c5) (by omega) (fun h => by have := g1 (by omega); omega) (by omega) (by omega); rw [hdr] at h; exact h) (by rw [List.length_cons]; omega)).mono fun r w hr9 => ?_; obtain ⟨hown, hbl⟩ := hr9; replace hL := hL.addRow hB hbl hown; replace hB := Nat.le_trans hB hbl.size; obtain ⟨sa, sc, rfl⟩ := (hL.rowN (i := 0) rfl).shape; clear hown hbl; conv => whnf) | fail)
  refine Ld.row1 ttOk (hnr hL (by repeat (first | exact hns | exact .head _ | apply List.Mem.tail))).toN.rowOf rfl rfl (k := 5) (v := .int .i64 fz) rfl (by omega) ?_
  conv => whnf
  repeat (first | (refine RunH ?_; intro w hL hB; try clear w) | (refine Both.mk ?_ ?_ <;> conv => whnf) | fail)
  obtain ⟨sb, so, rfl, _⟩ := (nR_sl (hL.hold (nR (.slice sa (n1 :: ns).length sc) (n1 :: ns)) (.head _))).addr (by simp [numC])
  refine (reads_fn cb qb cm g bg tk rv ov { q with ep := ep, nodes := .slice (some ⟨sb, so, none⟩) (n1 :: ns).length sc } n1 ns m ms _ (.head _) (by omega) hkey hck htk hm (hL.perm (p33 _ _ _ _ _ _ _)) hB).mono fun r w hr => ?_
  obtain ⟨hr, hS⟩ := hr
  subst hr
  conv => whnf
  refine RunR ?_
  exact ⟨rfl, _, hS.sub (R' := nR (.slice (some ⟨sb, so, none⟩) (n1 :: ns).length sc) (n1 :: ns) :: R) (.cons_cons _ (sub2 _ _ _))⟩
set_option maxHeartbeats 16000000 in
theorem looked_shut (cb qb cm : Nat) (g bg tk : Int) (rv ov : Value) (q : QS) (fr to kind n0 st ep fz n1 : Int) (nv dv : Value) (ns : List Int) (m : Nat) (rs : List Value) (R : List Res) (hst : st = 1) (hfz : fz = 0) (hep : 1 ≤ ep ∧ ep ≤ 2147483647) (hnl : ns.length ≤ 1000) (hds : ∃ a n c, dv = .slice a n c)
    (hk : q.kind = 2) (hw : 0 ≤ q.writes ∧ q.writes ≤ 1000) (hnum : 0 ≤ q.num ∧ q.num ≤ 1000000) (hm : m ≤ 1000)
    (hL : Sep Tryz.prog B w0 w (cR cb g bg tk cm rv ov :: qR qb q :: .mp 3 cm [(.int .i64 q.num, ptrN qb)] :: .row 51 6 rv m rs :: R)) (hB : B ≤ w.heap.size) (hns : nR nv (n0 :: 0 :: q.vol :: st :: ep :: fz :: n1 :: ns) ∈ R) :
    Fn Tryz.prog 24 #[ptrN cb, ptrN qb, msV fr to kind nv dv, .int .i64 0] w fun r w' => r = .tuple #[] ∧ ∃ rv' nv', B ≤ w'.heap.size ∧ Sep Tryz.prog B w0 w' (cR cb g bg tk cm rv' ov :: qR qb { q with ep := ep, nodes := nv' } :: .mp 3 cm [] :: .row 51 6 rv' (m + 1) (rs ++ rC q.num (if 0 < q.writes then 16 else 11) 0 0 0 (.slice none 0 0)) :: R) := by
  obtain ⟨da, dn, dc, rfl⟩ := hds
  obtain ⟨na, nc, rfl⟩ := (nR_sl (hL.hold (nR nv (n0 :: 0 :: q.vol :: st :: ep :: fz :: n1 :: ns)) (mm4 hns))).shape
  obtain ⟨nb, no, rfl, _⟩ := (nR_sl (hL.hold (nR _ (n0 :: 0 :: q.vol :: st :: ep :: fz :: n1 :: ns)) (mm4 hns))).addr (by simp [numC])
  rw [numC_len] at hns ⊢
  have hnr : ∀ {x : World} {L' : List Res}, Sep Tryz.prog B w0 x L' → nR (.slice (some ⟨nb, no, none⟩) (n0 :: 0 :: q.vol :: st :: ep :: fz :: n1 :: ns).length nc) (n0 :: 0 :: q.vol :: st :: ep :: fz :: n1 :: ns) ∈ L' → Sl x (.slice (some ⟨nb, no, none⟩) (n0 :: 0 :: q.vol :: st :: ep :: fz :: n1 :: ns).length nc) (numC (n0 :: 0 :: q.vol :: st :: ep :: fz :: n1 :: ns)) := fun h hm => nR_sl (h.hold _ hm)
  have hlen : 7 ≤ (n0 :: 0 :: q.vol :: st :: ep :: fz :: n1 :: ns).length := by simp
  have hdr : (numC (n0 :: 0 :: q.vol :: st :: ep :: fz :: n1 :: ns)).drop 6 = numC (n1 :: ns) := rfl
  have hle : (numC (n0 :: 0 :: q.vol :: st :: ep :: fz :: n1 :: ns)).length = (n0 :: 0 :: q.vol :: st :: ep :: fz :: n1 :: ns).length := numC_len _
  have hlc := (nR_sl (hL.hold _ (mm4 hns))).len.2.1
  generalize hln : (n0 :: 0 :: q.vol :: st :: ep :: fz :: n1 :: ns).length = ln at *
  unfold cR cC qR qC at hL
  unfold msV
  refine Fn.mk Tryz.func24 rfl (by kernel_rfl) Tryz.ntmps24 rfl (by rw [Tryz.results24]) ?_
  repeat (first | (refine RunH ?_; intro w hL hB; try clear w) | (refine Both.mk ?_ ?_ <;> conv => whnf) | fail)
  (refine Nw.sep hL hB (fun mb w hL hB hmb => ?_); conv => whnf)
  repeat (first | (refine RunH ?_; intro w hL hB; try clear w) | (refine Both.mk ?_ ?_ <;> conv => whnf) | fail)
  have hcl6 : ∀ {x : World} {L' : List Res}, Sep Tryz.prog B w0 x L' → .blk mb [.int .i64 fr, .int .i64 to, .int .i64 kind, .slice (some ⟨nb, no, none⟩) ln nc, .slice da dn dc] 42 ∈ L' → nR (.slice (some ⟨nb, no, none⟩) ln nc) (n0 :: 0 :: q.vol :: st :: ep :: fz :: n1 :: ns) ∈ L' → Blk x mb [.int .i64 fr, .int .i64 to, .int .i64 kind, .slice (some ⟨nb, no, none⟩) ln nc, .slice da dn dc] 42 ∧ Sl x (.slice (some ⟨nb, no, none⟩) ln nc) (numC (n0 :: 0 :: q.vol :: st :: ep :: fz :: n1 :: ns)) := fun h a b => ⟨h.hold _ a, hnr h b⟩
  refine V.treeA ttOk hL (.q 0 (.q 1 (.q 2 (.q 3 (.q 4 (.q 5 (.q 6 (.q 7 (.q 8 (.alt 9 (.q 10 (.alt 11 .nil .stop)) .stop)))))))))) mixed (by decide +kernel) ?_
  replace hL := hL.drew
  conv => whnf
  repeat' (first | (refine RunH ?_; intro w hL hB; try clear w) | (refine Br.dec (fun hbr => ?_) (fun hbr => ?_) <;> conv => whnf) | (refine Br.mk (fun hbr => ?_) (fun hbr => ?_) <;> conv => whnf) | (refine Both.mk ?_ ?_ <;> conv => whnf) | (intro o9 ho9; conv => whnf) | (refine Lq.of_class (fun x hx => Ld.row1 ttOk (hnr hx (by repeat (first | exact hns | exact .head _ | apply List.Mem.tail))).toN.rowOf rfl rfl (k := 3) (v := .int .i64 st) rfl (by omega) rfl) ?_; conv => whnf) | fail)
  (refine Nw.sep hL hB (fun fb w hL hB hfb => ?_); conv => whnf)
  refine And.intro hL.tl ?_
  conv => whnf
  repeat (first | (refine RunH ?_; intro w hL hB; try clear w) | (refine Both.mk ?_ ?_ <;> conv => whnf) | fail)
  replace hL : Sep Tryz.prog B w0 w (.blk fb [.int .i64 q.vol, .int .u64 q.key, .int .u32 q.ck] 36 :: _) := hL
  refine V.tree ttOk (fun x => Blk x mb [.int .i64 fr, .int .i64 to, .int .i64 kind, .slice (some ⟨nb, no, none⟩) ln nc, .slice da dn dc] 42 ∧ Sl x (.slice (some ⟨nb, no, none⟩) ln nc) (numC (n0 :: 0 :: q.vol :: st :: ep :: fz :: n1 :: ns))) (.q 0 (.q 1 (.q 2 (.q 3 (.q 4 (.q 5 (.q 6 (.q 7 (.q 8 (.alt 9 (.q 10 (.q 11 (.alt 12 (.q 13 (.q 14 (.alt 15 .nil .stop))) .stop))) .stop)))))))))) mixed (by decide +kernel) (hcl6 hL.drew (by repeat (first | exact .head _ | apply List.Mem.tail)) (by repeat (first | exact hns | exact .head _ | apply List.Mem.tail))) ?_
  replace hL := hL.drew
  conv => whnf
  repeat' (first | (refine RunH ?_; intro w hL hB; try clear w) | (refine Br.dec (fun hbr => ?_) (fun hbr => ?_) <;> conv => whnf) | (refine Br.mk (fun hbr => ?_) (fun hbr => ?_) <;> conv => whnf) | (refine Both.mk ?_ ?_ <;> conv => whnf) | (refine Lq.of_class (fun x hx => Ld.blk ttOk rfl rfl hx.1 rfl rfl) ?_; conv => whnf) | (intro o5 n5 c5 g1 g2 g3 g4; conv => whnf) | (intro o9 ho9; conv => whnf) | (refine Lq.of_class (fun x hx => Ld.row1 ttOk hx.2.toN.rowOf rfl rfl (k := 4) (v := .int .i64 ep) rfl (by omega) rfl) ?_; conv => whnf) | (refine And.intro (hcl6 hL (by repeat (first | exact .head _ | apply List.Mem.tail)) (by repeat (first | exact hns | exact .head _ | apply List.Mem.tail))) ?_; conv => whnf) | (refine (cloneI_fn _ (n1 :: ns) _ (by have h := (hnr hL (by repeat (first | exact hns | exact .head _ | apply List.Mem.tail))).drop (k := 6) (o' := o5) (n' := n5) (c' := c5) (by omega) (fun h => by have := g1 (by omega); omega) (by omega) (by omega); rw [hdr] at h; exact h) (by rw [List.length_cons]; omega)).mono fun r w hr9 => ?_; obtain ⟨hown, hbl⟩ := hr9; replace hL := hL.addRow hB hbl hown; replace hB := Nat.le_trans hB hbl.size; obtain ⟨sa, sc, rfl⟩ := (hL.rowN (i := 0) rfl).shape; clear hown hbl; conv => whnf) | fail)
  refine Ld.row1 ttOk (hnr hL (by repeat (first | exact hns | exact .head _ | apply List.Mem.tail))).toN.rowOf rfl rfl (k := 5) (v := .int .i64 fz) rfl (by omega) ?_
  conv => whnf
  rcases (show 0 < q.writes ∨ q.writes = 0 by omega) with hw0 | hw0
  · rw [if_pos hw0]
    repeat (first | (refine RunH ?_; intro w hL hB; try clear w) | (refine Both.mk ?_ ?_ <;> conv => whnf) | fail)
    refine (ends_fn cb qb cm g bg tk rv ov { q with ep := ep, nodes := .slice sa (n1 :: ns).length sc } 16 0 0 0 0 none 0 0 m rs _ hm hnum (hL.perm (p34 _ _ _ _ _ _ _ _)) hB).mono fun r w hr => ?_
    obtain ⟨hr, rv', hB, hL⟩ := hr
    subst hr
    conv => whnf
    refine RunR ?_
    exact ⟨rfl, rv', _, hB, hL.sub ((((sub3 _ _ _ _).cons_cons _).cons_cons _ |>.cons_cons _).cons_cons _)⟩
  · rw [if_neg (by omega)]
    repeat (first | (refine RunH ?_; intro w hL hB; try clear w) | (refine Both.mk ?_ ?_ <;> conv => whnf) | fail)
    refine (ends_fn cb qb cm g bg tk rv ov { q with ep := ep, nodes := .slice sa (n1 :: ns).length sc } 11 0 0 0 0 none 0 0 m rs _ hm hnum (hL.perm (p34 _ _ _ _ _ _ _ _)) hB).mono fun r w hr => ?_
    obtain ⟨hr, rv', hB, hL⟩ := hr
    subst hr
    conv => whnf
    refine RunR ?_
    exact ⟨rfl, rv', _, hB, hL.sub ((((sub3 _ _ _ _).cons_cons _).cons_cons _ |>.cons_cons _).cons_cons _)⟩
theorem wrote_ok (cb qb cm : Nat) (g bg tk : Int) (rv ov : Value) (q : QS) (m : Nat) (ms : List Value) (R : List Res) (hk : q.kind ≠ 3) (htk : 0 ≤ tk ∧ tk < 1000000) (hg : 0 ≤ g ∧ g ≤ 2) (hm : m ≤ 1000)
    (hL : Sep Tryz.prog B w0 w (cR cb g bg tk cm rv ov :: qR qb q :: .row 42 5 ov m ms :: R)) (hB : B ≤ w.heap.size) :
    Fn Tryz.prog 25 #[ptrN cb, ptrN qb, .int .i64 0] w fun r w' => r = .tuple #[] ∧ Sent B w0 w' cb qb cm g bg tk rv { q with outc := 0, data := .slice none 0 0, step := 5, master := g } m ms g 50 [4, q.vol] [] R := by
  refine Fn.mk Tryz.func25 rfl (by kernel_rfl) Tryz.ntmps25 rfl (by rw [Tryz.results25]) ?_
  refine RunR ?_
  refine (comes_none cb qb cm g bg tk rv ov q 0 (.slice none 0 0) m ms R (fun h => hk h.2) htk hg hm hL hB).mono fun r w hr => ?_
  obtain ⟨hr, hS⟩ := hr
  subst hr
  conv => whnf
  refine RunR ?_
  exact ⟨rfl, hS⟩
theorem wrote_wait (cb qb cm : Nat) (g bg tk : Int) (rv ov : Value) (q : QS) (R : List Res) (ht : 0 ≤ q.tried ∧ q.tried < 19) (hL : Sep Tryz.prog B w0 w (cR cb g bg tk cm rv ov :: qR qb q :: R)) (hB : B ≤ w.heap.size) :
    Fn Tryz.prog 25 #[ptrN cb, ptrN qb, .int .i64 14] w fun r w' => r = .tuple #[] ∧ B ≤ w'.heap.size ∧ Sep Tryz.prog B w0 w' (cR cb g bg tk cm rv ov :: qR qb { q with tried := q.tried + 1, step := 6, waited := 0, pause := 5, sent := .map none } :: R) := by
  refine Fn.mk Tryz.func25 rfl (by kernel_rfl) Tryz.ntmps25 rfl (by rw [Tryz.results25]) ?_
  refine RunR ?_
  refine (round_fn cb qb cm g bg tk rv ov q 5 R ht hL hB).mono fun r w hr => ?_
  obtain ⟨hr, hS⟩ := hr
  subst hr
  conv => whnf
  refine RunR ?_
  exact ⟨rfl, hS⟩
theorem read_ok (cb qb cm : Nat) (g bg tk : Int) (rv ov : Value) (q : QS) (fr to kind : Int) (nv dv : Value) (d : List UInt8) (m : Nat) (ms : List Value) (R : List Res) (hk : q.kind = 3) (hpl : q.place = 0) (X : Res) (hd : X ∈ R) (hX : ∀ x, X.holds Tryz.prog x → Sl x dv (bv d)) (hdl : d.length ≤ 2147483648) (hnv : ∃ a n c, nv = .slice a n c) (htk : 0 ≤ tk ∧ tk < 1000000) (hg : 0 ≤ g ∧ g ≤ 2) (hm : m ≤ 1000)
    (hL : Sep Tryz.prog B w0 w (cR cb g bg tk cm rv ov :: qR qb q :: .row 42 5 ov m ms :: R)) (hB : B ≤ w.heap.size) :
    Fn Tryz.prog 26 #[ptrN cb, ptrN qb, msV fr to kind nv dv, .int .i64 0] w fun r w' => r = .tuple #[] ∧ ∃ dv', Sent B w0 w' cb qb cm g bg tk rv { q with outc := 0, data := dv', step := 5, master := g } m ms g 50 [4, q.vol] [] (bR dv' d :: R) := by
  obtain ⟨na, nn, nc, rfl⟩ := hnv
  obtain ⟨da, dc, hdv⟩ := (hX _ (hL.hold X (mm3 hd))).shape
  subst hdv
  unfold cR cC qR qC at hL
  unfold msV
  refine Fn.mk Tryz.func26 rfl (by kernel_rfl) Tryz.ntmps26 rfl (by rw [Tryz.results26]) ?_
  repeat (first | (refine RunH ?_; intro w hL hB; try clear w) | (refine Both.mk ?_ ?_ <;> conv => whnf) | fail)
  (refine Nw.sep hL hB (fun mb w hL hB hmb => ?_); conv => whnf)
  repeat (first | (refine RunH ?_; intro w hL hB; try clear w) | (refine Both.mk ?_ ?_ <;> conv => whnf) | fail)
  refine (comes_data cb qb cm g bg tk rv ov q (.slice da (bv d).length dc) d m ms (.blk mb _ _ :: R) hk X (mm1 hd) hX hdl htk hg hm (hL.perm ((List.perm_append_comm (l₁ := [_]) (l₂ := [_, _, _])).append_right R)) hB).mono fun r w hr => ?_
  obtain ⟨hr, dv', hS⟩ := hr
  subst hr
  conv => whnf
  refine RunR ?_
  exact ⟨rfl, dv', hS.sub (R' := bR dv' d :: R) (.cons_cons _ (sub1 _ _))⟩
end
end Go.Proofs.YtcjnaljdbbjojaaGreatDoor
