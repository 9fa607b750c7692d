/- client: of, good. Nothing is claimed here. -/
import Derived.Test.YtcjnaljdbbjojaaGreatDoorCld
namespace Go.Proofs.YtcjnaljdbbjojaaGreatDoor
open Go.RowKit
open Go.Maps (Keyed)
set_option linter.unusedVariables false
set_option linter.unusedSimpArgs false
set_option maxRecDepth 100000

/-- a message, as it comes -/
def msV (fr to kind : Int) (nv dv : Value) : Value := .agg #[.int .i64 fr, .int .i64 to, .int .i64 kind, nv, dv]
theorem got_one {x k z v u : Value} {ok : Bool} (h : Got [(k, v)] x z u ok) : (x = k ∧ u = v ∧ ok = true) ∨ (x ≠ k ∧ u = z ∧ ok = false) := by
  cases h with
  | yes u h =>
    simp only [List.mem_singleton, Prod.mk.injEq] at h
    exact .inl ⟨h.1, h.2, rfl⟩
  | no h => exact .inr ⟨fun e => h _ (List.mem_singleton_self _) e.symm, rfl, rfl⟩
/-- a walk over a map that is given up -/
theorem Sep.itmp {P : Program} {B : Nat} {w0 w : World} {k : TypeId} {r b : Nat} {l left : List (Value × Value)} {cur : Option (Value × Value)} {L : List Res} (h : Sep P B w0 w (.it k r b l left cur :: L)) : Sep P B w0 w (.mp k b l :: L) := by
  refine ⟨h.below, fun R hR => ?_, fun R hR => ?_, ?_⟩
  · rcases List.mem_cons.1 hR with rfl | hR
    · have hi : Its P k w r b l left cur := h.hold _ (List.mem_cons_self ..)
      obtain ⟨⟨es, c, since, seen, c0, e1, e2, e3, _⟩, e10⟩ := hi
      exact ⟨⟨es, c, e1, e2, e3⟩, e10⟩
    · exact h.hold R (List.mem_cons_of_mem _ hR)
  · rcases List.mem_cons.1 hR with rfl | hR
    · exact fun x hx => h.own _ (List.mem_cons_self ..) x (by simp [Res.blocks] at hx ⊢; exact .inr hx)
    · exact h.own R (List.mem_cons_of_mem _ hR)
  · have := h.apart
    rw [List.flatMap_cons] at this ⊢
    exact this.sublist (List.Sublist.append (by simp [Res.blocks]) (.refl _))
section
variable {B : Nat} {w0 w : World}
set_option maxHeartbeats 16000000 in
theorem of_fn (cb qb cm sm : Nat) (g bg tk : Int) (rv ov : Value) (q : QS) (fr to kind to0 n0 n1 : Int) (nv dv : Value) (ns : List Int) (R : List Res) (hq : q.sent = .map (some sm)) (hn1 : 0 ≤ n1 ∧ n1 ≤ 63) (hf : -1000000 ≤ fr ∧ fr ≤ 1000000) (hds : ∃ a n c, dv = .slice a n c)
    (hL : Sep Tryz.prog B w0 w (cR cb g bg tk cm rv ov :: qR qb q :: .mp 3 cm [(.int .i64 q.num, ptrN qb)] :: .mp 3 sm [(.int .i64 to0, .bool true)] :: R)) (hB : B ≤ w.heap.size) (hns : nR nv (n0 :: n1 :: ns) ∈ R) :
    Fn Tryz.prog 20 #[ptrN cb, msV fr to kind nv dv] w fun r w' => r = (if q.tk = n0 ∧ fr = to0 then ptrN qb else .pointer none) ∧ B ≤ w'.heap.size ∧ Sep Tryz.prog B w0 w' (cR cb g bg tk cm rv ov :: qR qb q :: .mp 3 cm [(.int .i64 q.num, ptrN qb)] :: .mp 3 sm [(.int .i64 to0, .bool true)] :: R) := by
  obtain ⟨da, dn, dc, rfl⟩ := hds
  obtain ⟨na, nc, rfl⟩ := (nR_sl (hL.hold (nR nv (n0 :: n1 :: ns)) (mm4 hns))).shape
  obtain ⟨nb, no, rfl, _⟩ := (nR_sl (hL.hold (nR _ (n0 :: n1 :: ns)) (mm4 hns))).addr (by simp [numC])
  rw [numC_len] at hns ⊢
  have hnr : ∀ {x : World} {L' : List Res}, Sep Tryz.prog B w0 x L' → nR (.slice (some ⟨nb, no, none⟩) (n0 :: n1 :: ns).length nc) (n0 :: n1 :: ns) ∈ L' → Row x nb no (numC (n0 :: n1 :: ns)) := fun h hm => (nR_sl (h.hold _ hm)).toN.rowOf
  have hlen : 2 ≤ (n0 :: n1 :: ns).length := by simp
  generalize hln : (n0 :: n1 :: ns).length = ln at *
  unfold cR cC qR qC at hL
  rw [hq] at hL
  unfold msV
  refine Fn.mk Tryz.func20 rfl (by kernel_rfl) Tryz.ntmps20 rfl (by rw [Tryz.results20]) ?_
  repeat (first | (refine RunH ?_; intro w hL hB; try clear w) | (refine Both.mk ?_ ?_ <;> conv => whnf) | fail)
  (refine Nw.sep hL hB (fun mb w hL hB hmb => ?_); conv => whnf)
  repeat (first | (refine RunH ?_; intro w hL hB; try clear w) | (refine Both.mk ?_ ?_ <;> conv => whnf) | fail)
  intro o3 ho3
  conv => whnf
  repeat (first | (refine RunH ?_; intro w hL hB; try clear w) | (refine Both.mk ?_ ?_ <;> conv => whnf) | fail)
  refine Ld.row1 ttOk (hnr hL (by repeat (first | exact hns | exact .head _ | apply List.Mem.tail))) rfl rfl (k := 1) (v := .int .i64 n1) rfl (by omega) ?_
  conv => whnf
  repeat (first | (refine RunH ?_; intro w hL hB; try clear w) | (refine Both.mk ?_ ?_ <;> conv => whnf) | (refine (within_fn _ _ _ _).mono fun r w1 hr => ?_; obtain ⟨hr, hw⟩ := hr; subst hr; subst hw; conv => whnf) | fail)
  have hdec : decide (0 ≤ n1 ∧ n1 ≤ 63) = true := decide_eq_true hn1
  rw [hdec]
  repeat (first | (refine RunH ?_; intro w hL hB; try clear w) | (refine Both.mk ?_ ?_ <;> conv => whnf) | fail)
  refine Rv.rangeS ttOk hL 3 tl58 rfl hB fun rb w hL hB => ?_
  dsimp only [List.set] at hL
  conv => whnf
  repeat (first | (refine RunH ?_; intro w hL hB; try clear w) | (refine Both.mk ?_ ?_ <;> conv => whnf) | fail)
  refine V.loop (α := List (Value × Value) × Option (Value × Value)) (fun _ => [(3, ptrN mb), (23, ptrN rb)])
    (fun z w' => B ≤ w'.heap.size ∧ (z.1 = [(.int .i64 q.num, ptrN qb)] ∨ (z.1 = [] ∧ ¬ (q.tk = n0 ∧ fr = to0))) ∧ Sep Tryz.prog B w0 w' (.blk mb [.int .i64 fr, .int .i64 to, .int .i64 kind, .slice (some ⟨nb, no, none⟩) ln nc, .slice da dn dc] 42 :: cR cb g bg tk cm rv ov :: qR qb { q with sent := .map (some sm) } :: .it 3 rb cm [(.int .i64 q.num, ptrN qb)] z.1 z.2 :: .mp 3 sm [(.int .i64 to0, .bool true)] :: R)) (fun z => z.1.length) ([(.int .i64 q.num, ptrN qb)], none) ⟨rfl, rfl, trivial⟩ ⟨hB, .inl rfl, hL⟩ ?_
  have hq' : { q with sent := .map (some sm) } = q := by rw [← hq]
  repeat clear hL
  repeat clear hB
  rintro ⟨left, cur⟩ w ⟨hB, hleft, hL⟩
  dsimp only at hleft hL
  repeat (first | (refine RunH ?_; intro w hL hB; try clear w) | (refine Both.mk ?_ ?_ <;> conv => whnf) | fail)
  refine Rv.nextS hL 3 rfl hB (fun hl0 hL => ?_) (fun p left' w hp hpl hlen2 hq1 hq2 hL hB => ?_)
  · dsimp only [List.set] at hL
    have hno : ¬ (q.tk = n0 ∧ fr = to0) := by
      rcases hleft with h | h
      · rw [h] at hl0; cases hl0
      · exact h.2
    unfold cR cC qR qC at hL
    conv => whnf
    repeat (first | (refine RunH ?_; intro w hL hB; try clear w) | (refine Both.mk ?_ ?_ <;> conv => whnf) | fail)
    refine ⟨by rw [if_neg hno], hB, ?_⟩
    rw [← hq']
    exact hL.tl
  · dsimp only [List.set] at hL
    obtain rfl : left = [(.int .i64 q.num, ptrN qb)] := by
      rcases hleft with h | h
      · exact h
      · rw [h.1] at hp; cases hp
    obtain rfl : p = (.int .i64 q.num, ptrN qb) := by simpa using hp
    have hleft' : left' = [] := by
      cases left' with
      | nil => rfl
      | cons x l => simp at hlen2
    subst hleft'
    unfold cR cC qR qC at hL
    dsimp only at hL
    conv => whnf
    repeat (first | (refine RunH ?_; intro w hL hB; try clear w) | (refine Both.mk ?_ ?_ <;> conv => whnf) | fail)
    refine Rv.curS hL 3 rfl ?_
    conv => whnf
    repeat (first | (refine RunH ?_; intro w hL hB; try clear w) | (refine Both.mk ?_ ?_ <;> conv => whnf) | fail)
    refine V.treeA ttOk hL (.q 0 (.q 1 (.q 2 (.q 3 (.q 4 (.q 5 (.q 6 (.q 7 (.q 8 (.q 9 (.q 10 (.q 11 (.q 12 (.q 13 (.q 14 (.q 15 (.q 16 (.q 17 .nil)))))))))))))))))) mixed (by decide +kernel) ?_
    replace hL := hL.drew
    conv => whnf
    repeat (first | (refine RunH ?_; intro w hL hB; try clear w) | (refine Both.mk ?_ ?_ <;> conv => whnf) | fail)
    intro o4 ho4
    conv => whnf
    refine Lq.of_class (fun x hx => Ld.row1 ttOk (hnr hx (by repeat (first | exact hns | exact .head _ | apply List.Mem.tail))) rfl rfl (k := 0) (v := .int .i64 n0) rfl (by omega) rfl) ?_
    conv => whnf
    repeat (first | (refine RunH ?_; intro w hL hB; try clear w) | (refine Both.mk ?_ ?_ <;> conv => whnf) | fail)
    refine Br.dec (fun htk => ?_) (fun htk => ?_)
    · repeat (first | (refine RunH ?_; intro w hL hB; try clear w) | (refine Both.mk ?_ ?_ <;> conv => whnf) | fail)
      refine Rq.mk (.bool (decide (fr = to0))) (fun x hx => ?_) ?_
      · obtain ⟨v, w', h, rfl, rfl⟩ := (Rv.seekS (K := fun v w' => v = .bool (decide (fr = to0)) ∧ w' = x) ttOk hx intK 4 tl64 tl4 rfl (goodS hf) fun u ok hg => by
          rcases got_one hg with ⟨h1, h2, _⟩ | ⟨h1, h2, _⟩
          · injection h1 with _ h1
            exact ⟨by rw [h2, decide_eq_true h1], rfl⟩
          · exact ⟨by rw [h2, decide_eq_false (fun e => h1 (by rw [e]))], rfl⟩).o
        exact h
      by_cases hft : fr = to0
      · rw [decide_eq_true hft]
        conv => whnf
        repeat (first | (refine RunH ?_; intro w hL hB; try clear w) | (refine Both.mk ?_ ?_ <;> conv => whnf) | fail)
        refine ⟨by rw [if_pos ⟨htk, hft⟩], hB, ?_⟩
        rw [← hq']
        exact (hL.tl.perm ((List.perm_append_comm (l₁ := [_, _]) (l₂ := [_])).append_right _)).itmp.perm ((List.perm_append_comm (l₁ := [_]) (l₂ := [_, _])).append_right _)
      · rw [decide_eq_false hft]
        conv => whnf
        repeat (first | (refine RunH ?_; intro w hL hB; try clear w) | (refine Both.mk ?_ ?_ <;> conv => whnf) | fail)
        exact ⟨([], _), ⟨rfl, rfl, trivial⟩, ⟨hB, .inr ⟨rfl, fun h => hft h.2⟩, hL⟩, by simp⟩
    · repeat (first | (refine RunH ?_; intro w hL hB; try clear w) | (refine Both.mk ?_ ?_ <;> conv => whnf) | fail)
      exact ⟨([], _), ⟨rfl, rfl, trivial⟩, ⟨hB, .inr ⟨rfl, fun h => htk h.1⟩, hL⟩, by simp⟩
set_option maxHeartbeats 16000000 in
theorem good_look (cb qb cm : Nat) (g bg tk : Int) (rv ov : Value) (q : QS) (fr to kind n0 st ep fz n1 : Int) (nv dv : Value) (ns : List Int) (R : List Res) (hst : 0 ≤ st ∧ st < 2) (hep : 1 ≤ ep ∧ ep ≤ 2147483647) (hfz : 0 ≤ fz ∧ fz ≤ 1) (hns1 : ∀ n ∈ n1 :: ns, 0 ≤ n ∧ n ≤ 63) (hstep : q.step ≠ 0) (hds : ∃ a n c, dv = .slice a n c)
    (hL : Sep Tryz.prog B w0 w (cR cb g bg tk cm rv ov :: qR qb q :: R)) (hB : B ≤ w.heap.size) (hns : nR nv (n0 :: 0 :: q.vol :: st :: ep :: fz :: n1 :: ns) ∈ R) :
    Fn Tryz.prog 21 #[ptrN cb, ptrN qb, msV fr to kind nv dv] w fun r w' => r = .bool true ∧ B ≤ w'.heap.size ∧ Sep Tryz.prog B w0 w' (cR cb g bg tk cm rv ov :: qR qb q :: R) := by
  obtain ⟨da, dn, dc, rfl⟩ := hds
  obtain ⟨na, nc, rfl⟩ := (nR_sl (hL.hold (nR nv (n0 :: 0 :: q.vol :: st :: ep :: fz :: n1 :: ns)) (mm1 (mm1 hns)))).shape
  obtain ⟨nb, no, rfl, _⟩ := (nR_sl (hL.hold (nR _ (n0 :: 0 :: q.vol :: st :: ep :: fz :: n1 :: ns)) (mm1 (mm1 hns)))).addr (by simp [numC])
  rw [numC_len] at hns ⊢
  have hnr : ∀ {x : World} {L' : List Res}, Sep Tryz.prog B w0 x L' → nR (.slice (some ⟨nb, no, none⟩) (n0 :: 0 :: q.vol :: st :: ep :: fz :: n1 :: ns).length nc) (n0 :: 0 :: q.vol :: st :: ep :: fz :: n1 :: ns) ∈ L' → Sl x (.slice (some ⟨nb, no, none⟩) (n0 :: 0 :: q.vol :: st :: ep :: fz :: n1 :: ns).length nc) (numC (n0 :: 0 :: q.vol :: st :: ep :: fz :: n1 :: ns)) := fun h hm => nR_sl (h.hold _ hm)
  have hlen : 7 ≤ (n0 :: 0 :: q.vol :: st :: ep :: fz :: n1 :: ns).length := by simp
  have hdr : (numC (n0 :: 0 :: q.vol :: st :: ep :: fz :: n1 :: ns)).drop 6 = numC (n1 :: ns) := rfl
  have hle : (numC (n0 :: 0 :: q.vol :: st :: ep :: fz :: n1 :: ns)).length = (n0 :: 0 :: q.vol :: st :: ep :: fz :: n1 :: ns).length := numC_len _
  have hlc := (nR_sl (hL.hold _ (mm1 (mm1 hns)))).len.2.1
  generalize hln : (n0 :: 0 :: q.vol :: st :: ep :: fz :: n1 :: ns).length = ln at *
  have h1 : decide (0 ≤ st ∧ st ≤ 2) = true := decide_eq_true (by omega)
  have h2 : decide (1 ≤ ep ∧ ep ≤ 2147483647) = true := decide_eq_true (by omega)
  have h3 : decide (0 ≤ fz ∧ fz ≤ 1) = true := decide_eq_true (by omega)
  unfold cR cC qR qC at hL
  unfold msV
  refine Fn.mk Tryz.func21 rfl (by kernel_rfl) Tryz.ntmps21 rfl (by rw [Tryz.results21]) ?_
  repeat (first | (refine RunH ?_; intro w hL hB; try clear w) | (refine Both.mk ?_ ?_ <;> conv => whnf) | fail)
  (refine Nw.sep hL hB (fun mb w hL hB hmb => ?_); conv => whnf)
  repeat (first | (refine RunK ?_; intro w hL hB; try clear w) | (refine V.treeA ttOk hL (.q 0 (.q 1 (.q 2 (.q 3 (.q 4 (.q 5 (.q 6 (.q 7 (.q 8 (.q 9 (.q 10 (.q 11 (.q 12 (.q 13 (.alt 14 (.q 15 (.q 16 (.q 17 (.q 18 (.q 19 (.q 20 (.alt 21 (.q 22 (.q 23 (.q 24 (.q 25 (.q 26 (.q 27 (.alt 28 (.q 29 (.q 30 (.q 31 .nil))) .stop))))))) .stop))))))) .stop))))))))))))))) mixed (by decide +kernel) ?_; replace hL := hL.drew; conv => whnf) | (refine V.tailA ttOk mixed (by decide +kernel) ?_; replace hL := hL.drew; conv => whnf) | (refine Both.mk ?_ ?_ <;> conv => whnf) | (intro o5 n5 c5 g1 g2 g3 g4; conv => whnf) | (intro o9 ho9; conv => whnf) | (refine Ld.row1 ttOk (hnr hL (by repeat (first | exact hns | exact .head _ | apply List.Mem.tail))).toN.rowOf rfl rfl (k := 1) rfl (by omega) ?_; conv => whnf) | (refine Lq.of_class (fun x hx => Ld.row1 ttOk (hnr hx (by repeat (first | exact hns | exact .head _ | apply List.Mem.tail))).toN.rowOf rfl rfl (k := 1) rfl (by omega) rfl) ?_; conv => whnf) | (refine Ld.row1 ttOk (hnr hL (by repeat (first | exact hns | exact .head _ | apply List.Mem.tail))).toN.rowOf rfl rfl (k := 2) rfl (by omega) ?_; conv => whnf) | (refine Lq.of_class (fun x hx => Ld.row1 ttOk (hnr hx (by repeat (first | exact hns | exact .head _ | apply List.Mem.tail))).toN.rowOf rfl rfl (k := 2) rfl (by omega) rfl) ?_; conv => whnf) | (refine Ld.row1 ttOk (hnr hL (by repeat (first | exact hns | exact .head _ | apply List.Mem.tail))).toN.rowOf rfl rfl (k := 3) rfl (by omega) ?_; conv => whnf) | (refine Lq.of_class (fun x hx => Ld.row1 ttOk (hnr hx (by repeat (first | exact hns | exact .head _ | apply List.Mem.tail))).toN.rowOf rfl rfl (k := 3) rfl (by omega) rfl) ?_; conv => whnf) | (refine Ld.row1 ttOk (hnr hL (by repeat (first | exact hns | exact .head _ | apply List.Mem.tail))).toN.rowOf rfl rfl (k := 4) rfl (by omega) ?_; conv => whnf) | (refine Lq.of_class (fun x hx => Ld.row1 ttOk (hnr hx (by repeat (first | exact hns | exact .head _ | apply List.Mem.tail))).toN.rowOf rfl rfl (k := 4) rfl (by omega) rfl) ?_; conv => whnf) | (refine Ld.row1 ttOk (hnr hL (by repeat (first | exact hns | exact .head _ | apply List.Mem.tail))).toN.rowOf rfl rfl (k := 5) rfl (by omega) ?_; conv => whnf) | (refine Lq.of_class (fun x hx => Ld.row1 ttOk (hnr hx (by repeat (first | exact hns | exact .head _ | apply List.Mem.tail))).toN.rowOf rfl rfl (k := 5) rfl (by omega) rfl) ?_; conv => whnf) | (refine (within_fn _ _ _ _).mono fun r w1 hr => ?_; obtain ⟨hr, hw⟩ := hr; subst hr; subst hw; conv => whnf) | (rw [h1]) | (rw [h2]) | (rw [h3]) | fail)
  have hs5 := (hnr hL (by repeat (first | exact hns | exact .head _ | apply List.Mem.tail))).drop (k := 6) (o' := o5) (n' := n5) (c' := c5) (by omega) (fun h => by have := g1 (by omega); omega) (by omega) (by omega)
  rw [hdr] at hs5
  refine (nodes_fn 0 _ _ _ hs5 hns1).mono fun r w hr9 => ?_
  obtain ⟨hr9, hbl⟩ := hr9
  subst hr9
  replace hL := hL.call hB (Turns.of_below hbl)
  replace hB := Nat.le_trans hB hbl.size
  conv => whnf
  repeat (first | (refine RunH ?_; intro w hL hB; try clear w) | (refine Both.mk ?_ ?_ <;> conv => whnf) | fail)
  exact ⟨rfl, hB, hL.tl⟩
set_option maxHeartbeats 16000000 in
theorem good_assign (cb qb cm : Nat) (g bg tk : Int) (rv ov : Value) (q : QS) (fr to kind n0 vo ke co ep n1 : Int) (nv dv : Value) (ns : List Int) (R : List Res) (hvo : 1 ≤ vo ∧ vo ≤ 99999999) (hke : 1 ≤ ke ∧ ke ≤ 1099511627776) (hco : 0 ≤ co ∧ co ≤ 4294967295) (hep : 1 ≤ ep ∧ ep ≤ 2147483647) (hns1 : ∀ n ∈ n1 :: ns, 0 ≤ n ∧ n ≤ 63) (hstep : q.step = 0) (hds : ∃ a n c, dv = .slice a n c)
    (hL : Sep Tryz.prog B w0 w (cR cb g bg tk cm rv ov :: qR qb q :: R)) (hB : B ≤ w.heap.size) (hns : nR nv (n0 :: 0 :: vo :: ke :: co :: ep :: n1 :: ns) ∈ R) :
    Fn Tryz.prog 21 #[ptrN cb, ptrN qb, msV fr to kind nv dv] w fun r w' => r = .bool true ∧ B ≤ w'.heap.size ∧ Sep Tryz.prog B w0 w' (cR cb g bg tk cm rv ov :: qR qb q :: R) := by
  obtain ⟨da, dn, dc, rfl⟩ := hds
  obtain ⟨na, nc, rfl⟩ := (nR_sl (hL.hold (nR nv (n0 :: 0 :: vo :: ke :: co :: ep :: n1 :: ns)) (mm1 (mm1 hns)))).shape
  obtain ⟨nb, no, rfl, _⟩ := (nR_sl (hL.hold (nR _ (n0 :: 0 :: vo :: ke :: co :: ep :: n1 :: ns)) (mm1 (mm1 hns)))).addr (by simp [numC])
  rw [numC_len] at hns ⊢
  have hnr : ∀ {x : World} {L' : List Res}, Sep Tryz.prog B w0 x L' → nR (.slice (some ⟨nb, no, none⟩) (n0 :: 0 :: vo :: ke :: co :: ep :: n1 :: ns).length nc) (n0 :: 0 :: vo :: ke :: co :: ep :: n1 :: ns) ∈ L' → Sl x (.slice (some ⟨nb, no, none⟩) (n0 :: 0 :: vo :: ke :: co :: ep :: n1 :: ns).length nc) (numC (n0 :: 0 :: vo :: ke :: co :: ep :: n1 :: ns)) := fun h hm => nR_sl (h.hold _ hm)
  have hlen : 7 ≤ (n0 :: 0 :: vo :: ke :: co :: ep :: n1 :: ns).length := by simp
  have hdr : (numC (n0 :: 0 :: vo :: ke :: co :: ep :: n1 :: ns)).drop 6 = numC (n1 :: ns) := rfl
  have hle : (numC (n0 :: 0 :: vo :: ke :: co :: ep :: n1 :: ns)).length = (n0 :: 0 :: vo :: ke :: co :: ep :: n1 :: ns).length := numC_len _
  have hlc := (nR_sl (hL.hold _ (mm1 (mm1 hns)))).len.2.1
  generalize hln : (n0 :: 0 :: vo :: ke :: co :: ep :: n1 :: ns).length = ln at *
  have h1 : decide (1 ≤ vo ∧ vo ≤ 99999999) = true := decide_eq_true hvo
  have h4 : decide (1 ≤ ke ∧ ke ≤ 1099511627776) = true := decide_eq_true hke
  have h2 : decide (1 ≤ ep ∧ ep ≤ 2147483647) = true := decide_eq_true (by omega)
  have h3 : decide (0 ≤ co ∧ co ≤ 4294967295) = true := decide_eq_true hco
  unfold cR cC qR qC at hL
  rw [hstep] at hL
  unfold msV
  refine Fn.mk Tryz.func21 rfl (by kernel_rfl) Tryz.ntmps21 rfl (by rw [Tryz.results21]) ?_
  repeat (first | (refine RunH ?_; intro w hL hB; try clear w) | (refine Both.mk ?_ ?_ <;> conv => whnf) | fail)
  (refine Nw.sep hL hB (fun mb w hL hB hmb => ?_); conv => whnf)
  repeat (first | (refine RunK ?_; intro w hL hB; try clear w) | (refine V.treeA ttOk hL (.q 0 (.q 1 (.q 2 (.q 3 (.q 4 (.q 5 (.q 6 (.q 7 (.q 8 (.q 9 (.q 10 (.q 11 (.q 12 (.alt 13 (.q 14 (.q 15 .nil)) .stop)))))))))))))) mixed (by decide +kernel) ?_; replace hL := hL.drew; conv => whnf) | (refine V.tailA ttOk mixed (by decide +kernel) ?_; replace hL := hL.drew; conv => whnf) | (refine Both.mk ?_ ?_ <;> conv => whnf) | (intro o5 n5 c5 g1 g2 g3 g4; conv => whnf) | (intro o9 ho9; conv => whnf) | (refine Ld.row1 ttOk (hnr hL (by repeat (first | exact hns | exact .head _ | apply List.Mem.tail))).toN.rowOf rfl rfl (k := 1) rfl (by omega) ?_; conv => whnf) | (refine Lq.of_class (fun x hx => Ld.row1 ttOk (hnr hx (by repeat (first | exact hns | exact .head _ | apply List.Mem.tail))).toN.rowOf rfl rfl (k := 1) rfl (by omega) rfl) ?_; conv => whnf) | (refine Ld.row1 ttOk (hnr hL (by repeat (first | exact hns | exact .head _ | apply List.Mem.tail))).toN.rowOf rfl rfl (k := 2) rfl (by omega) ?_; conv => whnf) | (refine Lq.of_class (fun x hx => Ld.row1 ttOk (hnr hx (by repeat (first | exact hns | exact .head _ | apply List.Mem.tail))).toN.rowOf rfl rfl (k := 2) rfl (by omega) rfl) ?_; conv => whnf) | (refine Ld.row1 ttOk (hnr hL (by repeat (first | exact hns | exact .head _ | apply List.Mem.tail))).toN.rowOf rfl rfl (k := 3) rfl (by omega) ?_; conv => whnf) | (refine Lq.of_class (fun x hx => Ld.row1 ttOk (hnr hx (by repeat (first | exact hns | exact .head _ | apply List.Mem.tail))).toN.rowOf rfl rfl (k := 3) rfl (by omega) rfl) ?_; conv => whnf) | (refine Ld.row1 ttOk (hnr hL (by repeat (first | exact hns | exact .head _ | apply List.Mem.tail))).toN.rowOf rfl rfl (k := 4) rfl (by omega) ?_; conv => whnf) | (refine Lq.of_class (fun x hx => Ld.row1 ttOk (hnr hx (by repeat (first | exact hns | exact .head _ | apply List.Mem.tail))).toN.rowOf rfl rfl (k := 4) rfl (by omega) rfl) ?_; conv => whnf) | (refine Ld.row1 ttOk (hnr hL (by repeat (first | exact hns | exact .head _ | apply List.Mem.tail))).toN.rowOf rfl rfl (k := 5) rfl (by omega) ?_; conv => whnf) | (refine Lq.of_class (fun x hx => Ld.row1 ttOk (hnr hx (by repeat (first | exact hns | exact .head _ | apply List.Mem.tail))).toN.rowOf rfl rfl (k := 5) rfl (by omega) rfl) ?_; conv => whnf) | (refine (within_fn _ _ _ _).mono fun r w1 hr => ?_; obtain ⟨hr, hw⟩ := hr; subst hr; subst hw; conv => whnf) | (rw [h1]) | (rw [h4]) | (rw [h2]) | (rw [h3]) | fail)
  have hs5 := (hnr hL (by repeat (first | exact hns | exact .head _ | apply List.Mem.tail))).drop (k := 6) (o' := o5) (n' := n5) (c' := c5) (by omega) (fun h => by have := g1 (by omega); omega) (by omega) (by omega)
  rw [hdr] at hs5
  refine (nodes_fn 0 _ _ _ hs5 hns1).mono fun r w hr9 => ?_
  obtain ⟨hr9, hbl⟩ := hr9
  subst hr9
  replace hL := hL.call hB (Turns.of_below hbl)
  replace hB := Nat.le_trans hB hbl.size
  conv => whnf
  repeat (first | (refine RunH ?_; intro w hL hB; try clear w) | (refine Both.mk ?_ ?_ <;> conv => whnf) | fail)
  refine ⟨rfl, hB, ?_⟩
  unfold cR cC qR qC
  rw [hstep]
  exact hL.tl
set_option maxHeartbeats 16000000 in
theorem good_lead (cb qb cm : Nat) (g bg tk : Int) (rv ov : Value) (q : QS) (fr to kind n0 hint : Int) (nv dv : Value) (R : List Res) (hh : -1 ≤ hint ∧ hint ≤ 2) (hds : ∃ a n c, dv = .slice a n c)
    (hL : Sep Tryz.prog B w0 w (cR cb g bg tk cm rv ov :: qR qb q :: R)) (hB : B ≤ w.heap.size) (hns : nR nv [n0, 13, hint] ∈ R) :
    Fn Tryz.prog 21 #[ptrN cb, ptrN qb, msV fr to kind nv dv] w fun r w' => r = .bool true ∧ B ≤ w'.heap.size ∧ Sep Tryz.prog B w0 w' (cR cb g bg tk cm rv ov :: qR qb q :: R) := by
  obtain ⟨da, dn, dc, rfl⟩ := hds
  obtain ⟨na, nc, rfl⟩ := (nR_sl (hL.hold (nR nv [n0, 13, hint]) (mm1 (mm1 hns)))).shape
  obtain ⟨nb, no, rfl, _⟩ := (nR_sl (hL.hold (nR _ [n0, 13, hint]) (mm1 (mm1 hns)))).addr (by simp [numC])
  rw [numC_len] at hns ⊢
  have hnr : ∀ {x : World} {L' : List Res}, Sep Tryz.prog B w0 x L' → nR (.slice (some ⟨nb, no, none⟩) [n0, 13, hint].length nc) [n0, 13, hint] ∈ L' → Sl x (.slice (some ⟨nb, no, none⟩) [n0, 13, hint].length nc) (numC [n0, 13, hint]) := fun h hm => nR_sl (h.hold _ hm)
  have hlen : 3 = [n0, 13, hint].length := rfl
  generalize hln : [n0, 13, hint].length = ln at *
  subst hlen
  have h1 : decide (-1 ≤ hint ∧ hint ≤ 2) = true := decide_eq_true hh
  unfold cR cC qR qC at hL
  unfold msV
  refine Fn.mk Tryz.func21 rfl (by kernel_rfl) Tryz.ntmps21 rfl (by rw [Tryz.results21]) ?_
  repeat (first | (refine RunH ?_; intro w hL hB; try clear w) | (refine Both.mk ?_ ?_ <;> conv => whnf) | fail)
  (refine Nw.sep hL hB (fun mb w hL hB hmb => ?_); conv => whnf)
  repeat (first | (refine RunK ?_; intro w hL hB; try clear w) | (refine V.treeA ttOk hL (.q 0 (.q 1 (.q 2 (.q 3 (.q 4 (.q 5 (.q 6 (.q 7 (.q 8 (.q 9 (.q 10 (.q 11 (.q 12 (.alt 13 (.q 14 (.q 15 .nil)) .stop)))))))))))))) mixed (by decide +kernel) ?_; replace hL := hL.drew; conv => whnf) | (refine V.tailA ttOk mixed (by decide +kernel) ?_; replace hL := hL.drew; conv => whnf) | (refine Both.mk ?_ ?_ <;> conv => whnf) | (intro o9 ho9; conv => whnf) | (refine Ld.row1 ttOk (hnr hL (by repeat (first | exact hns | exact .head _ | apply List.Mem.tail))).toN.rowOf rfl rfl (k := 1) rfl (by omega) ?_; conv => whnf) | (refine Lq.of_class (fun x hx => Ld.row1 ttOk (hnr hx (by repeat (first | exact hns | exact .head _ | apply List.Mem.tail))).toN.rowOf rfl rfl (k := 1) rfl (by omega) rfl) ?_; conv => whnf) | (refine Ld.row1 ttOk (hnr hL (by repeat (first | exact hns | exact .head _ | apply List.Mem.tail))).toN.rowOf rfl rfl (k := 2) rfl (by omega) ?_; conv => whnf) | (refine Lq.of_class (fun x hx => Ld.row1 ttOk (hnr hx (by repeat (first | exact hns | exact .head _ | apply List.Mem.tail))).toN.rowOf rfl rfl (k := 2) rfl (by omega) rfl) ?_; conv => whnf) | (refine Ld.row1 ttOk (hnr hL (by repeat (first | exact hns | exact .head _ | apply List.Mem.tail))).toN.rowOf rfl rfl (k := 3) rfl (by omega) ?_; conv => whnf) | (refine Lq.of_class (fun x hx => Ld.row1 ttOk (hnr hx (by repeat (first | exact hns | exact .head _ | apply List.Mem.tail))).toN.rowOf rfl rfl (k := 3) rfl (by omega) rfl) ?_; conv => whnf) | (refine Ld.row1 ttOk (hnr hL (by repeat (first | exact hns | exact .head _ | apply List.Mem.tail))).toN.rowOf rfl rfl (k := 4) rfl (by omega) ?_; conv => whnf) | (refine Lq.of_class (fun x hx => Ld.row1 ttOk (hnr hx (by repeat (first | exact hns | exact .head _ | apply List.Mem.tail))).toN.rowOf rfl rfl (k := 4) rfl (by omega) rfl) ?_; conv => whnf) | (refine Ld.row1 ttOk (hnr hL (by repeat (first | exact hns | exact .head _ | apply List.Mem.tail))).toN.rowOf rfl rfl (k := 5) rfl (by omega) ?_; conv => whnf) | (refine Lq.of_class (fun x hx => Ld.row1 ttOk (hnr hx (by repeat (first | exact hns | exact .head _ | apply List.Mem.tail))).toN.rowOf rfl rfl (k := 5) rfl (by omega) rfl) ?_; conv => whnf) | (refine (within_fn _ _ _ _).mono fun r w1 hr => ?_; obtain ⟨hr, hw⟩ := hr; subst hr; subst hw; conv => whnf) | (rw [h1]) | fail)
  exact ⟨by rw [decide_eq_true (show -1 ≤ hint ∧ hint ≤ 3 - 1 by omega)], hB, hL.tl⟩
end
end Go.Proofs.YtcjnaljdbbjojaaGreatDoor
