/- client: goes. Nothing is claimed here. -/
import Derived.Test.YtcjnaljdbbjojaaGreatDoorCla
namespace Go.Proofs.YtcjnaljdbbjojaaGreatDoor
open Go.RowKit
open Go.Maps (Keyed)
set_option linter.unusedVariables false
set_option linter.unusedSimpArgs false
set_option maxRecDepth 100000

theorem p23 {α : Type} (x y a b c : α) (R : List α) : (x :: y :: a :: b :: c :: R).Perm (a :: b :: c :: x :: y :: R) := by
  have := List.perm_append_comm (l₁ := [x, y]) (l₂ := [a, b, c])
  exact (this.append_right R)
theorem p24 {α : Type} (x y a b c d : α) (R : List α) : (x :: y :: a :: b :: c :: d :: R).Perm (a :: b :: c :: d :: y :: x :: R) := by
  have := List.perm_append_comm (l₁ := [x, y]) (l₂ := [a, b, c, d])
  exact (this.append_right R).trans ((((((List.Perm.swap y x R)).cons d).cons c).cons b).cons a)
theorem mm1 {α : Type} {a x : α} {l : List α} (h : x ∈ l) : x ∈ a :: l := List.mem_cons_of_mem _ h
theorem mm3 {α : Type} {a b c x : α} {l : List α} (h : x ∈ l) : x ∈ a :: b :: c :: l := mm1 (mm1 (mm1 h))
theorem mm4 {α : Type} {a b c d x : α} {l : List α} (h : x ∈ l) : x ∈ a :: b :: c :: d :: l := mm1 (mm3 h)
theorem put_nil {x v : Value} {l : List (Value × Value)} (h : Put [] x v l) : l = [(x, v)] := by
  cases h with
  | new h => rfl
  | old A B u h => cases A <;> simp at h
def mC (to kind : Int) (nv dv : Value) : List Value := [.int .i64 7, .int .i64 to, .int .i64 kind, nv, dv]
theorem mC_one {to kind : Int} {a a2 : Option Addr} {n c n2 c2 : Nat} : ∀ u ∈ mC to kind (.slice a n c) (.slice a2 n2 c2), u.oneCell' = true := by
  intro u hu
  simp only [mC, List.mem_cons, List.not_mem_nil, or_false] at hu
  rcases hu with rfl | rfl | rfl | rfl | rfl <;> rfl
section
variable {B : Nat} {w0 w : World}
set_option maxHeartbeats 16000000 in
theorem goes_fn (cb qb cm : Nat) (g bg tk : Int) (rv ov : Value) (q : QS) (step kind : Int) (dv tv nv : Value) (d : List UInt8) (to : Int) (nums : List Int) (m : Nat) (ms : List Value) (R : List Res) (htk : 0 ≤ tk ∧ tk < 1000000) (hto : 0 ≤ to ∧ to ≤ 1000000) (hm : m ≤ 1000) (hnl : nums.length ≤ 1000)
    (hL : Sep Tryz.prog B w0 w (cR cb g bg tk cm rv ov :: qR qb q :: .row 42 5 ov m ms :: R)) (hB : B ≤ w.heap.size) (hd : bR dv d ∈ R) (ht : nR tv [to] ∈ R) (hn : nR nv nums ∈ R) (hdl : d.length ≤ 2147483648) :
    Fn Tryz.prog 31 #[ptrN cb, ptrN qb, .int .i64 step, .int .i64 kind, dv, tv, nv] w fun r w' => r = .tuple #[] ∧ ∃ ov' nv' dv' sm, B ≤ w'.heap.size ∧
      Sep Tryz.prog B w0 w' (cR cb g bg (tk + 1) cm rv ov' :: qR qb { q with step := step, waited := 0, tk := tk + 1, sent := .map (some sm) } :: .row 42 5 ov' (m + 1) (ms ++ mC to kind nv' dv') :: .mp 3 sm [(.int .i64 to, .bool true)] :: nR nv' ((tk + 1) :: nums) :: bR dv' d :: R) := by
  obtain ⟨ta, tc, rfl⟩ := (nR_sl (hL.hold (nR tv [to]) (mm3 ht))).shape
  obtain ⟨na, nc, rfl⟩ := (nR_sl (hL.hold (nR nv nums) (mm3 hn))).shape
  obtain ⟨da, dc, rfl⟩ := (bR_sl (hL.hold (bR dv d) (mm3 hd))).shape
  rw [numC_len] at hn ht
  rw [bv_length] at hd
  obtain ⟨tb, to9, rfl, _⟩ := (nR_sl (hL.hold (nR (.slice ta [to].length tc) [to]) (mm3 ht))).addr (by simp [numC])
  rw [numC_len, numC_len, bv_length]
  have htr : ∀ {x : World} {L' : List Res}, Sep Tryz.prog B w0 x L' → nR (.slice (some ⟨tb, to9, none⟩) 1 tc) [to] ∈ L' → Row x tb to9 (numC [to]) := fun h hm => (nR_sl (h.hold _ hm)).toN.rowOf
  change nR (.slice (some ⟨tb, to9, none⟩) 1 tc) [to] ∈ R at ht
  show Fn _ _ #[_, _, _, _, _, .slice (some ⟨tb, to9, none⟩) 1 tc, _] _ _
  obtain ⟨oa, oc, hov⟩ := (show SlN w 5 ov m ms from hL.rowN (i := 2) rfl).shape
  subst hov
  unfold cR cC qR qC at hL
  refine Fn.mk Tryz.func31 rfl (by kernel_rfl) Tryz.ntmps31 rfl (by rw [Tryz.results31]) ?_
  repeat (first | (refine RunH ?_; intro w hL hB; try clear w) | (refine Both.mk ?_ ?_ <;> conv => whnf) | fail)
  refine Nw.sepM hL 3 hB fun sm w hL hB _ => ?_
  conv => whnf
  repeat (first | (refine RunH ?_; intro w hL hB; try clear w) | (refine Both.mk ?_ ?_ <;> conv => whnf) | fail)
  refine V.loop (α := Nat) (fun i => [(0, ptrN cb), (1, ptrN qb), (3, .int .i64 kind), (4, .slice da d.length dc), (6, .slice na nums.length nc), (41, .slice (some ⟨tb, to9, none⟩) 1 tc), (42, .int .i64 1), (43, .int .i64 (i : Int))])
    (fun i w' => B ≤ w'.heap.size ∧ ((i = 0 ∧ Sep Tryz.prog B w0 w' (cR cb g bg (tk + 1) cm rv (.slice oa m oc) :: qR qb { q with step := step, waited := 0, tk := tk + 1, sent := .map (some sm) } :: .row 42 5 (.slice oa m oc) m ms :: .mp 3 sm [] :: R)) ∨ (i = 1 ∧ ∃ ov' nv' dv', Sep Tryz.prog B w0 w' (cR cb g bg (tk + 1) cm rv ov' :: qR qb { q with step := step, waited := 0, tk := tk + 1, sent := .map (some sm) } :: .row 42 5 ov' (m + 1) (ms ++ mC to kind nv' dv') :: .mp 3 sm [(.int .i64 to, .bool true)] :: nR nv' ((tk + 1) :: nums) :: bR dv' d :: R)))) (fun i => 1 - i) 0 ⟨rfl, rfl, rfl, rfl, rfl, rfl, rfl, rfl, trivial⟩ ⟨hB, .inl ⟨rfl, hL.perm ?_⟩⟩ ?_
  · exact (List.perm_append_comm (l₁ := [_]) (l₂ := [_, _, _])).append_right R
  repeat clear hL
  repeat clear hB
  rintro i w ⟨hB, ⟨rfl, hL⟩ | ⟨rfl, ov', nv', dv', hL⟩⟩
  · have hcls : ∀ {x : World} {L' : List Res} {o : Value}, Sep Tryz.prog B w0 x L' → cR cb g bg (tk + 1) cm rv o ∈ L' → qR qb { q with step := step, waited := 0, tk := tk + 1, sent := .map (some sm) } ∈ L' → ∃ o, Blk x cb (cC g bg (tk + 1) cm rv o) 60 ∧ Blk x qb (qC { q with step := step, waited := 0, tk := tk + 1, sent := .map (some sm) }) 70 := fun {x L' o} h h1 h2 => ⟨o, h.hold _ h1, h.hold _ h2⟩
    unfold cR cC qR qC at hL
    repeat (first | (refine RunH ?_; intro w hL hB; try clear w) | (refine Both.mk ?_ ?_ <;> conv => whnf) | fail)
    intro o3 ho3
    conv => whnf
    repeat (first | (refine RunH ?_; intro w hL hB; try clear w) | (refine Both.mk ?_ ?_ <;> conv => whnf) | fail)
    refine Ld.row1 ttOk (htr hL (mm4 ht)) rfl rfl (k := 0) (v := .int .i64 to) rfl (by omega) ?_
    conv => whnf
    repeat (first | (refine RunH ?_; intro w hL hB; try clear w) | (refine Both.mk ?_ ?_ <;> conv => whnf) | fail)
    refine Ru.putS ttOk hL intK 3 tl64 rfl (goodS (by omega)) hB fun w l' hput hL hB => ?_
    rw [put_nil hput] at hL
    dsimp only [List.set] at hL
    conv => whnf
    repeat (first | (refine RunH ?_; intro w hL hB; try clear w) | (refine Both.mk ?_ ?_ <;> conv => whnf) | fail)
    have e1 : 1 + (numC nums).length = ((tk + 1) :: nums).length := by rw [numC_len, List.length_cons]; omega
    refine V.tree ttOk (fun x => ∃ o, Blk x cb (cC g bg (tk + 1) cm rv o) 60 ∧ Blk x qb (qC { q with step := step, waited := 0, tk := tk + 1, sent := .map (some sm) }) 70) (.q 0 (.q 1 (.q 2 (.q 3 (.q 5 (.q 6 (.q 7 (.q 8 (.q 9 (.q 10 (.q 11 (.q 12 (.q 13 (.q 14 (.q 16 (.q 18 (.alt 4 (.alt 15 (.alt 17 (.alt 19 (.q 20 (.alt 21 (.alt 22 (.q 23 (.q 24 (.alt 25 .nil .stop))) .stop) .stop)) .stop) .stop) .stop) (.alt 15 (.alt 4 (.alt 17 (.alt 19 (.q 20 (.alt 21 (.alt 22 (.q 23 (.q 24 (.alt 25 .nil .stop))) .stop) .stop)) .stop) .stop) (.alt 17 (.alt 4 (.alt 19 (.q 20 (.alt 21 (.alt 22 (.q 23 (.q 24 (.alt 25 .nil .stop))) .stop) .stop)) .stop) (.alt 19 (.q 20 (.alt 4 (.alt 21 (.alt 22 (.q 23 (.q 24 (.alt 25 .nil .stop))) .stop) .stop) (.alt 21 (.alt 4 (.alt 22 (.q 23 (.q 24 (.alt 25 .nil .stop))) .stop) .stop) .stop))) .stop)) .stop)) .stop)))))))))))))))))) mixed (by decide +kernel) (hcls hL.drew (by repeat (first | exact .head _ | apply List.Mem.tail)) (by repeat (first | exact .head _ | apply List.Mem.tail))) ?_
    replace hL := hL.drew
    conv => whnf
    repeat' (first | (refine RunH ?_; intro w hL hB; try clear w) | (refine Br.dec (fun hbr => ?_) (fun hbr => ?_) <;> conv => whnf) | (refine Br.mk (fun hbr => ?_) (fun hbr => ?_) <;> conv => whnf) | (refine Both.mk ?_ ?_ <;> conv => whnf) | (refine Lq.of_class (fun x hx => Ld.blk ttOk rfl rfl hx.choose_spec.1 rfl rfl) ?_; conv => whnf) | (refine Lq.of_class (fun x hx => Ld.blk ttOk rfl rfl hx.choose_spec.2 rfl rfl) ?_; conv => whnf) | (refine And.intro (hcls hL (by repeat (first | exact .head _ | apply List.Mem.tail)) (by repeat (first | exact .head _ | apply List.Mem.tail))) ?_; conv => whnf) | (refine Rv.buildS (vs := [.int .i64 (tk + 1)]) ttOk hL tl40 tl3 rfl rfl (by intro u hu; simp only [List.mem_singleton] at hu; subst hu; rfl) (by decide) (by decide) hB (fun bo w hL hB => ?_); conv => whnf) | (refine Rv.appendS ttOk hL tl40 tl3 rfl (by decide) 0 rfl (nR_sl (hL.hold _ (mm1 (mm4 hn)))).toN (numC_one _) (by rw [numC_len]; simp only [maxLen]; omega) (by rw [numC_len]; omega) hB (fun v9 w hL hB => ?_); dsimp only [List.set] at hL; rw [e1] at hL; obtain ⟨va, vc, rfl⟩ := (hL.rowN (i := 0) rfl).shape; conv => whnf) | (refine (clone_fn _ d _ (bR_sl (hL.hold _ (mm1 (mm4 hd)))) hdl).mono fun r w hr9 => ?_; obtain ⟨hown, hbl⟩ := hr9; replace hL := hL.addRow hB hbl hown; replace hB := Nat.le_trans hB hbl.size; obtain ⟨sa, sc, rfl⟩ := (hL.rowN (i := 0) rfl).shape; clear hown hbl; conv => whnf) | (refine Rv.buildS (len := 1) (vs := [.agg #[.int .i64 7, .int .i64 to, .int .i64 kind, .slice va ((tk + 1) :: nums).length vc, .slice sa d.length sc] ]) ttOk hL tl30 tl42 rfl rfl (by intro u hu; simp only [List.mem_singleton] at hu; subst hu; rfl) (by decide) (by decide) hB fun bp w hL hB => ?_; replace hL : Sep Tryz.prog B w0 w (.row 42 5 (.slice (some ⟨bp, 0, none⟩) 1 1) 1 (mC to kind (.slice va ((tk + 1) :: nums).length vc) (.slice sa d.length sc)) :: _) := hL; conv => whnf) | (refine Rv.appendS (m := 1) (news := mC to kind (.slice va ((tk + 1) :: nums).length vc) (.slice sa d.length sc)) ttOk hL tl30 tl42 rfl (by decide) 5 rfl (hL.rowN (i := 0) rfl) mC_one (by simp only [maxLen]; omega) (by omega) hB fun vo w hL hB => ?_; dsimp only [List.set] at hL; obtain ⟨wa, wc, rfl⟩ := (show SlN w 5 vo (m + 1) _ from hL.rowN (i := 5) rfl).shape; conv => whnf) | fail)
    all_goals
      exact ⟨1, ⟨rfl, rfl, rfl, rfl, rfl, rfl, rfl, vint (by omega), trivial⟩, ⟨hB, .inr ⟨rfl, _, _, _, hL.tl.perm (p24 _ _ _ _ _ _ _)⟩⟩, (by first | omega | (dsimp only; omega))⟩
  · repeat (first | (refine RunH ?_; intro w hL hB; try clear w) | (refine Both.mk ?_ ?_ <;> conv => whnf) | fail)
    exact ⟨rfl, ov', nv', dv', sm, hB, hL⟩
end
/-- a message was sent for a call, to one node -/
def Sent (B : Nat) (w0 w' : World) (cb qb cm : Nat) (g bg tk : Int) (rv : Value) (q : QS) (m : Nat) (ms : List Value) (to kind : Int) (nums : List Int) (d : List UInt8) (R : List Res) : Prop := ∃ ov' nv' dv' sm, B ≤ w'.heap.size ∧
  Sep Tryz.prog B w0 w' (cR cb g bg (tk + 1) cm rv ov' :: qR qb { q with waited := 0, tk := tk + 1, sent := .map (some sm) } :: .row 42 5 ov' (m + 1) (ms ++ mC to kind nv' dv') :: .mp 3 sm [(.int .i64 to, .bool true)] :: nR nv' ((tk + 1) :: nums) :: bR dv' d :: R)
theorem Sent.sub {B : Nat} {w0 w' : World} {cb qb cm : Nat} {g bg tk : Int} {rv : Value} {q : QS} {m : Nat} {ms : List Value} {to kind : Int} {nums : List Int} {d : List UInt8} {R R' : List Res} (h : Sent B w0 w' cb qb cm g bg tk rv q m ms to kind nums d R) (hs : R'.Sublist R) : Sent B w0 w' cb qb cm g bg tk rv q m ms to kind nums d R' := by
  obtain ⟨ov', nv', dv', sm, h1, h2⟩ := h
  exact ⟨ov', nv', dv', sm, h1, h2.sub ((((((hs.cons_cons _).cons_cons _).cons_cons _).cons_cons _).cons_cons _).cons_cons _)⟩
theorem sub1 {α : Type} (a : α) (l : List α) : l.Sublist (a :: l) := .cons _ (.refl _)
theorem sub2 {α : Type} (a b : α) (l : List α) : l.Sublist (a :: b :: l) := .cons _ (.cons _ (.refl _))
theorem sub3 {α : Type} (a b c : α) (l : List α) : l.Sublist (a :: b :: c :: l) := .cons _ (.cons _ (.cons _ (.refl _)))
theorem p33 {α : Type} (x y z a b c : α) (R : List α) : (x :: y :: z :: a :: b :: c :: R).Perm (a :: b :: c :: x :: y :: z :: R) := by
  have := List.perm_append_comm (l₁ := [x, y, z]) (l₂ := [a, b, c])
  exact (this.append_right R)
end Go.Proofs.YtcjnaljdbbjojaaGreatDoor
