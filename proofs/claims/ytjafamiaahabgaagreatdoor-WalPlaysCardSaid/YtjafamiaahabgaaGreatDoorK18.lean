/- garnerref10: record, read. wal: Open. Nothing is claimed here. -/
import Derived.Test.YtjafamiaahabgaaGreatDoorK16
import Derived.Test.YtjafamiaahabgaaGreatDoorK17
namespace Go.Proofs.YtjafamiaahabgaaGreatDoor
open Go.RowKit Go.Lib
set_option linter.unusedVariables false
set_option linter.unusedSimpArgs false
set_option maxRecDepth 100000

set_option maxHeartbeats 4000000 in
theorem recordR_fn (i : Nat) (hi : i ≤ 4000000000) (v : Value) (x : List UInt8) (hx0 : recL i x ≤ 1048584) (w0 : World) (hs : Sl w0 v (bv x)) :
    Fn Tryz.prog 81 #[.int .i64 (i : Int), v] w0 fun r w' => w'.ownsRow w0.heap.size 5 1 r (recL i x) (bv (encF (encU i ++ x))) ∧ Below w0.heap.size w0 w' := by
  obtain ⟨va, vc, rfl⟩ := hs.shape
  obtain ⟨q1, q2, q3⟩ := hs.len
  rw [bv_length] at *
  have hx : (encU i).length + x.length ≤ 1048576 := by rw [recL] at hx0; omega
  have hL := Sep.start Tryz.prog w0
  have hB := Nat.le_refl w0.heap.size
  refine Fn.mk Tryz.func81 rfl (by kernel_rfl) Tryz.ntmps81 rfl (by rw [Tryz.results81]) ?_
  repeat (first | (refine RunH ?_; intro w hL hB; try clear w) | (refine Both.mk ?_ ?_ <;> conv => whnf) | fail)
  refine (uvarintR_fn i (by omega) _).mono fun r w ⟨ho, hw⟩ => ?_
  replace hL := hL.addRow hB hw ho
  replace hB := Nat.le_trans hB hw.size
  clear ho hw
  have hul := encU_len i
  obtain ⟨ra, rc, rfl⟩ := (show SlN w 1 r (encU i).length _ from hL.rowN (i := 0) rfl).shape
  conv => whnf
  repeat (first | (refine RunH ?_; intro w hL hB; try clear w) | (refine Both.mk ?_ ?_ <;> conv => whnf) | fail)
  refine Rv.appendS ttOk hL tl23 tl5 rfl (by decide) 0 rfl (Sl.toN (hL.sl hs rfl)) (bv_one _) (by simp only [maxLen, bv_length]; omega) (by rw [bv_length]; omega) hB fun vo w hL hB => ?_
  dsimp only [List.set] at hL
  rw [← bv_append, bv_length, ← List.length_append] at hL
  obtain ⟨ra2, rc2, rfl⟩ := (show SlN w 1 vo (encU i ++ x).length _ from hL.rowN (i := 0) rfl).shape
  conv => whnf
  repeat (first | (refine RunH ?_; intro w hL hB; try clear w) | (refine Both.mk ?_ ?_ <;> conv => whnf) | fail)
  refine (encodeR_fn _ (encU i ++ x) (by rw [List.length_append]; omega) _ (hL.row (i := 0) rfl)).mono fun r w ⟨u, hr, ho, hw⟩ => ?_
  subst hr
  replace hL := (hL.addRow hB hw ho).pop 1
  replace hB := Nat.le_trans hB hw.size
  clear ho hw
  have hrl : (encF (encU i ++ x)).length = recL i x := by rw [encF_len, List.length_append, recL]; omega
  obtain ⟨ea, ec, rfl⟩ := (show SlN w 1 u (encF (encU i ++ x)).length _ from hL.rowN (i := 0) rfl).shape
  conv => whnf
  repeat (first | (refine RunH ?_; intro w hL hB; try clear w) | (refine Both.mk ?_ ?_ <;> conv => whnf) | fail)
  rw [hrl] at hL ⊢
  exact ⟨hL.ownR (i := 0) rfl, hL.below⟩
theorem entry_in2 {α : Type} (r b e i : α) (M Y : List α) : (r :: b :: e :: i :: (M ++ Y)).Perm (b :: e :: i :: ((M ++ [r]) ++ Y)) := by
  have h := (List.perm_middle (a := r) (l₁ := [b, e, i] ++ M) (l₂ := Y)).symm
  rw [List.append_assoc M [r] Y]
  exact h.trans (List.Perm.of_eq (by simp))
set_option maxHeartbeats 16000000 in
theorem readW_fn {B : Nat} {w0 w : World} {F : List Res} (first : Nat) (hfi : first ≤ 99999999) (b : List UInt8) (hbl : b.length ≤ 1073741824) (v : Value) (hv : ∀ w', Sep Tryz.prog B w0 w' F → Sl w' v (bv b)) (hL : Sep Tryz.prog B w0 w F) (hB : B ≤ w.heap.size) :
    Fn Tryz.prog 78 #[v, .int .i64 (first : Int)] w fun r w' => ∃ (es : List En) (lv : Value), r = .tuple #[.agg #[.int .i64 (first : Int), lv], .int .i64 (lenW first (es.map En.d) : Nat), .bool (decide (lenW first (es.map En.d) = b.length))] ∧ (rdW (b.length + 1) first b).1 = es.map En.d ∧
      Sep Tryz.prog B w0 w' (.rc 23 lv es.length (es.map En.v) :: (es.map En.res ++ F)) ∧ B ≤ w'.heap.size := by
  have hsv := hv _ hL
  obtain ⟨ba, bc, rfl⟩ := hsv.shape
  obtain ⟨q1, q2, q3⟩ := hsv.len
  rw [bv_length] at *
  clear hsv
  refine Fn.mk Tryz.func78 rfl (by kernel_rfl) Tryz.ntmps78 rfl (by rw [Tryz.results78]) ?_
  repeat (first | (refine RunH ?_; intro w hL hB; try clear w) | (refine Both.mk ?_ ?_ <;> conv => whnf) | fail)
  (refine Nw.sep hL hB (fun rb w hL hB hrb => ?_); conv => whnf)
  repeat (first | (refine RunH ?_; intro w hL hB; try clear w) | (refine Both.mk ?_ ?_ <;> conv => whnf) | fail)
  (refine Nw.sep hL hB (fun sb w hL hB hsb => ?_); conv => whnf)
  repeat (first | (refine Br.go ?_; first | ((first | refine Br.tt ?_ | refine Br.ff ?_ | refine Br.y ?_ | refine Br.n ?_ | refine Br.t ?_ | refine Br.f ?_ | fail); conv => whnf) | refine Br.not ?_ | fail) | (refine Ld.go ?_; first | ((first | refine Ld.x ttOk hL ?_ | refine Ld.p ttOk hL ?_ | fail); conv => whnf) | fail) | (refine St.x ttOk hL hB (fun w hL hB => ?_); dsimp only [List.set, splice, overL, cellsL, takeL, dropL, List.drop, List.take] at hL; conv => whnf) | (refine Lq.go ?_; first | ((first | refine Lq.x ttOk hL.cls ?_ | refine Lq.x ttOk (fun _ h => h) ?_ | refine Lq.p ttOk hL.cls ?_ | refine Lq.p ttOk (fun _ h => h) ?_ | fail); conv => whnf) | fail) | (refine Ar.go ?_; first | ((first | refine Ar.s ?_ | refine Ar.u ?_ | refine Ar.h ?_ | refine Ar.b ?_ | fail); conv => whnf) | fail) | ((first | refine Chk.m ?_ | refine Qv.str ttOk rfl rfl rfl ?_ | refine An.x hL ?_ | fail); conv => whnf) | (refine Both.mk ?_ ?_ <;> conv => whnf) | fail)
  refine V.seq ?_
  refine V.reg ttOk ?_
  conv => whnf
  repeat (first | (refine RunH ?_; intro w hL hB; try clear w) | (refine Both.mk ?_ ?_ <;> conv => whnf) | fail)
  replace hL : Sep Tryz.prog B w0 w (.rc 23 (.slice none 0 0) 0 [] :: .blk sb [.int .i64 (first : Int), .slice none 0 0] 133 :: .blk rb [.int .i64 0, .slice none 0 0] 133 :: F) := hL.nilC _
  conv => whnf
  refine V.loop (α := List En × Value) (fun z => [(0, .slice ba b.length bc), (1, .int .i64 (first : Int)), (4, .pointer (some ⟨rb, 0, none⟩)), (7, .pointer (some ⟨sb, 0, none⟩)), (8, .int .i64 (lenW first (z.1.map En.d) : Nat))])
    (fun z w' => (lenW first (z.1.map En.d) ≤ b.length ∧ ∃ fu, b.length - lenW first (z.1.map En.d) < fu ∧ (rdW (b.length + 1) first b).1 = z.1.map En.d ++ (rdW fu (first + z.1.length) (b.drop (lenW first (z.1.map En.d)))).1) ∧ B ≤ w'.heap.size ∧
      Sep Tryz.prog B w0 w' (.rc 23 z.2 z.1.length (z.1.map En.v) :: .blk sb [.int .i64 (first : Int), z.2] 133 :: .blk rb [.int .i64 0, .slice none 0 0] 133 :: (z.1.map En.res ++ F)))
    (fun z => b.length - lenW first (z.1.map En.d)) ([], .slice none 0 0) ⟨rfl, rfl, rfl, rfl, rfl, trivial⟩ ⟨⟨Nat.zero_le _, b.length + 1, by simp [lenW], by simp [lenW]⟩, hB, hL⟩ ?_
  clear hL hB
  rintro ⟨es, ev⟩ w ⟨⟨hat, fu, hfu, hrd⟩, hB, hL⟩
  dsimp only at hat hfu hrd hL ⊢
  obtain ⟨at_, hate⟩ : ∃ a, a = lenW first (es.map En.d) := ⟨_, rfl⟩
  have hge := lenW_ge first (es.map En.d)
  rw [List.length_map] at hge
  rw [← hate] at hat hfu hrd hge ⊢
  obtain ⟨eva, evc, rfl⟩ := RowC.shape (show RowC w _ ev es.length _ from hL.at (i := 0) rfl)
  have hs := hv _ (hL.sub (.cons _ (.cons _ (.cons _ (List.sublist_append_right _ _)))))
  by_cases hlt : b.length ≤ at_
  · have hz : (rdW fu (first + es.length) (b.drop at_)).1 = [] := by
      rw [List.drop_of_length_le (by omega)]
      cases fu with
      | zero => rfl
      | succ f => simp [rdW]
    rw [hz, List.append_nil] at hrd
    repeat (first | (refine RunH ?_; intro w hL hB; try clear w) | (refine Both.mk ?_ ?_ <;> conv => whnf) | fail)
    refine ⟨es, _, ?_, hrd, hL.sub (.cons_cons _ (.cons _ (.cons _ (.refl _)))), hB⟩
    rw [← hate, decide_eq_true (show at_ = b.length by omega)]
    rfl
  have hnw : decide (at_ = b.length) = false := decide_eq_false (by omega)
  obtain ⟨fu, rfl⟩ : ∃ k, fu = k + 1 := ⟨fu - 1, by omega⟩
  obtain ⟨bb, bo, rfl, _⟩ := hs.addr (by omega)
  repeat (first | (refine RunH ?_; intro w hL hB; try clear w) | (refine Both.mk ?_ ?_ <;> conv => whnf) | fail)
  intro o1 n1 c1 p1 p2 p3 p4
  conv => whnf
  repeat (first | (refine RunH ?_; intro w hL hB; try clear w) | (refine Both.mk ?_ ?_ <;> conv => whnf) | fail)
  have hwin : Go.Proofs.YtjafamiaahabgaaGreatDoor.win b at_ (b.length - at_) = b.drop at_ := by
    rw [Go.Proofs.YtjafamiaahabgaaGreatDoor.win, List.take_of_length_le (by rw [List.length_drop]; exact Nat.le_refl _)]
  have hs2 := hs.win (lo := at_) (n := b.length - at_) (o' := o1) (n' := n1) (c' := c1) (by omega) (fun h => by have := p1 (by omega); omega) (by omega) (by omega)
  rw [hwin] at hs2
  have hdl : (b.drop at_).length = b.length - at_ := List.length_drop
  generalize hbd : b.drop at_ = bd at *
  obtain rfl : n1 = b.length - at_ := by omega
  refine (decodeR_fn _ bd w hs2).mono fun r w ⟨hr, hw⟩ => ?_
  by_cases hde : decE bd ≠ 0
  · have hno : hdW (first + es.length) bd = false := by simp [hdW, hde]
    have hz : (rdW (fu + 1) (first + es.length) bd).1 = [] := by rw [rdW, if_neg (by rw [hno]; simp)]
    rw [hz, List.append_nil] at hrd
    rw [decPost, if_neg hde] at hr
    subst hr
    replace hL := hL.call hB (Turns.of_below hw)
    replace hB := Nat.le_trans hB hw.size
    have hde2 : ¬ ((decE bd : Int) = 0) := by omega
    conv => whnf
    repeat (first | (refine RunH ?_; intro w hL hB; try clear w) | (refine Both.mk ?_ ?_ <;> conv => whnf) | fail)
    refine ⟨es, _, ?_, hrd, hL.sub (.cons_cons _ (.cons _ (.cons _ (.refl _)))), hB⟩
    rw [← hate, hnw]
    rfl
  replace hde : decE bd = 0 := by omega
  rw [decPost, if_pos hde] at hr
  obtain ⟨hd1, hd2, u, rfl, hown⟩ := hr
  replace hL := hL.addRow hB hw (by rw [← hd2] at hown; exact hown)
  replace hB := Nat.le_trans hB hw.size
  clear hown hw
  generalize hpp : decP bd = pp at *
  have hul := rdU_ok pp
  conv => whnf
  repeat (first | (refine RunH ?_; intro w hL hB; try clear w) | (refine Both.mk ?_ ?_ <;> conv => whnf) | fail)
  refine (readUvR_fn _ pp w (hL.row (i := 0) rfl)).mono fun r w1 ⟨hr, hw⟩ => ?_
  subst hr; rw [hw]; clear hw
  obtain ⟨ua, uc, hue⟩ := (show SlN w 1 u pp.length _ from hL.rowN (i := 0) rfl).shape
  subst hue
  have hpl : pp.length = decN bd := hd2
  have leave : hdW (first + es.length) bd = false → (rdW (b.length + 1) first b).1 = es.map En.d := fun hno => by
    rw [hrd, rdW, if_neg (by rw [hno]; simp), List.append_nil]
  by_cases he : (rdU pp).2.2 ≠ 0
  · have hrd2 := leave (by simp [hdW, hpp, he])
    have he2 : ¬ (((rdU pp).2.2 : Nat) : Int) = 0 := by omega
    replace hL := hL.tl
    conv => whnf
    repeat (first | (refine RunH ?_; intro w hL hB; try clear w) | (refine Both.mk ?_ ?_ <;> conv => whnf) | fail)
    refine ⟨es, _, ?_, hrd2, hL.sub (.cons_cons _ (.cons _ (.cons _ (.refl _)))), hB⟩
    rw [← hate, hnw]
    rfl
  replace he : (rdU pp).2.2 = 0 := by omega
  have he2 : (((rdU pp).2.2 : Nat) : Int) = 0 := by omega
  by_cases hnu : (rdU pp).1 ≠ first + es.length
  · have hrd2 := leave (by simp [hdW, hpp, hnu])
    have hnu2 : ¬ (((rdU pp).1 : Nat) : Int) = ((first + es.length : Nat) : Int) := by omega
    replace hL := hL.tl
    conv => whnf
    repeat (first | (refine RunH ?_; intro w hL hB; try clear w) | (refine Both.mk ?_ ?_ <;> conv => whnf) | fail)
    refine ⟨es, _, ?_, hrd2, hL.sub (.cons_cons _ (.cons _ (.cons _ (.refl _)))), hB⟩
    rw [← hate, hnw]
    rfl
  replace hnu : (rdU pp).1 = first + es.length := by omega
  have hnu2 : (((rdU pp).1 : Nat) : Int) = ((first + es.length : Nat) : Int) := by omega
  have hhd : hdW (first + es.length) bd = true := by simp [hdW, hpp, he, hnu, hde]
  have hhl := hdW_len hhd
  have hxd : hdX bd = pp.drop (rdU pp).2.1 := by rw [hdX, hpp]
  rw [hpp] at hhl
  have hpos : 0 < (rdU pp).2.1 := hul.2.2.2 he
  obtain ⟨ug, ucap, hug, hcap⟩ := own_shapeP (hL.ownR (i := 0) rfl) (by omega)
  injection hug with hug1 hug2 hug3
  subst hug1; subst hug3
  obtain ⟨k1, k2, k3⟩ := (show Sl w (.slice (some ⟨ug, 0, none⟩) pp.length uc) (bv pp) from hL.row (i := 0) rfl).len
  have hxl : (pp.drop (rdU pp).2.1).length = pp.length - (rdU pp).2.1 := List.length_drop
  conv => whnf
  repeat (first | (refine RunH ?_; intro w hL hB; try clear w) | (refine Both.mk ?_ ?_ <;> conv => whnf) | fail)
  have hlen2 : ∀ x, lenW first ((es ++ [(⟨x, pp.drop (rdU pp).2.1⟩ : En)]).map En.d) = at_ + (8 + decN bd) := fun x => by
    rw [List.map_append, List.map_singleton, lenW_snoc, List.length_map, ← hate, ← hxd, ← hhl.1]
  have fin : ∀ {w : World} {o2 n2 c2 : Nat} {v1 : Value} {R1 : Res}, (((rdU pp).2.1 : Int) < uc → (o2 : Int) = 0 + (rdU pp).2.1 * 1) → (n2 : Int) = pp.length - (rdU pp).2.1 → (c2 : Int) = uc - (rdU pp).2.1 → B ≤ w.heap.size →
      Sep Tryz.prog B w0 w (R1 :: .row 5 1 (.slice (some ⟨ug, 0, none⟩) pp.length uc) pp.length (bv pp) :: .rc 23 v1 (es.length + 1) (es.map En.v ++ [.slice (some ⟨ug, o2, none⟩) n2 c2]) :: .blk sb [.int .i64 (first : Int), v1] 133 :: .blk rb [.int .i64 0, .slice none 0 0] 133 :: (es.map En.res ++ F)) →
      (lenW first ((es ++ [(⟨.slice (some ⟨ug, o2, none⟩) n2 c2, pp.drop (rdU pp).2.1⟩ : En)]).map En.d) ≤ b.length ∧ ∃ fu, b.length - lenW first ((es ++ [(⟨.slice (some ⟨ug, o2, none⟩) n2 c2, pp.drop (rdU pp).2.1⟩ : En)]).map En.d) < fu ∧ (rdW (b.length + 1) first b).1 = (es ++ [(⟨.slice (some ⟨ug, o2, none⟩) n2 c2, pp.drop (rdU pp).2.1⟩ : En)]).map En.d ++ (rdW fu (first + (es ++ [(⟨.slice (some ⟨ug, o2, none⟩) n2 c2, pp.drop (rdU pp).2.1⟩ : En)]).length) (b.drop (lenW first ((es ++ [(⟨.slice (some ⟨ug, o2, none⟩) n2 c2, pp.drop (rdU pp).2.1⟩ : En)]).map En.d)))).1) ∧ B ≤ w.heap.size ∧
      Sep Tryz.prog B w0 w (.rc 23 v1 (es ++ [(⟨.slice (some ⟨ug, o2, none⟩) n2 c2, pp.drop (rdU pp).2.1⟩ : En)]).length ((es ++ [(⟨.slice (some ⟨ug, o2, none⟩) n2 c2, pp.drop (rdU pp).2.1⟩ : En)]).map En.v) :: .blk sb [.int .i64 (first : Int), v1] 133 :: .blk rb [.int .i64 0, .slice none 0 0] 133 :: ((es ++ [(⟨.slice (some ⟨ug, o2, none⟩) n2 c2, pp.drop (rdU pp).2.1⟩ : En)]).map En.res ++ F)) := by
    intro w o2 n2 c2 v1 R1 r1 r3 r4 hB hL
    have hL := hL.tl
    have hsx : Sl w (.slice (some ⟨ug, o2, none⟩) n2 c2) (bv (pp.drop (rdU pp).2.1)) := by
      have := (show Sl w (.slice (some ⟨ug, 0, none⟩) pp.length uc) (bv pp) from hL.row (i := 0) rfl).win (lo := (rdU pp).2.1) (n := pp.length - (rdU pp).2.1) (o' := o2) (n' := n2) (c' := c2) (by omega) (fun h => by have := r1 (by omega); omega) (by omega) (by omega)
      rw [Go.Proofs.YtjafamiaahabgaaGreatDoor.win, List.take_of_length_le (by rw [List.length_drop]; exact Nat.le_refl _)] at this
      exact this
    have hlt := Res.lt (hL.hold _ (.head _)) ug (by simp [Res.blocks, Value.ownBlock, rowB])
    have hL := (hL.says (R' := .ro (.slice (some ⟨ug, o2, none⟩) n2 c2) (bv (pp.drop (rdU pp).2.1))) ⟨hsx, fun b hb => by injection hb with hb; subst hb; exact hlt⟩ rfl).perm (entry_in2 _ _ _ _ _ _)
    refine ⟨⟨by rw [hlen2]; omega, fu, by rw [hlen2]; omega, ?_⟩, hB, ?_⟩
    · rw [hlen2, hrd, rdW, if_pos ⟨by intro h0; rw [h0] at hdl; simp at hdl; omega, hhd⟩, ← hbd, List.drop_drop, hbd, ← hhl.1, hxd]
      simp [Nat.add_assoc]
    · rw [List.map_append, List.map_append, List.map_singleton, List.map_singleton, List.length_append, List.length_singleton]
      exact hL
  refine V.tree ttOk (fun _ => True) (.q 0 (.q 2 (.q 3 (.q 4 (.alt 1 (.alt 5 (.alt 6 (.q 7 (.alt 8 .nil .stop)) .stop) .stop) (.alt 5 (.alt 1 (.alt 6 (.q 7 (.alt 8 .nil .stop)) .stop) .stop) .stop)))))) mixed (by decide +kernel) trivial ?_
  replace hL := hL.drew
  conv => whnf
  repeat' (first | (refine RunH ?_; intro w hL hB; try clear w) | (refine Br.dec (fun hbr => ?_) (fun hbr => ?_) <;> conv => whnf) | (refine Br.mk (fun hbr => ?_) (fun hbr => ?_) <;> conv => whnf) | (refine Both.mk ?_ ?_ <;> conv => whnf) | (intro o2 n2 c2 r1 r2 r3 r4; conv => whnf) | (refine And.intro trivial ?_; conv => whnf) | (refine Rv.buildS (len := 1) ttOk hL tl22 tl23 rfl rfl (by intro u hu; simp only [List.mem_singleton] at hu; subst hu; rfl) (by decide) (by decide) hB (fun bo1 w hL hB => ?_); conv => whnf) | (refine Rv.appendC ttOk hL tl22 tl23 rfl 2 rfl (hL.rowN (i := 0) rfl) (by intro u hu; rw [List.mem_singleton.1 hu]; rfl) (by simp only [maxLen]; omega) (by omega) hB (fun v9 w hL hB => ?_); dsimp only [List.set] at hL; obtain ⟨va9, vc9, rfl⟩ := RowC.shape (hL.at (i := 2) rfl); conv => whnf) | fail)
  all_goals
    have hfin := fin (by assumption) (by assumption) (by assumption) hB hL
    exact ⟨(es ++ [⟨_, pp.drop (rdU pp).2.1⟩], _), ⟨rfl, rfl, rfl, rfl, vint (by rw [hlen2]; push_cast; omega), trivial⟩, hfin, by dsimp only; rw [hlen2, ← hate]; omega⟩
end Go.Proofs.YtjafamiaahabgaaGreatDoor
namespace Go.Proofs.YtjafamiaahabgaaGreatDoor
open Go.RowKit Go.Lib
set_option linter.unusedVariables false
set_option linter.unusedSimpArgs false
set_option maxRecDepth 100000

def openG (pre : ByteArray) (S : List Fl) : Ost := ((names S).map fun x => (⟨x.toArray⟩ : ByteArray)).foldl (openStep pre) ⟨[], 1, S, true⟩
theorem fileD_len {S : List Fl} {nm : ByteArray} : (fileD S nm).length ≤ 1073741824 → ∀ {f n : Nat}, (rdW f n (fileD S nm)).1.length ≤ 1073741824 := fun h f n => by
  have h1 := rdW_len f n (fileD S nm)
  have h2 := lenW_ge n (rdW f n (fileD S nm)).1
  omega
theorem readG_af {pre : ByteArray} {o : Ost} {n : Nat} (hn : n ≤ 99999999) (h : (fileD o.S (wnm pre n)).length ≤ 1073741824) (ha : o.af ≤ 4000000000) : (readG pre o n).af ≤ 4000000000 ∧ (readG pre o n).G.length ≤ o.G.length + 1 := by
  unfold readG
  have h1 := @fileD_len _ _ h ((fileD o.S (wnm pre n)).length + 1) n
  split
  · exact ⟨ha, by dsimp only; omega⟩
  dsimp only
  split
  · exact ⟨by dsimp only; omega, by simp⟩
  split
  · exact ⟨ha, by dsimp only; omega⟩
  · exact ⟨by dsimp only; omega, by simp⟩
theorem DkS.nmLe {B : Nat} {w0 w : World} {b room : Nat} {S : List Fl} {F : List Res} (h : DkS B w0 w b room S F) : ∀ x ∈ names S, x.length ≤ 64 := by
  obtain ⟨mo, fs, rfl, hok, _⟩ := h.of
  intro x hx
  have := (names_perm (fs.map Fv.fl)).mem_iff.1 hx
  obtain ⟨f, hf, rfl⟩ := List.mem_map.1 this
  obtain ⟨g, hg, rfl⟩ := List.mem_map.1 hf
  have h1 := (hok.nm g hg).2
  have e : (nmB g.nm).length = g.nm.size := Array.length_toList
  show (nmB g.nm).length ≤ 64
  omega
theorem DkS.lenLe {B : Nat} {w0 w : World} {b room : Nat} {S : List Fl} {F : List Res} (h : DkS B w0 w b room S F) : S.length ≤ 256 := by
  obtain ⟨mo, fs, rfl, hok, _⟩ := h.of
  rw [List.length_map]; exact hok.len
set_option maxHeartbeats 4000000 in
theorem logOpen_fn {B d room : Nat} {pre : ByteArray} {S : List Fl} {F : List Res} (hp : 1 ≤ pre.size ∧ pre.size ≤ 55) {w0 w : World} (ht : TabW B w0) (hD : DkS B w0 w d room S F) :
    Fn Tryz.prog 8 #[.pointer (some ⟨d, 0, none⟩), .string pre] w fun r w' => ∃ l, r = .tuple #[.pointer (some ⟨l, 0, none⟩), .int .i64 0] ∧ LgS B w0 w' d l pre room (openG pre S).S (openG pre S).G (openG pre S).af F := by
  have hnl := hD.nmLe
  have hsl := hD.lenLe
  obtain ⟨dL, hL, hB, close⟩ := hD.open
  clear hD
  refine Fn.mk Tryz.func8 rfl (by kernel_rfl) Tryz.ntmps8 rfl (by rw [Tryz.results8]) ?_
  repeat (first | (refine RunH ?_; intro w hL hB; try clear w) | (refine Both.mk ?_ ?_ <;> conv => whnf) | fail)
  (refine Nw.sep hL hB (fun l w hL hB hl => ?_); conv => whnf)
  repeat (first | (refine RunH ?_; intro w hL hB; try clear w) | (refine Both.mk ?_ ?_ <;> conv => whnf) | fail)
  refine (list_fn (close (F' := .blk l [.pointer (some ⟨d, 0, none⟩), .string pre, .slice none 0 0, .int .i64 1] 65 :: F) hL hB)).mono fun r w hD => ?_
  clear hL hB close
  obtain ⟨na, nc, rfl⟩ : ∃ a c, r = .slice a S.length c := by
    obtain ⟨dL, hL, hB, close⟩ := hD.open
    exact (show SlN w 1 r S.length _ from hL.rowN (i := 0) rfl).shape
  obtain ⟨o, ho⟩ : ∃ o : Nat → Ost, o = fun i => (((names S).map fun x => (⟨x.toArray⟩ : ByteArray)).take i).foldl (openStep pre) ⟨[], 1, S, true⟩ := ⟨_, rfl⟩
  have hnlen : (names S).length = S.length := names_len S
  have ho0 : o 0 = ⟨[], 1, S, true⟩ := by rw [ho]; simp
  have hoE : o S.length = openG pre S := by rw [ho, openG]; dsimp only; rw [List.take_of_length_le (by simp [hnlen])]
  have hoS : ∀ i (h : i < (names S).length), o (i + 1) = openStep pre (o i) ⟨((names S)[i]).toArray⟩ := fun i h => by
    rw [ho]; dsimp only
    rw [List.take_succ_eq_append_getElem (by simpa using h), List.foldl_append]
    simp
  have hG : LgS B w0 w d l pre room (o 0).S (o 0).G (o 0).af (.row 9 1 (.slice na S.length nc) S.length ((names S).map encStr) :: F) := by
    rw [ho0]
    exact ⟨.no, [], rfl, rfl, hD.perm (List.Perm.swap ..)⟩
  clear hD
  conv => whnf
  repeat (first | (refine RunH ?_; intro w hL hB; try clear w) | (refine Both.mk ?_ ?_ <;> conv => whnf) | fail)
  refine V.loop (α := Nat) (fun i => [(0, .pointer (some ⟨d, 0, none⟩)), (6, .pointer (some ⟨l, 0, none⟩)), (7, .bool (o i).good), (29, .slice na S.length nc), (30, .int .i64 (S.length : Int)), (31, .int .i64 (i : Int))])
    (fun i w' => i ≤ S.length ∧ (o i).G.length ≤ i ∧ (o i).af ≤ 4000000000 ∧ LgS B w0 w' d l pre room (o i).S (o i).G (o i).af (.row 9 1 (.slice na S.length nc) S.length ((names S).map encStr) :: F))
    (fun i => S.length - i) 0 ⟨rfl, rfl, by rw [ho0]; rfl, rfl, rfl, rfl, trivial⟩ ⟨Nat.zero_le _, by rw [ho0]; exact Nat.zero_le _, by rw [ho0]; exact (show (1 : Nat) ≤ 4000000000 from by decide), hG⟩ ?_
  clear hG
  intro i w ⟨hi, hgl, haf, hG⟩
  dsimp only
  by_cases hlt : i < S.length
  · have hin : i < (names S).length := by omega
    have hst := hoS i hin
    have hxl := hnl _ (List.getElem_mem hin)
    have hge : ((names S).map encStr)[i]? = some (.string ⟨((names S)[i]).toArray⟩) := by
      rw [List.getElem?_map, List.getElem?_eq_getElem hin]; rfl
    generalize hnm : (⟨((names S)[i]).toArray⟩ : ByteArray) = nm at *
    have hnsz : nm.size ≤ 64 := by rw [← hnm]; exact hxl
    generalize o i = oi at *
    obtain ⟨oG, oaf, oS, og⟩ := oi
    dsimp only at hgl haf hG hst ⊢
    obtain ⟨n, sg, hsg, hok, hD⟩ := hG.of
    replace hD := hD.perm List.perm_middle
    obtain ⟨dL, hL, hB, close⟩ := hD.open
    clear hD
    have back : ∀ {w' : World} {S' : List Fl}, DkS B w0 w' d room S' (.row 9 1 (.slice na S.length nc) S.length ((names S).map encStr) :: (logR l d pre n sg oaf ++ F)) → LgS B w0 w' d l pre room S' oG oaf (.row 9 1 (.slice na S.length nc) S.length ((names S).map encStr) :: F) := fun h => ⟨n, sg, hsg, hok, h.perm List.perm_middle.symm⟩
    obtain ⟨g, gO, rfl, hrow⟩ := (show Sl w (.slice na S.length nc) ((names S).map encStr) from hL.row (i := 0) rfl).addr (by omega)
    repeat (first | (refine RunH ?_; intro w hL hB; try clear w) | (refine Both.mk ?_ ?_ <;> conv => whnf) | fail)
    intro o1 ho1
    conv => whnf
    refine Ld.row1 ttOk hrow rfl rfl hge (by omega) ?_
    conv => whnf
    repeat (first | (refine RunH ?_; intro w hL hB; try clear w) | (refine Both.mk ?_ ?_ <;> conv => whnf) | fail)
    refine (number_fn nm (by omega) (by omega) w (hL.hold (.blk l (logC d pre n sg oaf) 65) (.tail _ (.head _)))).mono fun r w ⟨hr, hw⟩ => ?_
    replace hL := hL.call hB (Turns.of_below hw)
    replace hB := Nat.le_trans hB hw.size
    cases hnu : numG pre nm with
    | none =>
      rw [hnu] at hr
      subst hr
      have e : openStep pre ⟨oG, oaf, oS, og⟩ nm = ⟨oG, oaf, oS, og⟩ := by rw [openStep, hnu]
      rw [e] at hst
      conv => whnf
      repeat (first | (refine RunH ?_; intro w hL hB; try clear w) | (refine Both.mk ?_ ?_ <;> conv => whnf) | fail)
      exact ⟨i + 1, ⟨rfl, rfl, by rw [hst]; rfl, rfl, rfl, vint (by push_cast; omega), trivial⟩, ⟨by omega, by rw [hst]; dsimp only; omega, by rw [hst]; exact haf, by rw [hst]; exact back (close (F' := _ :: (logR l d pre n sg oaf ++ F)) hL hB)⟩, (by first | omega | (dsimp only; omega))⟩
    | some first =>
      rw [hnu] at hr
      subst hr
      have hfl := numG_le hnu
      cases og with
      | false =>
        have e : openStep pre ⟨oG, oaf, oS, false⟩ nm = ⟨oG, oaf, delS oS nm, false⟩ := by rw [openStep, hnu]; rfl
        rw [e] at hst
        conv => whnf
        repeat (first | (refine RunH ?_; intro w hL hB; try clear w) | (refine Both.mk ?_ ?_ <;> conv => whnf) | fail)
        refine (remove_fn nm (by omega) (close (F' := _ :: (logR l d pre n sg oaf ++ F)) hL hB)).mono fun r w ⟨hr, hD⟩ => ?_
        subst hr
        conv => whnf
        repeat (first | (refine RunH ?_; intro w hL hB; try clear w) | (refine Both.mk ?_ ?_ <;> conv => whnf) | fail)
        exact ⟨i + 1, ⟨rfl, rfl, by rw [hst]; rfl, rfl, rfl, vint (by push_cast; omega), trivial⟩, ⟨by omega, by rw [hst]; dsimp only; omega, by rw [hst]; exact haf, by rw [hst]; exact back hD⟩, (by first | omega | (dsimp only; omega))⟩
      | true =>
        have e : openStep pre ⟨oG, oaf, oS, true⟩ nm = readG pre ⟨oG, oaf, oS, true⟩ first := by rw [openStep, hnu]; rfl
        rw [e] at hst
        have hG2 := back (close (F' := _ :: (logR l d pre n sg oaf ++ F)) hL hB)
        have hbd := readG_af (pre := pre) (o := ⟨oG, oaf, oS, true⟩) hfl ((close (F' := _ :: (logR l d pre n sg oaf ++ F)) hL hB).bigD (wnm pre first)) haf
        dsimp only at hbd
        conv => whnf
        repeat (first | (refine RunH ?_; intro w hL hB; try clear w) | (refine Both.mk ?_ ?_ <;> conv => whnf) | fail)
        refine (logRead_fn first hfl hp ht (by omega) haf hG2).mono fun r w ⟨hr, hG⟩ => ?_
        subst hr
        conv => whnf
        repeat (first | (refine RunH ?_; intro w hL hB; try clear w) | (refine Both.mk ?_ ?_ <;> conv => whnf) | fail)
        exact ⟨i + 1, ⟨rfl, rfl, by rw [hst]; rfl, rfl, rfl, vint (by push_cast; omega), trivial⟩, ⟨by omega, by rw [hst]; omega, by rw [hst]; omega, by rw [hst]; exact hG⟩, (by first | omega | (dsimp only; omega))⟩
  · obtain rfl : i = S.length := by omega
    rw [hoE] at hG
    repeat (first | (refine RunH ?_; intro w hL hB; try clear w) | (refine Both.mk ?_ ?_ <;> conv => whnf) | fail)
    refine ⟨l, rfl, ?_⟩
    obtain ⟨n, sg, hsg, hok, hD⟩ := hG.of
    exact ⟨n, sg, hsg, hok, (hD.perm List.perm_middle).tl⟩
end Go.Proofs.YtjafamiaahabgaaGreatDoor
