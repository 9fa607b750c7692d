/- same of a law's package. Small words of the laws that play scripts on disks: roomy, stands, spoil. Nothing is claimed here. -/
import Derived.Test.YtjafamiaahabgaaGreatDoorK03
import Derived.Test.YtjafamiaahabgaaGreatDoorK25
namespace Go.Proofs.YtjafamiaahabgaaGreatDoor
open Go.RowKit
set_option linter.unusedVariables false
set_option linter.unusedSimpArgs false
set_option maxRecDepth 100000

theorem take_succ_eq {α : Type} [BEq α] {l m : List α} {k : Nat} (h : l.take k = m.take k) (hl : k < l.length) (hm : k < m.length) (he : l[k] = m[k]) : l.take (k + 1) = m.take (k + 1) := by
  rw [List.take_succ_eq_append_getElem hl, List.take_succ_eq_append_getElem hm, h, he]
theorem u8_ne {a b : UInt8} (h : a ≠ b) : ¬ ((a.toNat : Int) = b.toNat) := fun h1 => h (UInt8.toNat_inj.1 (by exact_mod_cast h1))

theorem same_fn (v1 v2 : Value) (l1 l2 : List UInt8) (w : World) (h1 : Sl w v1 (bv l1)) (h2 : Sl w v2 (bv l2)) :
    Fn Tryz.prog 14 #[v1, v2] w fun r w' => r = .bool (decide (l1 = l2)) ∧ Below w.heap.size w w' := by
  have hle1 := h1.le
  have hle2 := h2.le
  obtain ⟨a, cp, rfl⟩ := h1.shape
  obtain ⟨a2, cp2, rfl⟩ := h2.shape
  simp only [bv_length] at *
  refine Fn.mk Tryz.func14 rfl (by kernel_rfl) Tryz.ntmps14 rfl (by rw [Tryz.results14]) ?_
  refine RunR ?_
  refine Br.dec (fun h => ?_) (fun h => ?_)
  · have hlen : l1.length = l2.length := by omega
    refine RunR ?_
    refine V.loop (α := Nat) (fun k => [(0, .slice a l1.length cp), (1, .slice a2 l2.length cp2), (5, .int .i64 k)])
      (fun k w' => k ≤ l1.length ∧ l1.take k = l2.take k ∧ Below w.heap.size w w')
      (fun k => l1.length - k) 0 ⟨rfl, rfl, rfl, trivial⟩ ⟨by omega, rfl, Below.refl _ _⟩ ?_
    rintro k w2 ⟨hk, he, hW⟩
    refine RunR ?_
    refine Br.dec (fun h => ?_) (fun h => ?_)
    · have hkl : k < l1.length := by omega
      have hkm : k < l2.length := by omega
      obtain ⟨b', o, rfl, hr⟩ := (h1.below hW).addr (by omega)
      obtain ⟨b2, o2, rfl, hr2⟩ := (h2.below hW).addr (by omega)
      refine RunR ?_
      refine V.quiet ttOk (fun x => x = w2.drew) mixed (by kernel_rfl) rfl ?_
      conv => whnf
      refine RunR ?_
      intro o' ho'
      conv => whnf
      refine Lq.one ttOk tl5 rfl (Sl.lq hr (bv_get (List.getElem?_eq_getElem hkl)) (by omega)) ?_
      conv => whnf
      refine RunR ?_
      intro o4 ho4
      conv => whnf
      refine Lq.one ttOk tl5 rfl (Sl.lq hr2 (bv_get (List.getElem?_eq_getElem hkm)) (by omega)) ?_
      conv => whnf
      refine RunR ?_
      rintro w' rfl
      conv => whnf
      refine RunR ?_
      by_cases hx : l1[k] = l2[k]
      · rw [hx]
        refine RunR ?_
        exact ⟨k + 1, ⟨rfl, rfl, rfl, trivial⟩, ⟨by omega, take_succ_eq he hkl hkm hx, hW.drew⟩, (by first | omega | (dsimp only; omega))⟩
      · have hx' := u8_ne hx
        refine RunR ?_
        refine ⟨?_, hW.drew⟩
        rw [decide_eq_false]
        rintro rfl
        exact hx rfl
    · obtain rfl : k = l1.length := by omega
      refine RunR ?_
      refine ⟨?_, hW⟩
      rw [List.take_length, hlen, List.take_length] at he
      rw [decide_eq_true he]
  · refine RunR ?_
    refine ⟨?_, Below.refl _ _⟩
    rw [decide_eq_false]
    rintro rfl
    exact h rfl
end Go.Proofs.YtjafamiaahabgaaGreatDoor
namespace Go.Proofs.YtjafamiaahabgaaGreatDoor
open Go.RowKit
set_option linter.unusedVariables false
set_option linter.unusedSimpArgs false
set_option maxRecDepth 100000

/-- a row shortened -/
theorem RowC.short {w : World} {e : TypeId} {g n c k : Nat} {xs : List Value} (h : RowC w e (.slice (some ⟨g, 0, none⟩) n c) n xs) (hk : k ≤ n) : RowC w e (.slice (some ⟨g, 0, none⟩) k c) k (xs.take k) := by
  obtain ⟨hl, ho⟩ := h
  rcases ho with ⟨h, _⟩ | ⟨g', cap, cur, h, h1, h2, h3, h4, h5⟩
  · cases h
  · injection h with q1 q2 q3
    injection q1 with q1
    injection q1 with q1
    subst q1; subst q3
    exact ⟨by rw [List.length_take]; omega, .inr ⟨g, c, cur, rfl, h1, by omega, h3, h4, by rw [← h5, List.take_take, Nat.min_eq_left hk]⟩⟩
set_option maxHeartbeats 2000000 in
theorem roomy_fn {B : Nat} {w0 w : World} {F : List Res} (v : Value) (l : List UInt8) (hlen : l.length ≤ 100000) (hs : Sl w v (bv l)) (hL : Sep Tryz.prog B w0 w F) (hB : B ≤ w.heap.size) :
    Fn Tryz.prog 47 #[v] w fun r w' => ∃ g c, r = .slice (some ⟨g, 0, none⟩) (l.length + 1) c ∧ l.length + 2 ≤ c ∧ Sep Tryz.prog B w0 w' (.rc 5 r (l ++ [171]).length (bv (l ++ [171])) :: F) ∧ B ≤ w'.heap.size ∧ Below w.heap.size w w' := by
  have hS := Sep.start Tryz.prog w
  obtain ⟨va, vc, rfl⟩ := hs.shape
  rw [bv_length] at *
  have hw0 := w
  refine Fn.mk Tryz.func47 rfl (by kernel_rfl) Tryz.ntmps47 rfl (by rw [Tryz.results47]) ?_
  have hL0 := hL
  have hB0 := hB
  clear hL hB
  have hL := hS
  have hB := Nat.le_refl w.heap.size
  repeat (first | (refine RunH ?_; intro w hL hB; try clear w) | (refine Both.mk ?_ ?_ <;> conv => whnf) | fail)
  refine Rv.buildS (len := 0) (vs := []) ttOk hL tl23 tl5 rfl rfl (by intro u hu; cases hu) (by decide) (by decide) hB fun bo w hL hB => ?_
  conv => whnf
  repeat (first | (refine RunH ?_; intro w hL hB; try clear w) | (refine Both.mk ?_ ?_ <;> conv => whnf) | fail)
  refine Rv.appendS (m := l.length) (news := bv l) ttOk hL tl23 tl5 rfl (by decide) 0 rfl (by have := (hs.below hL.below).toN; rw [bv_length] at this; exact this) (bv_one _) (by simp only [maxLen]; omega) (by omega) hB fun v1 w hL hB => ?_
  dsimp only [List.set] at hL
  obtain ⟨xa, xc, rfl⟩ := (show SlN w 1 v1 _ _ from hL.rowN (i := 0) rfl).shape
  conv => whnf
  repeat (first | (refine RunH ?_; intro w hL hB; try clear w) | (refine Both.mk ?_ ?_ <;> conv => whnf) | fail)
  refine Rv.buildS (len := 1) (vs := bv [171]) ttOk hL tl23 tl5 rfl rfl bv_len1 (by decide) (by decide) hB fun bo2 w hL hB => ?_
  conv => whnf
  repeat (first | (refine RunH ?_; intro w hL hB; try clear w) | (refine Both.mk ?_ ?_ <;> conv => whnf) | fail)
  refine Rv.appendS (m := 1) (news := bv [171]) ttOk hL tl23 tl5 rfl (by decide) 1 rfl (hL.rowN (i := 0) rfl) (bv_one _) (by simp only [maxLen]; omega) (by omega) hB fun v2 w hL hB => ?_
  dsimp only [List.set] at hL
  obtain ⟨ya, yc, rfl⟩ := (show SlN w 1 v2 _ _ from hL.rowN (i := 1) rfl).shape
  conv => whnf
  repeat (first | (refine RunH ?_; intro w hL hB; try clear w) | (refine Both.mk ?_ ?_ <;> conv => whnf) | fail)
  refine Rv.buildS (len := 1) (vs := bv [171]) ttOk hL tl23 tl5 rfl rfl bv_len1 (by decide) (by decide) hB fun bo3 w hL hB => ?_
  conv => whnf
  repeat (first | (refine RunH ?_; intro w hL hB; try clear w) | (refine Both.mk ?_ ?_ <;> conv => whnf) | fail)
  refine Rv.appendS (m := 1) (news := bv [171]) ttOk hL tl23 tl5 rfl (by decide) 2 rfl (hL.rowN (i := 0) rfl) (bv_one _) (by simp only [maxLen]; omega) (by omega) hB fun v3 w hL hB => ?_
  dsimp only [List.set] at hL
  obtain ⟨g, c, rfl, hgc⟩ := own_shape0 (hL.ownR (i := 2) rfl) (by omega)
  conv => whnf
  repeat (first | (refine RunH ?_; intro w hL hB; try clear w) | (refine Both.mk ?_ ?_ <;> conv => whnf) | fail)
  intro n1 c1 q1 q2
  obtain rfl : n1 = l.length + 1 := by omega
  obtain rfl : c = c1 := by omega
  conv => whnf
  repeat (first | (refine RunH ?_; intro w hL hB; try clear w) | (refine Both.mk ?_ ?_ <;> conv => whnf) | fail)
  have hbel := hL.below
  have hown := hL.ownR (i := 2) rfl
  have e0 : (0 : Nat) + l.length + 1 + 1 = l.length + 2 := by omega
  rw [e0] at hown
  have h1 := hL0.addRow hB0 hbel hown
  have e1 : (List.flatMap cellsL [] ++ bv l ++ bv [171] ++ bv [171]).take (l.length + 1) = bv (l ++ [171]) := by
    have : List.flatMap cellsL [] ++ bv l ++ bv [171] ++ bv [171] = bv (l ++ [171]) ++ bv [171] := by simp [bv_append]
    rw [this, List.take_left' (by simp)]
  have h2 := h1.says (R' := .rc 5 (.slice (some ⟨g, 0, none⟩) (l.length + 1) c) (l.length + 1) (bv (l ++ [171]))) (by
    have := (RowC.of_own hown).short (k := l.length + 1) (by omega)
    rw [e1] at this
    exact this) rfl
  refine ⟨g, c, rfl, by omega, ?_, Nat.le_trans hB0 hbel.size, hbel⟩
  rw [show (l ++ [(171 : UInt8)]).length = l.length + 1 by simp]
  exact h2
theorem stands_fn (v1 v2 : Value) (l m : List UInt8) (w0 : World) (h1 : Sl w0 v1 (bv (l ++ [171]))) (h2 : Sl w0 v2 (bv l)) (hl : l.length ≤ 100000) :
    Fn Tryz.prog 49 #[v1, v2] w0 fun r w' => r = .bool true ∧ Below w0.heap.size w0 w' := by
  have hL := Sep.start Tryz.prog w0
  have hB := Nat.le_refl w0.heap.size
  obtain ⟨a1, c1, rfl⟩ := h1.shape
  obtain ⟨a2, c2, rfl⟩ := h2.shape
  obtain ⟨q1, q2, q3⟩ := h1.len
  simp only [bv_length, List.length_append, List.length_singleton] at *
  obtain ⟨bb, o, rfl, hrow⟩ := h1.addr (by omega)
  refine Fn.mk Tryz.func49 rfl (by kernel_rfl) Tryz.ntmps49 rfl (by rw [Tryz.results49]) ?_
  repeat (first | (refine RunH ?_; intro w hL hB; try clear w) | (refine Both.mk ?_ ?_ <;> conv => whnf) | fail)
  intro n3 c3 q4 q5
  obtain rfl : n3 = l.length := by omega
  conv => whnf
  repeat (first | (refine RunH ?_; intro w hL hB; try clear w) | (refine Both.mk ?_ ?_ <;> conv => whnf) | fail)
  refine (same_fn _ _ l l _ (by
    have := h1.take (k := l.length) (by simp) (c' := c3) (by omega) (by omega)
    rw [← bv_take, List.take_left' rfl] at this; exact this) h2).mono fun r w ⟨hr, hw⟩ => ?_
  subst hr
  rw [decide_eq_true rfl]
  replace hL := hL.call hB (Turns.of_below hw)
  replace hB := Nat.le_trans hB hw.size
  conv => whnf
  repeat (first | (refine RunH ?_; intro w hL hB; try clear w) | (refine Both.mk ?_ ?_ <;> conv => whnf) | fail)
  intro o4 ho4
  conv => whnf
  repeat (first | (refine RunH ?_; intro w hL hB; try clear w) | (refine Both.mk ?_ ?_ <;> conv => whnf) | fail)
  refine Ld.row1 ttOk (k := l.length) (h1.below hw).toN.rowOf tl5 rfl (v := u8 171) (show (bv (l ++ [171]))[l.length]? = some (u8 171) from bv_get (by simp)) (by omega) ?_
  conv => whnf
  repeat (first | (refine RunH ?_; intro w hL hB; try clear w) | (refine Both.mk ?_ ?_ <;> conv => whnf) | fail)
  exact ⟨rfl, hL.below⟩
set_option maxHeartbeats 2000000 in
theorem spoil_fn {B : Nat} {w0 w : World} {F : List Res} (v : Value) (l : List UInt8) (hlen : l.length ≤ 2147483648) (hL : Sep Tryz.prog B w0 w (.rc 5 v l.length (bv l) :: F)) (hB : B ≤ w.heap.size) :
    Fn Tryz.prog 50 #[v] w fun r w' => Sep Tryz.prog B w0 w' F ∧ B ≤ w'.heap.size := by
  obtain ⟨va, vc, rfl⟩ := RowC.shape (show RowC w 5 v l.length (bv l) from hL.at (i := 0) rfl)
  refine Fn.mk Tryz.func50 rfl (by kernel_rfl) Tryz.ntmps50 rfl (by rw [Tryz.results50]) ?_
  repeat (first | (refine RunH ?_; intro w hL hB; try clear w) | (refine Both.mk ?_ ?_ <;> conv => whnf) | fail)
  refine Rv.buildS (len := 1) (vs := bv [99]) ttOk hL tl23 tl5 rfl rfl bv_len1 (by decide) (by decide) hB fun bo w hL hB => ?_
  conv => whnf
  repeat (first | (refine RunH ?_; intro w hL hB; try clear w) | (refine Both.mk ?_ ?_ <;> conv => whnf) | fail)
  refine Rv.appendC (m := 1) (news := bv [99]) ttOk hL tl23 tl5 rfl 1 rfl (hL.rowN (i := 0) rfl) (bv_one _) (by simp only [maxLen]; omega) (by omega) hB fun v1 w hL hB => ?_
  dsimp only [List.set] at hL
  obtain ⟨xa, xc, rfl⟩ := RowC.shape (show RowC w 5 v1 (l.length + 1) _ from hL.at (i := 1) rfl)
  replace hL := hL.tl
  rw [← bv_append] at hL
  conv => whnf
  repeat (first | (refine RunH ?_; intro w hL hB; try clear w) | (refine Both.mk ?_ ?_ <;> conv => whnf) | fail)
  refine V.loop (α := Nat × List UInt8) (fun z => [(2, .slice xa (l.length + 1) xc), (3, .int .i64 (z.1 : Int))])
    (fun z w' => z.1 ≤ l.length + 1 ∧ z.2.length = l.length + 1 ∧ Sep Tryz.prog B w0 w' (.rc 5 (.slice xa (l.length + 1) xc) (l.length + 1) (bv z.2) :: F) ∧ B ≤ w'.heap.size)
    (fun z => l.length + 1 - z.1) (0, l ++ [99]) ⟨rfl, rfl, trivial⟩ ⟨by omega, by simp, hL, hB⟩ ?_
  clear hL hB
  rintro ⟨k, m⟩ w ⟨hk, hm, hL, hB⟩
  dsimp only at *
  by_cases hkl : k < l.length + 1
  case neg =>
    repeat (first | (refine RunH ?_; intro w hL hB; try clear w) | (refine Both.mk ?_ ?_ <;> conv => whnf) | fail)
    exact hB
  obtain ⟨g, rfl⟩ : ∃ g, xa = some ⟨g, 0, none⟩ := by
    rcases (show RowC w 5 _ (l.length + 1) _ from hL.at (i := 0) rfl).of with ⟨hz, h0⟩ | ⟨g, cap, cur, hz, _⟩
    · omega
    · injection hz with z1; exact ⟨g, z1⟩
  repeat (first | (refine RunH ?_; intro w hL hB; try clear w) | (refine Both.mk ?_ ?_ <;> conv => whnf) | fail)
  intro o1 ho1
  conv => whnf
  repeat (first | (refine RunH ?_; intro w hL hB; try clear w) | (refine Both.mk ?_ ?_ <;> conv => whnf) | fail)
  refine St.rowC ttOk hL (v := u8 98) tl5 rfl 0 rfl k (by omega) (by omega) rfl rfl hB fun w hL hB => ?_
  dsimp only [List.set] at hL
  conv => whnf
  repeat (first | (refine RunH ?_; intro w hL hB; try clear w) | (refine Both.mk ?_ ?_ <;> conv => whnf) | fail)
  exact ⟨(k + 1, m.set k 98), ⟨rfl, vint (by push_cast; omega), trivial⟩, ⟨by omega, by simp [hm], by dsimp only; rw [← bv_set]; exact hL, hB⟩, (by first | omega | (dsimp only; omega))⟩
end Go.Proofs.YtjafamiaahabgaaGreatDoor
