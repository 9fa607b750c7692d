/- KeepFull. Nothing is claimed here. -/
import Derived.Test.YtjgiailgidbkmaaJk
namespace Go.Proofs.Ytjgiailgidbkmaa
open Go.RowKit
open Go.Maps (Keyed)
set_option linter.unusedVariables false
set_option linter.unusedSimpArgs false
set_option maxRecDepth 100000

def nmf : ByteArray := ⟨#[102]⟩
set_option maxHeartbeats 8000000 in
theorem keepFull_fn (room : Int) (v1 : Value) (l1 : List UInt8) (v2 : Value) (l2 : List UInt8) (w0 : World) (hrw : (Lit.int .i64 room).wf = true) (h1 : Sl w0 v1 (bv l1)) (h2 : Sl w0 v2 (bv l2)) (hx1 : l1.length ≤ 140737488355328) (hx2 : l2.length ≤ 140737488355328) :
    Fn Try.prog 3 #[.int .i64 room, v1, v2] w0 fun r w' => r = .bool true ∧ Below w0.heap.size w0 w' := by
  have hrr := i64_wf hrw
  have hL := Sep.start Try.prog w0
  have hB := Nat.le_refl w0.heap.size
  obtain ⟨a1, c1, rfl⟩ := h1.shape
  obtain ⟨a2, c2, rfl⟩ := h2.shape
  simp only [bv_length] at *
  refine Fn.mk Try.func3 rfl (by kernel_rfl) Try.ntmps3 rfl (by rw [Try.results3]) ?_
  by_cases hr0 : room < 0
  · repeat (first | (refine RunH ?_; intro w hL hB; try clear w) | (refine Both.mk ?_ ?_ <;> conv => whnf) | fail)
    exact ⟨rfl, hL.below⟩
  by_cases hr1 : 4000 < room
  · repeat (first | (refine RunH ?_; intro w hL hB; try clear w) | (refine Both.mk ?_ ?_ <;> conv => whnf) | fail)
    exact ⟨rfl, hL.below⟩
  by_cases hbig : 8000 < l1.length + l2.length
  · repeat (first | (refine RunH ?_; intro w hL hB; try clear w) | (refine Both.mk ?_ ?_ <;> conv => whnf) | fail)
    exact ⟨rfl, hL.below⟩
  have p1 : ∀ {L : List Res} (w' : World), Sep Try.prog w0.heap.size w0 w' L → Sl w' (.slice a1 l1.length c1) (bv l1) := fun w' h => h.sl h1 rfl
  have p2 : ∀ {L : List Res} (w' : World), Sep Try.prog w0.heap.size w0 w' L → Sl w' (.slice a2 l2.length c2) (bv l2) := fun w' h => h.sl h2 rfl
  have hok : 1 ≤ nmf.size ∧ nmf.size ≤ 63 := by decide
  have q1 : nmf.size ≤ 1000000 := by decide
  repeat (first | (refine RunH ?_; intro w hL hB; try clear w) | (refine Both.mk ?_ ?_ <;> conv => whnf) | fail)
  refine (new_fn room hL hB).mono fun r w hr => ?_
  obtain ⟨b, rfl, hD⟩ := hr.1 (by omega)
  clear hr
  generalize hR : room.toNat = R at *
  obtain ⟨dL, hL, hB, close⟩ := hD.open
  clear hD
  conv => whnf
  repeat (first | (refine RunH ?_; intro w hL hB; try clear w) | (refine Both.mk ?_ ?_ <;> conv => whnf) | fail)
  refine (save_fn nmf q1 _ l1 (by omega) p1 (close (F' := []) hL hB)).mono fun r w ⟨hr, hD⟩ => ?_
  subst hr
  clear close hL hB
  obtain ⟨ea, S1, hea, hS1, hone, hcase⟩ : ∃ ea S1, saveE R [] nmf l1.length = ea ∧ saveS R [] nmf l1 = S1 ∧ OneF S1 nmf ∧ ((ea = 0 ∧ S1 = [⟨nmf, encF l1, (encF l1).length⟩]) ∨ (ea = 6 ∧ S1 = [])) := by
    obtain ⟨k1, k2⟩ := save_one (room := R) (S := []) (nm := nmf) (xs := l1) (.inl rfl) hok
    by_cases hc : totS [] + (8 + l1.length) ≤ R
    · exact ⟨_, _, (k1 hc).1, (k1 hc).2, .inr ⟨_, _, rfl⟩, .inl ⟨rfl, rfl⟩⟩
    · exact ⟨_, _, (k2 (by omega)).1, (k2 (by omega)).2, .inl rfl, .inr ⟨rfl, rfl⟩⟩
  rw [hS1] at hD
  rw [hea]
  clear hea hS1
  obtain ⟨dL, hL, hB, close⟩ := hD.open
  clear hD
  conv => whnf
  repeat (first | (refine RunH ?_; intro w hL hB; try clear w) | (refine Both.mk ?_ ?_ <;> conv => whnf) | fail)
  refine (save_fn nmf q1 _ l2 (by omega) p2 (close (F' := []) hL hB)).mono fun r w ⟨hr, hD⟩ => ?_
  subst hr
  clear close hL hB
  obtain ⟨k1, k2⟩ := save_one (room := R) (nm := nmf) (xs := l2) hone hok
  by_cases hc : totS S1 + (8 + l2.length) ≤ R
  · obtain ⟨e1, e2⟩ := k1 hc
    rw [e2] at hD
    rw [e1]
    obtain ⟨dL, hL, hB, close⟩ := hD.open
    conv => whnf
    repeat (first | (refine RunH ?_; intro w hL hB; try clear w) | (refine Both.mk ?_ ?_ <;> conv => whnf) | fail)
    refine (load_fn nmf q1 (close (F' := []) hL hB)).mono fun r w hD => ?_
    clear close hL hB
    have e3 := load_one (nm := nmf) (xs := l2) (la := (encF l2).length) (by omega)
    rw [loadPost, if_pos e3.1, e3.2] at hD
    obtain ⟨u, rfl, hD⟩ := hD
    obtain ⟨dL, hL, hB, close⟩ := hD.open
    obtain ⟨ua, uc, rfl⟩ := (show SlN w 1 u _ _ from hL.rowN (i := 0) rfl).shape
    conv => whnf
    repeat (first | (refine RunH ?_; intro w hL hB; try clear w) | (refine Both.mk ?_ ?_ <;> conv => whnf) | fail)
    refine (same_fn _ _ _ l2 _ (hL.row (i := 0) rfl) (p2 _ hL)).mono fun r w ⟨hr, hw⟩ => ?_
    subst hr
    replace hL := hL.call hB (Turns.of_below hw)
    replace hB := Nat.le_trans hB hw.size
    rw [decide_eq_true rfl]
    conv => whnf
    repeat (first | (refine RunH ?_; intro w hL hB; try clear w) | (refine Both.mk ?_ ?_ <;> conv => whnf) | (refine (known_fn _).mono fun r w hr => ?_; obtain ⟨hr, hw⟩ := hr; subst hr; replace hL := hL.call hB (Turns.of_below hw); replace hB := Nat.le_trans hB hw.size; conv => whnf) | fail)
    exact ⟨rfl, hL.below⟩
  · obtain ⟨e1, e2⟩ := k2 (by omega)
    rw [e2] at hD
    rw [e1]
    obtain ⟨dL, hL, hB, close⟩ := hD.open
    rcases hcase with ⟨rfl, rfl⟩ | ⟨rfl, rfl⟩
    · conv => whnf
      repeat (first | (refine RunH ?_; intro w hL hB; try clear w) | (refine Both.mk ?_ ?_ <;> conv => whnf) | fail)
      refine (load_fn nmf q1 (close (F' := []) hL hB)).mono fun r w hD => ?_
      clear close hL hB
      have e3 := load_one (nm := nmf) (xs := l1) (la := (encF l1).length) (by omega)
      rw [loadPost, if_pos e3.1, e3.2] at hD
      obtain ⟨u, rfl, hD⟩ := hD
      obtain ⟨dL, hL, hB, close⟩ := hD.open
      obtain ⟨ua, uc, rfl⟩ := (show SlN w 1 u _ _ from hL.rowN (i := 0) rfl).shape
      conv => whnf
      repeat (first | (refine RunH ?_; intro w hL hB; try clear w) | (refine Both.mk ?_ ?_ <;> conv => whnf) | fail)
      refine (same_fn _ _ _ l1 _ (hL.row (i := 0) rfl) (p1 _ hL)).mono fun r w ⟨hr, hw⟩ => ?_
      subst hr
      replace hL := hL.call hB (Turns.of_below hw)
      replace hB := Nat.le_trans hB hw.size
      rw [decide_eq_true rfl]
      conv => whnf
      repeat (first | (refine RunH ?_; intro w hL hB; try clear w) | (refine Both.mk ?_ ?_ <;> conv => whnf) | (refine (known_fn _).mono fun r w hr => ?_; obtain ⟨hr, hw⟩ := hr; subst hr; replace hL := hL.call hB (Turns.of_below hw); replace hB := Nat.le_trans hB hw.size; conv => whnf) | fail)
      exact ⟨rfl, hL.below⟩
    · conv => whnf
      repeat (first | (refine RunH ?_; intro w hL hB; try clear w) | (refine Both.mk ?_ ?_ <;> conv => whnf) | fail)
      refine (load_fn nmf q1 (close (F' := []) hL hB)).mono fun r w hD => ?_
      clear close hL hB
      rw [loadPost, load_none, if_neg (by decide)] at hD
      obtain ⟨rfl, hD⟩ := hD
      obtain ⟨dL, hL, hB, close⟩ := hD.open
      conv => whnf
      repeat (first | (refine RunH ?_; intro w hL hB; try clear w) | (refine Both.mk ?_ ?_ <;> conv => whnf) | (refine (known_fn _).mono fun r w hr => ?_; obtain ⟨hr, hw⟩ := hr; subst hr; replace hL := hL.call hB (Turns.of_below hw); replace hB := Nat.le_trans hB hw.size; conv => whnf) | fail)
      exact ⟨rfl, hL.below⟩
end Go.Proofs.Ytjgiailgidbkmaa
