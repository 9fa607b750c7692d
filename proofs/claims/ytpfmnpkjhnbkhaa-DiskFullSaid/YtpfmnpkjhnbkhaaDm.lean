/- DiskFull. Nothing is claimed here. -/
import Derived.Test.YtpfmnpkjhnbkhaaDl
namespace Go.Proofs.Ytpfmnpkjhnbkhaa
open Go.RowKit
open Go.Maps (Keyed)
set_option linter.unusedVariables false
set_option linter.unusedSimpArgs false
set_option maxRecDepth 100000

def nmb : ByteArray := ⟨#[98]⟩
theorem Br.beq {a b : Bool} {A B : Prop} (h : a = b) (k : A) : Br (a == b) A B := Br.yes (by simp [h]) k
theorem full_first (room : Nat) (l : List UInt8) : (l.length ≤ room ∧ appE room [] nmA l.length = 0 ∧ appS room [] nmA l = [⟨nmA, l, 0⟩]) ∨ (room < l.length ∧ appE room [] nmA l.length = 6 ∧ appS room [] nmA l = []) := by
  by_cases h : l.length ≤ room
  · exact .inl ⟨h, app_new (by decide) h, appS_new (by decide) h⟩
  · have : appE room [] nmA l.length = 6 := by
      rw [appE, if_neg (by decide), if_pos]
      right; simp [totS]; omega
    exact .inr ⟨by omega, this, by rw [appS, this]; rfl⟩
theorem full_next {room : Nat} {S : List Fl} {n : Nat} (l : List UInt8) (hS : (S = [] ∧ n = 0) ∨ ∃ d, S = [⟨nmA, d, 0⟩] ∧ n = d.length) (hn : n ≤ room) : (l.length + n ≤ room ∧ appE room S nmb l.length = 0 ∧ (getS (appS room S nmb l) nmb).isSome = true) ∨ (room < l.length + n ∧ appE room S nmb l.length = 6 ∧ (getS (appS room S nmb l) nmb).isSome = false) := by
  have ht : totS S = n := by rcases hS with ⟨rfl, rfl⟩ | ⟨d, rfl, rfl⟩ <;> simp [totS]
  have hl : S.length < 256 := by rcases hS with ⟨rfl, rfl⟩ | ⟨d, rfl, rfl⟩ <;> simp
  by_cases h : l.length + n ≤ room
  · have e : appE room S nmb l.length = 0 := by
      rw [appE, if_neg (by decide), if_neg]
      rw [ht]; omega
    refine .inl ⟨h, e, ?_⟩
    rw [appS, if_pos e]
    rcases hS with ⟨rfl, rfl⟩ | ⟨d, rfl, rfl⟩
    · rfl
    · rfl
  · have e : appE room S nmb l.length = 6 := by
      rw [appE, if_neg (by decide), if_pos]
      rw [ht]; omega
    refine .inr ⟨by omega, e, ?_⟩
    rw [appS, e, if_neg (by decide)]
    rcases hS with ⟨rfl, rfl⟩ | ⟨d, rfl, rfl⟩
    · rfl
    · rfl
theorem DkS.tot_le {B : Nat} {w0 w : World} {b room : Nat} {S : List Fl} {F : List Res} (h : DkS B w0 w b room S F) : totS S ≤ room := by
  obtain ⟨⟨mo, fs, rfl, hok, _⟩, _⟩ := h
  rw [tot_fl]; exact hok.tot

set_option maxHeartbeats 4000000 in
theorem full_fn (room : Int) (v1 : Value) (l1 : List UInt8) (v2 : Value) (l2 : List UInt8) (w0 : World) (hrw : (Lit.int .i64 room).wf = true) (h1 : Sl w0 v1 (bv l1)) (h2 : Sl w0 v2 (bv l2)) (hx1 : l1.length ≤ 140737488355328) (hx2 : l2.length ≤ 140737488355328) :
    Fn Try.prog 5 #[.int .i64 room, v1, v2] w0 fun r w' => r = .bool true ∧ Below w0.heap.size w0 w' := by
  have hL := Sep.start Try.prog w0
  have hB := Nat.le_refl w0.heap.size
  obtain ⟨hr1, hr2⟩ := i64_wf hrw
  obtain ⟨a1, c1, rfl⟩ := h1.shape
  obtain ⟨a2, c2, rfl⟩ := h2.shape
  simp only [bv_length] at *
  refine Fn.mk Try.func5 rfl (by kernel_rfl) Try.ntmps5 rfl (by rw [Try.results5]) ?_
  by_cases hs1 : room < 0
  · repeat (first | (refine RunH ?_; intro w hL hB; try clear w) | (refine Both.mk ?_ ?_ <;> conv => whnf) | fail)
    exact ⟨rfl, hL.below⟩
  by_cases hs2 : 5000 < room
  · repeat (first | (refine RunH ?_; intro w hL hB; try clear w) | (refine Both.mk ?_ ?_ <;> conv => whnf) | fail)
    exact ⟨rfl, hL.below⟩
  by_cases hbig : 8000 < l1.length + l2.length
  · repeat (first | (refine RunH ?_; intro w hL hB; try clear w) | (refine Both.mk ?_ ?_ <;> conv => whnf) | fail)
    exact ⟨rfl, hL.below⟩
  have p1 : ∀ {L : List Res} (w' : World), Sep Try.prog w0.heap.size w0 w' L → Sl w' (.slice a1 l1.length c1) (bv l1) := fun w' h => h.sl h1 rfl
  have p2 : ∀ {L : List Res} (w' : World), Sep Try.prog w0.heap.size w0 w' L → Sl w' (.slice a2 l2.length c2) (bv l2) := fun w' h => h.sl h2 rfl
  repeat (first | (refine RunH ?_; intro w hL hB; try clear w) | (refine Both.mk ?_ ?_ <;> conv => whnf) | fail)
  refine (new_fn room hL hB).mono fun r w hr => ?_
  obtain ⟨b, rfl, hD⟩ := hr.1 (by omega)
  clear hr
  obtain ⟨R, rfl⟩ : ∃ R : Nat, room = R := ⟨room.toNat, by omega⟩
  rw [Int.toNat_natCast] at hD
  obtain ⟨dL, hL, hB, close⟩ := hD.open
  clear hD
  conv => whnf
  repeat (first | (refine RunH ?_; intro w hL hB; try clear w) | (refine Both.mk ?_ ?_ <;> conv => whnf) | fail)
  refine (append_fn nmA (by decide) _ l1 p1 (close (F' := []) hL hB)).mono fun r w ⟨hr, hD⟩ => ?_
  subst hr
  clear close hL hB
  rcases full_first R l1 with ⟨f1, f2, f3⟩ | ⟨f1, f2, f3⟩ <;> rw [f2] <;> rw [f3] at hD
  · obtain ⟨dL, hL, hB, close⟩ := hD.open
    conv => whnf
    repeat (first | (refine RunH ?_; intro w hL hB; try clear w) | (refine Both.mk ?_ ?_ <;> conv => whnf) | fail)
    refine (append_fn nmb (by decide) _ l2 p2 (close (F' := []) hL hB)).mono fun r w ⟨hr, hD⟩ => ?_
    subst hr
    clear close hL hB
    rcases full_next l2 (.inr ⟨l1, rfl, rfl⟩) f1 with ⟨g1, g2, g3⟩ | ⟨g1, g2, g3⟩ <;> rw [g2] <;> generalize appS R [⟨nmA, l1, 0⟩] nmb l2 = S2 at * <;> (
      obtain ⟨dL, hL, hB, close⟩ := hD.open
      conv => whnf
      repeat (first | (refine RunH ?_; intro w hL hB; try clear w) | (refine Both.mk ?_ ?_ <;> conv => whnf) | (refine Br.beq (by first | (rw [decide_eq_decide]; omega) | (simp; omega) | simp) ?_; conv => whnf) | fail)
      refine (size_fn nmb (by decide) (close (F' := []) hL hB)).mono fun r w ⟨hr, hD⟩ => ?_
      subst hr
      clear close hL hB
      rw [g3]
      obtain ⟨dL, hL, hB, close⟩ := hD.open
      conv => whnf
      repeat (first | (refine RunH ?_; intro w hL hB; try clear w) | (refine Both.mk ?_ ?_ <;> conv => whnf) | (refine Br.beq (by first | (rw [decide_eq_decide]; omega) | (simp; omega) | simp) ?_; conv => whnf) | fail)
      refine (used_fn (close (F' := []) hL hB)).mono fun r w ⟨hr, hD⟩ => ?_
      subst hr
      clear close hL hB
      have ht := hD.tot_le
      obtain ⟨dL, hL, hB, close⟩ := hD.open
      conv => whnf
      repeat (first | (refine RunH ?_; intro w hL hB; try clear w) | (refine Both.mk ?_ ?_ <;> conv => whnf) | (refine Br.beq (by first | (rw [decide_eq_decide]; omega) | (simp; omega) | simp) ?_; conv => whnf) | fail)
      refine (known_fn _).mono fun r w ⟨hr, hw⟩ => ?_
      subst hr
      replace hL := hL.call hB (Turns.of_below hw)
      conv => whnf
      repeat (first | (refine RunH ?_; intro w hL hB; try clear w) | (refine Both.mk ?_ ?_ <;> conv => whnf) | (refine Br.beq (by first | (rw [decide_eq_decide]; omega) | (simp; omega) | simp) ?_; conv => whnf) | fail)
      exact ⟨rfl, hL.below⟩)
  · obtain ⟨dL, hL, hB, close⟩ := hD.open
    conv => whnf
    repeat (first | (refine RunH ?_; intro w hL hB; try clear w) | (refine Both.mk ?_ ?_ <;> conv => whnf) | fail)
    refine (append_fn nmb (by decide) _ l2 p2 (close (F' := []) hL hB)).mono fun r w ⟨hr, hD⟩ => ?_
    subst hr
    clear close hL hB
    rcases full_next l2 (.inl ⟨rfl, rfl⟩) (Nat.zero_le R) with ⟨g1, g2, g3⟩ | ⟨g1, g2, g3⟩ <;> rw [g2] <;> generalize appS R [] nmb l2 = S2 at * <;> (
      obtain ⟨dL, hL, hB, close⟩ := hD.open
      conv => whnf
      repeat (first | (refine RunH ?_; intro w hL hB; try clear w) | (refine Both.mk ?_ ?_ <;> conv => whnf) | (refine Br.beq (by first | (rw [decide_eq_decide]; omega) | (simp; omega) | simp) ?_; conv => whnf) | fail)
      refine (size_fn nmb (by decide) (close (F' := []) hL hB)).mono fun r w ⟨hr, hD⟩ => ?_
      subst hr
      clear close hL hB
      rw [g3]
      obtain ⟨dL, hL, hB, close⟩ := hD.open
      conv => whnf
      repeat (first | (refine RunH ?_; intro w hL hB; try clear w) | (refine Both.mk ?_ ?_ <;> conv => whnf) | (refine Br.beq (by first | (rw [decide_eq_decide]; omega) | (simp; omega) | simp) ?_; conv => whnf) | fail)
      refine (used_fn (close (F' := []) hL hB)).mono fun r w ⟨hr, hD⟩ => ?_
      subst hr
      clear close hL hB
      have ht := hD.tot_le
      obtain ⟨dL, hL, hB, close⟩ := hD.open
      conv => whnf
      repeat (first | (refine RunH ?_; intro w hL hB; try clear w) | (refine Both.mk ?_ ?_ <;> conv => whnf) | (refine Br.beq (by first | (rw [decide_eq_decide]; omega) | (simp; omega) | simp) ?_; conv => whnf) | fail)
      refine (known_fn _).mono fun r w ⟨hr, hw⟩ => ?_
      subst hr
      replace hL := hL.call hB (Turns.of_below hw)
      conv => whnf
      repeat (first | (refine RunH ?_; intro w hL hB; try clear w) | (refine Both.mk ?_ ?_ <;> conv => whnf) | (refine Br.beq (by first | (rw [decide_eq_decide]; omega) | (simp; omega) | simp) ?_; conv => whnf) | fail)
      exact ⟨rfl, hL.below⟩)
end Go.Proofs.Ytpfmnpkjhnbkhaa
