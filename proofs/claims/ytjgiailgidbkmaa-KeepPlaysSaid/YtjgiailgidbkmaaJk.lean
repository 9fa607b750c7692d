/- What the laws of keep lean on: a disk with one file; known. Nothing is claimed here. -/
import Derived.Test.YtjgiailgidbkmaaJa
import Derived.Test.YtjgiailgidbkmaaLs
namespace Go.Proofs.Ytjgiailgidbkmaa
open Go.RowKit
open Go.Maps (Keyed)
set_option linter.unusedVariables false
set_option linter.unusedSimpArgs false
set_option maxRecDepth 100000

theorem shd_ne {nm : ByteArray} : nm ≠ shd nm := fun h => by
  have := congrArg ByteArray.size h
  rw [shd_size] at this
  omega
/-- at most one file, of that name -/
def OneF (S : List Fl) (nm : ByteArray) : Prop := S = [] ∨ ∃ d la, S = [⟨nm, d, la⟩]
theorem save_one {room : Nat} {S : List Fl} {nm : ByteArray} {xs : List UInt8} (hS : OneF S nm) (hok : 1 ≤ nm.size ∧ nm.size ≤ 63) :
    (totS S + (8 + xs.length) ≤ room → saveE room S nm xs.length = 0 ∧ saveS room S nm xs = [⟨nm, encF xs, (encF xs).length⟩]) ∧
    (room < totS S + (8 + xs.length) → saveE room S nm xs.length = 6 ∧ saveS room S nm xs = S) := by
  have hne := shd_ne (nm := nm)
  have hsz := shd_size nm
  have hdel : delS S (shd nm) = S := by
    rcases hS with rfl | ⟨d, la, rfl⟩
    · rfl
    · simp [delS, hne]
  have hget : getS S (shd nm) = none := by
    rcases hS with rfl | ⟨d, la, rfl⟩
    · rfl
    · simp [getS, hne]
  have hlen : S.length ≤ 1 := by rcases hS with rfl | ⟨d, la, rfl⟩ <;> simp
  constructor
  · intro hr
    have e : appE room S (shd nm) (8 + xs.length) = 0 := by
      rw [appE, if_neg (by omega), if_neg]
      rw [hget]; simp; omega
    refine ⟨by rw [saveE, if_neg (fun h => h hok), hdel, e], ?_⟩
    rw [saveS, if_neg (fun h => h hok), hdel, if_pos e, appS, encF_len, if_pos e, appF, hget]
    dsimp only
    rcases hS with rfl | ⟨d, la, rfl⟩
    · simp [putS, syncS, getS, renS, delS, hne.symm]
      rw [encF_len]
    · simp [putS, syncS, getS, renS, delS, hne, hne.symm]
      rw [encF_len]
  · intro hr
    have e : appE room S (shd nm) (8 + xs.length) = 6 := by
      rw [appE, if_neg (by omega), if_pos (.inr hr)]
    refine ⟨by rw [saveE, if_neg (fun h => h hok), hdel, e], ?_⟩
    rw [saveS, if_neg (fun h => h hok), hdel, if_neg (by rw [e]; decide), hdel]
theorem load_one {nm : ByteArray} {xs : List UInt8} {la : Nat} (hx : xs.length ≤ 1048576) : loadE [⟨nm, encF xs, la⟩] nm = 0 ∧ loadP [⟨nm, encF xs, la⟩] nm = xs := by
  have hg := get_one ⟨nm, encF xs, la⟩
  refine ⟨?_, ?_⟩
  · rw [loadE, hg]
    dsimp only
    rw [dec_e hx, if_neg (by simp), dec_n hx, encF_len, if_neg (by simp)]
  · rw [loadP, hg]
    exact dec_p hx
theorem load_none {nm : ByteArray} : loadE [] nm = 7 := rfl
def sxy : List UInt8 := [120, 121]
def sz1 : List UInt8 := [122]
set_option maxHeartbeats 2000000 in
theorem known_fn (w0 : World) : Fn Try.prog 11 #[] w0 fun r w' => r = .bool true ∧ Below w0.heap.size w0 w' := by
  have hL := Sep.start Try.prog w0
  have hB := Nat.le_refl w0.heap.size
  have hok : 1 ≤ nmA.size ∧ nmA.size ≤ 63 := by decide
  refine Fn.mk Try.func11 rfl (by kernel_rfl) Try.ntmps11 rfl (by rw [Try.results11]) ?_
  repeat (first | (refine RunH ?_; intro w hL hB; try clear w) | (refine Both.mk ?_ ?_ <;> conv => whnf) | fail)
  refine (new_fn 1000 hL hB).mono fun r w hr => ?_
  obtain ⟨b, rfl, hD⟩ := hr.1 (by decide)
  clear hr
  obtain ⟨dL, hL, hB, close⟩ := hD.open
  clear hD
  conv => whnf
  repeat (first | (refine RunH ?_; intro w hL hB; try clear w) | (refine Both.mk ?_ ?_ <;> conv => whnf) | fail)
  refine Rv.lit hL sxy rfl (by decide) hB fun bo w hL hB => ?_
  conv => whnf
  repeat (first | (refine RunH ?_; intro w hL hB; try clear w) | (refine Both.mk ?_ ?_ <;> conv => whnf) | fail)
  refine Rv.sameS ttOk hL 0 tl22 tl5 rfl hB fun w hL hB => ?_
  conv => whnf
  repeat (first | (refine RunH ?_; intro w hL hB; try clear w) | (refine Both.mk ?_ ?_ <;> conv => whnf) | fail)
  refine (save_fn nmA (by decide) _ sxy (by decide) (fun w' h => h.roSl (i := 0) rfl) (close (F' := [_]) hL hB)).mono fun r w ⟨hr, hD⟩ => ?_
  subst hr
  clear close hL hB
  have e1 := (save_one (room := (1000 : Int).toNat) (S := []) (nm := nmA) (xs := sxy) (.inl rfl) hok).1 (by decide)
  rw [e1.2] at hD
  rw [e1.1]
  obtain ⟨dL, hL, hB, close⟩ := hD.open
  conv => whnf
  repeat (first | (refine RunH ?_; intro w hL hB; try clear w) | (refine Both.mk ?_ ?_ <;> conv => whnf) | fail)
  refine Rv.lit hL sz1 rfl (by decide) hB fun bo w hL hB => ?_
  conv => whnf
  repeat (first | (refine RunH ?_; intro w hL hB; try clear w) | (refine Both.mk ?_ ?_ <;> conv => whnf) | fail)
  refine Rv.sameS ttOk hL 0 tl22 tl5 rfl hB fun w hL hB => ?_
  conv => whnf
  repeat (first | (refine RunH ?_; intro w hL hB; try clear w) | (refine Both.mk ?_ ?_ <;> conv => whnf) | fail)
  refine (save_fn nmA (by decide) _ sz1 (by decide) (fun w' h => h.roSl (i := 0) rfl) (close (F' := [_, _]) hL hB)).mono fun r w ⟨hr, hD⟩ => ?_
  subst hr
  clear close hL hB
  have e2 := (save_one (room := (1000 : Int).toNat) (S := [⟨nmA, encF sxy, (encF sxy).length⟩]) (nm := nmA) (xs := sz1) (.inr ⟨_, _, rfl⟩) hok).1 (by simp only [totS, List.map_cons, List.map_nil, List.sum_cons, List.sum_nil, encF_len]; decide)
  rw [e2.2] at hD
  rw [e2.1]
  obtain ⟨dL, hL, hB, close⟩ := hD.open
  conv => whnf
  repeat (first | (refine RunH ?_; intro w hL hB; try clear w) | (refine Both.mk ?_ ?_ <;> conv => whnf) | fail)
  refine (load_fn nmA (by decide) (close (F' := [_, _]) hL hB)).mono fun r w hD => ?_
  clear close hL hB
  have e3 := load_one (nm := nmA) (xs := sz1) (la := (encF sz1).length) (by decide)
  rw [loadPost, if_pos e3.1, e3.2] at hD
  obtain ⟨u, rfl, hD⟩ := hD
  obtain ⟨dL, hL, hB, close⟩ := hD.open
  obtain ⟨ua, uc, rfl⟩ := (show SlN w 1 u _ _ from hL.rowN (i := 0) rfl).shape
  conv => whnf
  repeat (first | (refine RunH ?_; intro w hL hB; try clear w) | (refine Both.mk ?_ ?_ <;> conv => whnf) | fail)
  refine Rv.lit hL sz1 rfl (by decide) hB fun bo w hL hB => ?_
  conv => whnf
  repeat (first | (refine RunH ?_; intro w hL hB; try clear w) | (refine Both.mk ?_ ?_ <;> conv => whnf) | fail)
  refine Rv.sameS ttOk hL 0 tl22 tl5 rfl hB fun w hL hB => ?_
  conv => whnf
  repeat (first | (refine RunH ?_; intro w hL hB; try clear w) | (refine Both.mk ?_ ?_ <;> conv => whnf) | fail)
  refine (same_fn _ _ _ sz1 _ (hL.row (i := 1) rfl) (hL.roSl (i := 0) rfl)).mono fun r w ⟨hr, hw⟩ => ?_
  subst hr
  replace hL := hL.call hB (Turns.of_below hw)
  replace hB := Nat.le_trans hB hw.size
  conv => whnf
  repeat (first | (refine RunH ?_; intro w hL hB; try clear w) | (refine Both.mk ?_ ?_ <;> conv => whnf) | fail)
  refine (list_fn (close (F' := [_, _, _, _]) hL hB)).mono fun r w hD => ?_
  clear close hL hB
  obtain ⟨dL, hL, hB, close⟩ := hD.open
  obtain ⟨ra, rc, rfl⟩ := (show SlN w 1 r _ _ from hL.rowN (i := 0) rfl).shape
  conv => whnf
  repeat (first | (refine RunH ?_; intro w hL hB; try clear w) | (refine Both.mk ?_ ?_ <;> conv => whnf) | fail)
  exact ⟨rfl, hL.below⟩
end Go.Proofs.Ytjgiailgidbkmaa
