/- What the laws of disk lean on: known. Nothing is claimed here. -/
import Derived.Test.YtpfmnpkjhnbkhaaDh
import Derived.Test.YtpfmnpkjhnbkhaaLs
namespace Go.Proofs.Ytpfmnpkjhnbkhaa
open Go.RowKit
open Go.Maps (Keyed)
set_option linter.unusedVariables false
set_option linter.unusedSimpArgs false
set_option maxRecDepth 100000

def s5 : List UInt8 := [49, 50, 51, 52, 53]
def s3 : List UInt8 := [54, 55, 56]
def s6 : List UInt8 := [49, 50, 51, 52, 53, 54]
set_option maxHeartbeats 2000000 in
theorem known_fn (w0 : World) : Fn Try.prog 16 #[] w0 fun r w' => r = .bool true ∧ Below w0.heap.size w0 w' := by
  have hL := Sep.start Try.prog w0
  have hB := Nat.le_refl w0.heap.size
  refine Fn.mk Try.func16 rfl (by kernel_rfl) Try.ntmps16 rfl (by rw [Try.results16]) ?_
  repeat (first | (refine RunH ?_; intro w hL hB; try clear w) | (refine Both.mk ?_ ?_ <;> conv => whnf) | fail)
  refine (new_fn 10 hL hB).mono fun r w hr => ?_
  obtain ⟨b, rfl, hD⟩ := hr.1 (by decide)
  clear hr
  obtain ⟨dL, hL, hB, close⟩ := hD.open
  clear hD
  conv => whnf
  repeat (first | (refine RunH ?_; intro w hL hB; try clear w) | (refine Both.mk ?_ ?_ <;> conv => whnf) | fail)
  refine Rv.lit hL s5 rfl (by decide) hB fun bo w hL hB => ?_
  conv => whnf
  repeat (first | (refine RunH ?_; intro w hL hB; try clear w) | (refine Both.mk ?_ ?_ <;> conv => whnf) | fail)
  refine Rv.sameS ttOk hL 0 tl22 tl5 rfl hB fun w hL hB => ?_
  conv => whnf
  repeat (first | (refine RunH ?_; intro w hL hB; try clear w) | (refine Both.mk ?_ ?_ <;> conv => whnf) | fail)
  refine (append_fn nmA (by decide) _ s5 (fun w' h => h.roSl (i := 0) rfl) (close (F' := [_]) hL hB)).mono fun r w ⟨hr, hD⟩ => ?_
  subst hr
  clear close hL hB
  have e1 : appE 10 [] nmA s5.length = 0 := by rfl
  have e2 : appS 10 [] nmA s5 = [⟨nmA, s5, 0⟩] := by rfl
  rw [show (10 : Int).toNat = 10 from rfl, e2] at hD
  rw [show (10 : Int).toNat = 10 from rfl, e1]
  obtain ⟨dL, hL, hB, close⟩ := hD.open
  conv => whnf
  repeat (first | (refine RunH ?_; intro w hL hB; try clear w) | (refine Both.mk ?_ ?_ <;> conv => whnf) | fail)
  refine (sync_fn nmA (by decide) (close (F' := [_]) hL hB)).mono fun r w ⟨hr, hD⟩ => ?_
  subst hr
  clear close hL hB
  have e3 : syncS [⟨nmA, s5, 0⟩] nmA = [⟨nmA, s5, 5⟩] := by rfl
  rw [e3] at hD
  rw [if_pos (by rfl)]
  obtain ⟨dL, hL, hB, close⟩ := hD.open
  conv => whnf
  repeat (first | (refine RunH ?_; intro w hL hB; try clear w) | (refine Both.mk ?_ ?_ <;> conv => whnf) | fail)
  refine Rv.lit hL s3 rfl (by decide) hB fun bo w hL hB => ?_
  conv => whnf
  repeat (first | (refine RunH ?_; intro w hL hB; try clear w) | (refine Both.mk ?_ ?_ <;> conv => whnf) | fail)
  refine Rv.sameS ttOk hL 0 tl22 tl5 rfl hB fun w hL hB => ?_
  conv => whnf
  repeat (first | (refine RunH ?_; intro w hL hB; try clear w) | (refine Both.mk ?_ ?_ <;> conv => whnf) | fail)
  refine (append_fn nmA (by decide) _ s3 (fun w' h => h.roSl (i := 0) rfl) (close (F' := [_, _]) hL hB)).mono fun r w ⟨hr, hD⟩ => ?_
  subst hr
  clear close hL hB
  have e4 : appE 10 [⟨nmA, s5, 5⟩] nmA s3.length = 0 := by rfl
  have e5 : appS 10 [⟨nmA, s5, 5⟩] nmA s3 = [⟨nmA, s5 ++ s3, 5⟩] := by rfl
  rw [e5] at hD
  rw [e4]
  obtain ⟨dL, hL, hB, close⟩ := hD.open
  conv => whnf
  repeat (first | (refine RunH ?_; intro w hL hB; try clear w) | (refine Both.mk ?_ ?_ <;> conv => whnf) | fail)
  refine (crash_fn 1 (by decide) (close (F' := [_, _]) hL hB)).mono fun r w hD => ?_
  clear close hL hB
  rw [crash_one, show crash1 1 0 ⟨nmA, s5 ++ s3, 5⟩ = ⟨nmA, s6, 6⟩ by rfl] at hD
  obtain ⟨dL, hL, hB, close⟩ := hD.open
  conv => whnf
  repeat (first | (refine RunH ?_; intro w hL hB; try clear w) | (refine Both.mk ?_ ?_ <;> conv => whnf) | fail)
  refine (read_fn nmA (by decide) (close (F' := [_, _]) hL hB)).mono fun r w hD => ?_
  clear close hL hB
  rw [show getS [⟨nmA, s6, 6⟩] nmA = some ⟨nmA, s6, 6⟩ by rfl] at hD
  obtain ⟨u, rfl, hD⟩ := hD
  obtain ⟨dL, hL, hB, close⟩ := hD.open
  obtain ⟨ua, uc, rfl⟩ := (show SlN w 1 u _ _ from hL.rowN (i := 0) rfl).shape
  conv => whnf
  repeat (first | (refine RunH ?_; intro w hL hB; try clear w) | (refine Both.mk ?_ ?_ <;> conv => whnf) | fail)
  refine Rv.lit hL s6 rfl (by decide) hB fun bo w hL hB => ?_
  conv => whnf
  repeat (first | (refine RunH ?_; intro w hL hB; try clear w) | (refine Both.mk ?_ ?_ <;> conv => whnf) | fail)
  refine Rv.sameS ttOk hL 0 tl22 tl5 rfl hB fun w hL hB => ?_
  conv => whnf
  repeat (first | (refine RunH ?_; intro w hL hB; try clear w) | (refine Both.mk ?_ ?_ <;> conv => whnf) | fail)
  refine (same_fn _ _ _ s6 _ (hL.row (i := 1) rfl) (hL.roSl (i := 0) rfl)).mono fun r w ⟨hr, hw⟩ => ?_
  subst hr
  replace hL := hL.call hB (Turns.of_below hw)
  conv => whnf
  repeat (first | (refine RunH ?_; intro w hL hB; try clear w) | (refine Both.mk ?_ ?_ <;> conv => whnf) | fail)
  exact ⟨rfl, hL.below⟩
end Go.Proofs.Ytpfmnpkjhnbkhaa
