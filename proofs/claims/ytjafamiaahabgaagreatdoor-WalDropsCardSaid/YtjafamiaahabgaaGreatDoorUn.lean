/- strings.Repeat of noughts; names of volumes with one digit. Nothing is claimed here. -/
import Derived.Test.YtjafamiaahabgaaGreatDoorSd
namespace Go.Proofs.YtjafamiaahabgaaGreatDoor
open Go.RowKit
set_option linter.unusedVariables false
set_option linter.unusedSimpArgs false
set_option maxRecDepth 100000

/-- n noughts -/
def zs (n : Nat) : ByteArray := ⟨(List.replicate n 48).toArray⟩
theorem mul64_fn (b : Nat) (hb : b < 4294967296) (w : World) : Fn Tryz.prog 113 #[.int .u64 1, .int .u64 b] w fun r w' => r = .tuple #[.int .u64 0, .int .u64 b] ∧ w' = w := by
  have hA : b &&& 4294967295 = b := by rw [show 4294967295 = 2 ^ 32 - 1 from rfl, Nat.and_two_pow_sub_one_eq_mod]; exact Nat.mod_eq_of_lt hb
  have hA0 : b / 4294967296 = 0 := Nat.div_eq_of_lt hb
  have hL := Sep.start Tryz.prog w
  have hB := Nat.le_refl w.heap.size
  refine Fn.mk Tryz.func113 rfl (by kernel_rfl) Tryz.ntmps113 rfl (by rw [Tryz.results113]) ?_
  repeat (first | (refine RunH ?_; intro w hL hB; try clear w) | (refine Both.mk ?_ ?_ <;> conv => whnf) | fail)
  refine Bt.and64 1 4294967295 rfl rfl (by decide) (by decide) ?_
  rw [show 1 &&& 4294967295 = 1 from by decide]
  conv => whnf
  repeat (first | (refine RunH ?_; intro w hL hB; try clear w) | (refine Both.mk ?_ ?_ <;> conv => whnf) | fail)
  refine Shr.u64 1 32 4294967296 rfl rfl (by decide) rfl ?_
  rw [show 1 / 4294967296 = 0 from by decide]
  conv => whnf
  repeat (first | (refine RunH ?_; intro w hL hB; try clear w) | (refine Both.mk ?_ ?_ <;> conv => whnf) | fail)
  refine Bt.and64 b 4294967295 rfl rfl (by omega) (by decide) ?_
  rw [hA]
  conv => whnf
  repeat (first | (refine RunH ?_; intro w hL hB; try clear w) | (refine Both.mk ?_ ?_ <;> conv => whnf) | fail)
  refine Shr.u64 b 32 4294967296 rfl rfl (by decide) rfl ?_
  rw [hA0]
  conv => whnf
  repeat (first | (refine RunH ?_; intro w hL hB; try clear w) | (refine Both.mk ?_ ?_ <;> conv => whnf) | fail)
  refine Shr.u64 b 32 4294967296 (by omega) rfl (by decide) rfl ?_
  rw [hA0]
  conv => whnf
  repeat (first | (refine RunH ?_; intro w hL hB; try clear w) | (refine Both.mk ?_ ?_ <;> conv => whnf) | fail)
  refine Bt.and64 0 4294967295 (by omega) rfl (by decide) (by decide) ?_
  rw [show 0 &&& 4294967295 = 0 from by decide]
  conv => whnf
  repeat (first | (refine RunH ?_; intro w hL hB; try clear w) | (refine Both.mk ?_ ?_ <;> conv => whnf) | fail)
  refine Shr.u64 0 32 4294967296 (by omega) rfl (by decide) rfl ?_
  rw [show 0 / 4294967296 = 0 from by decide]
  conv => whnf
  repeat (first | (refine RunH ?_; intro w hL hB; try clear w) | (refine Both.mk ?_ ?_ <;> conv => whnf) | fail)
  refine Shr.u64 0 32 4294967296 (by omega) rfl (by decide) rfl ?_
  rw [show 0 / 4294967296 = 0 from by decide]
  conv => whnf
  repeat (first | (refine RunH ?_; intro w hL hB; try clear w) | (refine Both.mk ?_ ?_ <;> conv => whnf) | fail)
  refine ⟨?_, rfl⟩
  congr 4
  all_goals first | rfl | (simp; done) | (simp; omega)
theorem mul_fn (b : Nat) (hb : b < 4294967296) (w : World) : Fn Tryz.prog 93 #[.int .u64 1, .int .u64 b] w fun r w' => r = .tuple #[.int .u64 0, .int .u64 b] ∧ w' = w := by
  refine Fn.mk Tryz.func93 rfl (by kernel_rfl) Tryz.ntmps93 rfl (by rw [Tryz.results93]) ?_
  refine RunR ?_
  refine (mul64_fn b hb _).mono fun r w' ⟨hr, hw⟩ => ?_
  subst hr; subst hw
  conv => whnf
  refine RunR ?_
  exact ⟨rfl, rfl⟩
def z64 : ByteArray := ⟨(List.replicate 64 48).toArray⟩
theorem hasPre_fn (a z : ByteArray) (ha : a.size ≤ 1000) (hz : z.size ≤ a.size) (w : World) : Fn Tryz.prog 94 #[.string a, .string z] w fun r w' => r = .bool (decide (a.extract 0 z.size = z)) ∧ w' = w := by
  have hL := Sep.start Tryz.prog w
  have hB := Nat.le_refl w.heap.size
  refine Fn.mk Tryz.func94 rfl (by kernel_rfl) Tryz.ntmps94 rfl (by rw [Tryz.results94]) ?_
  refine RunR ?_
  refine Fn.mk Tryz.func108 rfl (by kernel_rfl) Tryz.ntmps108 rfl (by rw [Tryz.results108]) ?_
  repeat (first | (refine RunH ?_; intro w hL hB; try clear w) | (refine Both.mk ?_ ?_ <;> conv => whnf) | fail)
  exact ⟨rfl, rfl⟩
theorem repeat0_fn (n : Nat) (hn : n ≤ 8) (w : World) : Fn Tryz.prog 71 #[.string ⟨#[48]⟩, .int .i64 (n : Int)] w fun r w' => r = .string (zs n) ∧ w' = w := by
  have hL := Sep.start Tryz.prog w
  have hB := Nat.le_refl w.heap.size
  by_cases h0 : n = 0
  · subst h0
    refine Fn.mk Tryz.func71 rfl (by kernel_rfl) Tryz.ntmps71 rfl (by rw [Tryz.results71]) ?_
    repeat (first | (refine RunH ?_; intro w hL hB; try clear w) | (refine Both.mk ?_ ?_ <;> conv => whnf) | fail)
    exact ⟨rfl, rfl⟩
  by_cases h1 : n = 1
  · subst h1
    refine Fn.mk Tryz.func71 rfl (by kernel_rfl) Tryz.ntmps71 rfl (by rw [Tryz.results71]) ?_
    repeat (first | (refine RunH ?_; intro w hL hB; try clear w) | (refine Both.mk ?_ ?_ <;> conv => whnf) | fail)
    exact ⟨rfl, rfl⟩
  refine Fn.mk Tryz.func71 rfl (by kernel_rfl) Tryz.ntmps71 rfl (by rw [Tryz.results71]) ?_
  repeat (first | (refine RunH ?_; intro w hL hB; try clear w) | (refine Both.mk ?_ ?_ <;> conv => whnf) | fail)
  rw [show (⟨#[48]⟩ : ByteArray).size = 1 from rfl]
  refine Ar.u64 (by omega) (by omega) ?_
  conv => whnf
  repeat (first | (refine RunH ?_; intro w hL hB; try clear w) | (refine Both.mk ?_ ?_ <;> conv => whnf) | fail)
  refine (mul_fn n (by omega) _).mono fun r w' ⟨hr, hw⟩ => ?_
  subst hr; subst hw
  conv => whnf
  repeat (first | (refine RunH ?_; intro w hL hB; try clear w) | (refine Both.mk ?_ ?_ <;> conv => whnf) | fail)
  refine Chk.mk ⟨by decide, by decide⟩ ?_
  intro b1 hb1
  obtain rfl : b1 = 48 := (Option.some.inj hb1).symm
  rw [show (48 : UInt8).toNat = 48 from rfl]
  conv => whnf
  repeat (first | (refine RunH ?_; intro w hL hB; try clear w) | (refine Both.mk ?_ ?_ <;> conv => whnf) | fail)
  refine (hasPre_fn _ ⟨#[48]⟩ (by decide) (by decide) _).mono fun r w' ⟨hr, hw⟩ => ?_
  subst hr; subst hw
  conv => whnf
  repeat (first | (refine RunH ?_; intro w hL hB; try clear w) | (refine Both.mk ?_ ?_ <;> conv => whnf) | fail)
  refine (hasPre_fn _ ⟨#[48]⟩ (by decide) (by decide) _).mono fun r w' ⟨hr, hw⟩ => ?_
  subst hr; subst hw
  conv => whnf
  repeat (first | (refine RunH ?_; intro w hL hB; try clear w) | (refine Both.mk ?_ ?_ <;> conv => whnf) | fail)
  refine (hasPre_fn _ ⟨#[48]⟩ (by decide) (by decide) _).mono fun r w' ⟨hr, hw⟩ => ?_
  subst hr; subst hw
  rw [decide_eq_true (by decide)]
  conv => whnf
  repeat (first | (refine RunH ?_; intro w hL hB; try clear w) | (refine Both.mk ?_ ?_ <;> conv => whnf) | fail)
  refine Chk.mk ⟨by decide, by omega, (show (n : Int) ≤ 64 from by omega)⟩ ?_
  conv => whnf
  repeat (first | (refine RunH ?_; intro w hL hB; try clear w) | (refine Both.mk ?_ ?_ <;> conv => whnf) | fail)
  obtain rfl | rfl | rfl | rfl | rfl | rfl | rfl : n = 2 ∨ n = 3 ∨ n = 4 ∨ n = 5 ∨ n = 6 ∨ n = 7 ∨ n = 8 := by omega
  all_goals exact ⟨congrArg Value.string (by decide +kernel), rfl⟩
/-- the text of one digit -/
theorem itoa1_fn (i : Nat) (hi : i = 1 ∨ i = 3 ∨ i = 5 ∨ i = 7) (w : World) : Fn Tryz.prog 70 #[.int .i64 (i : Int)] w fun r w' => r = .string ⟨#[UInt8.ofNat (48 + i)]⟩ ∧ w' = w := by
  have hL := Sep.start Tryz.prog w
  have hB := Nat.le_refl w.heap.size
  rcases hi with rfl | rfl | rfl | rfl <;> (
    refine Fn.mk Tryz.func70 rfl (by kernel_rfl) Tryz.ntmps70 rfl (by rw [Tryz.results70]) ?_
    repeat (first | (refine RunH ?_; intro w hL hB; try clear w) | (refine Both.mk ?_ ?_ <;> conv => whnf) | fail)
    refine Fn.mk Tryz.func92 rfl (by kernel_rfl) Tryz.ntmps92 rfl (by rw [Tryz.results92]) ?_
    repeat (first | (refine RunH ?_; intro w hL hB; try clear w) | (refine Both.mk ?_ ?_ <;> conv => whnf) | fail)
    refine Fn.mk Tryz.func111 rfl (by kernel_rfl) Tryz.ntmps111 rfl (by rw [Tryz.results111]) ?_
    repeat (first | (refine RunH ?_; intro w hL hB; try clear w) | (refine Both.mk ?_ ?_ <;> conv => whnf) | fail)
    refine Fn.mk Tryz.func130 rfl (by kernel_rfl) Tryz.ntmps130 rfl (by rw [Tryz.results130]) ?_
    repeat (first | (refine RunH ?_; intro w hL hB; try clear w) | (refine Both.mk ?_ ?_ <;> conv => whnf) | fail)
    refine Chk.mk ⟨by decide, by decide, (show _ ≤ ((36 : Nat) : Int) from by decide)⟩ ?_
    conv => whnf
    repeat (first | (refine RunH ?_; intro w hL hB; try clear w) | (refine Both.mk ?_ ?_ <;> conv => whnf) | fail)
    exact ⟨congrArg Value.string (by decide +kernel), rfl⟩)
def vnm (i : Nat) : ByteArray := ⟨#[118, 48, 48, 48, 48, 48, 48, 48, UInt8.ofNat (48 + i), 46, 100, 97, 116]⟩
end Go.Proofs.YtjafamiaahabgaaGreatDoor
