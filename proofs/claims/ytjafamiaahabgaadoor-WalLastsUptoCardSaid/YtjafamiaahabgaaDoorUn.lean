/- strings.Repeat of noughts; names of volumes with one digit. Nothing is claimed here. -/
import Derived.Test.YtjafamiaahabgaaDoorSd
namespace Go.Proofs.YtjafamiaahabgaaDoor
open Go.RowKit
set_option linter.unusedVariables false
set_option linter.unusedSimpArgs false
set_option maxRecDepth 100000

/-- n noughts -/
def zs (n : Nat) : ByteArray := ⟨(List.replicate n 48).toArray⟩
theorem mul64_fn (b : Nat) (hb : b < 4294967296) (w : World) : Fn Tryd.prog 66 #[.int .u64 1, .int .u64 b] w fun r w' => r = .tuple #[.int .u64 0, .int .u64 b] ∧ w' = w := by
  have hA : b &&& 4294967295 = b := by rw [show 4294967295 = 2 ^ 32 - 1 from rfl, Nat.and_two_pow_sub_one_eq_mod]; exact Nat.mod_eq_of_lt hb
  have hA0 : b / 4294967296 = 0 := Nat.div_eq_of_lt hb
  have hL := Sep.start Tryd.prog w
  have hB := Nat.le_refl w.heap.size
  refine Fn.mk Tryd.func66 rfl (by kernel_rfl) Tryd.ntmps66 rfl (by rw [Tryd.results66]) ?_
  repeat (first | (refine RunH ?_; intro w hL hB; try clear w) | (refine Both.mk ?_ ?_ <;> conv => whnf) | fail)
  refine Bt.and64 1 4294967295 rfl rfl (by decide) (by decide) ?_
  rw [show 1 &&& 4294967295 = 1 from by decide]
  conv => whnf
  repeat (first | (refine RunH ?_; intro w hL hB; try clear w) | (refine Both.mk ?_ ?_ <;> conv => whnf) | fail)
  refine Shr.u64 1 32 4294967296 rfl rfl (by decide) rfl ?_
  rw [show 1 / 4294967296 = 0 from by decide]
  conv => whnf
  repeat (first | (refine RunH ?_; intro w hL hB; try clear w) | (refine Both.mk ?_ ?_ <;> conv => whnf) | fail)
  refine Bt.and64 b 4294967295 rfl rfl (by omega) (by decide) ?_
  rw [hA]
  conv => whnf
  repeat (first | (refine RunH ?_; intro w hL hB; try clear w) | (refine Both.mk ?_ ?_ <;> conv => whnf) | fail)
  refine Shr.u64 b 32 4294967296 rfl rfl (by decide) rfl ?_
  rw [hA0]
  conv => whnf
  repeat (first | (refine RunH ?_; intro w hL hB; try clear w) | (refine Both.mk ?_ ?_ <;> conv => whnf) | fail)
  refine Shr.u64 b 32 4294967296 (by omega) rfl (by decide) rfl ?_
  rw [hA0]
  conv => whnf
  repeat (first | (refine RunH ?_; intro w hL hB; try clear w) | (refine Both.mk ?_ ?_ <;> conv => whnf) | fail)
  refine Bt.and64 0 4294967295 (by omega) rfl (by decide) (by decide) ?_
  rw [show 0 &&& 4294967295 = 0 from by decide]
  conv => whnf
  repeat (first | (refine RunH ?_; intro w hL hB; try clear w) | (refine Both.mk ?_ ?_ <;> conv => whnf) | fail)
  refine Shr.u64 0 32 4294967296 (by omega) rfl (by decide) rfl ?_
  rw [show 0 / 4294967296 = 0 from by decide]
  conv => whnf
  repeat (first | (refine RunH ?_; intro w hL hB; try clear w) | (refine Both.mk ?_ ?_ <;> conv => whnf) | fail)
  refine Shr.u64 0 32 4294967296 (by omega) rfl (by decide) rfl ?_
  rw [show 0 / 4294967296 = 0 from by decide]
  conv => whnf
  repeat (first | (refine RunH ?_; intro w hL hB; try clear w) | (refine Both.mk ?_ ?_ <;> conv => whnf) | fail)
  refine ⟨?_, rfl⟩
  congr 4
  all_goals first | rfl | (simp; done) | (simp; omega)
theorem mul_fn (b : Nat) (hb : b < 4294967296) (w : World) : Fn Tryd.prog 50 #[.int .u64 1, .int .u64 b] w fun r w' => r = .tuple #[.int .u64 0, .int .u64 b] ∧ w' = w := by
  refine Fn.mk Tryd.func50 rfl (by kernel_rfl) Tryd.ntmps50 rfl (by rw [Tryd.results50]) ?_
  refine RunR ?_
  refine (mul64_fn b hb _).mono fun r w' ⟨hr, hw⟩ => ?_
  subst hr; subst hw
  conv => whnf
  refine RunR ?_
  exact ⟨rfl, rfl⟩
def z64 : ByteArray := ⟨(List.replicate 64 48).toArray⟩
theorem hasPre_fn (a z : ByteArray) (ha : a.size ≤ 1000) (hz : z.size ≤ a.size) (w : World) : Fn Tryd.prog 51 #[.string a, .string z] w fun r w' => r = .bool (decide (a.extract 0 z.size = z)) ∧ w' = w := by
  have hL := Sep.start Tryd.prog w
  have hB := Nat.le_refl w.heap.size
  refine Fn.mk Tryd.func51 rfl (by kernel_rfl) Tryd.ntmps51 rfl (by rw [Tryd.results51]) ?_
  refine RunR ?_
  refine Fn.mk Tryd.func62 rfl (by kernel_rfl) Tryd.ntmps62 rfl (by rw [Tryd.results62]) ?_
  repeat (first | (refine RunH ?_; intro w hL hB; try clear w) | (refine Both.mk ?_ ?_ <;> conv => whnf) | fail)
  exact ⟨rfl, rfl⟩
theorem repeat0_fn (n : Nat) (hn : n ≤ 8) (w : World) : Fn Tryd.prog 37 #[.string ⟨#[48]⟩, .int .i64 (n : Int)] w fun r w' => r = .string (zs n) ∧ w' = w := by
  have hL := Sep.start Tryd.prog w
  have hB := Nat.le_refl w.heap.size
  by_cases h0 : n = 0
  · subst h0
    refine Fn.mk Tryd.func37 rfl (by kernel_rfl) Tryd.ntmps37 rfl (by rw [Tryd.results37]) ?_
    repeat (first | (refine RunH ?_; intro w hL hB; try clear w) | (refine Both.mk ?_ ?_ <;> conv => whnf) | fail)
    exact ⟨rfl, rfl⟩
  by_cases h1 : n = 1
  · subst h1
    refine Fn.mk Tryd.func37 rfl (by kernel_rfl) Tryd.ntmps37 rfl (by rw [Tryd.results37]) ?_
    repeat (first | (refine RunH ?_; intro w hL hB; try clear w) | (refine Both.mk ?_ ?_ <;> conv => whnf) | fail)
    exact ⟨rfl, rfl⟩
  refine Fn.mk Tryd.func37 rfl (by kernel_rfl) Tryd.ntmps37 rfl (by rw [Tryd.results37]) ?_
  repeat (first | (refine RunH ?_; intro w hL hB; try clear w) | (refine Both.mk ?_ ?_ <;> conv => whnf) | fail)
  rw [show (⟨#[48]⟩ : ByteArray).size = 1 from rfl]
  refine Ar.u64 (by omega) (by omega) ?_
  conv => whnf
  repeat (first | (refine RunH ?_; intro w hL hB; try clear w) | (refine Both.mk ?_ ?_ <;> conv => whnf) | fail)
  refine (mul_fn n (by omega) _).mono fun r w' ⟨hr, hw⟩ => ?_
  subst hr; subst hw
  conv => whnf
  repeat (first | (refine RunH ?_; intro w hL hB; try clear w) | (refine Both.mk ?_ ?_ <;> conv => whnf) | fail)
  refine Chk.mk ⟨by decide, by decide⟩ ?_
  intro b1 hb1
  obtain rfl : b1 = 48 := (Option.some.inj hb1).symm
  rw [show (48 : UInt8).toNat = 48 from rfl]
  conv => whnf
  repeat (first | (refine RunH ?_; intro w hL hB; try clear w) | (refine Both.mk ?_ ?_ <;> conv => whnf) | fail)
  refine (hasPre_fn _ ⟨#[48]⟩ (by decide) (by decide) _).mono fun r w' ⟨hr, hw⟩ => ?_
  subst hr; subst hw
  conv => whnf
  repeat (first | (refine RunH ?_; intro w hL hB; try clear w) | (refine Both.mk ?_ ?_ <;> conv => whnf) | fail)
  refine (hasPre_fn _ ⟨#[48]⟩ (by decide) (by decide) _).mono fun r w' ⟨hr, hw⟩ => ?_
  subst hr; subst hw
  conv => whnf
  repeat (first | (refine RunH ?_; intro w hL hB; try clear w) | (refine Both.mk ?_ ?_ <;> conv => whnf) | fail)
  refine (hasPre_fn _ ⟨#[48]⟩ (by decide) (by decide) _).mono fun r w' ⟨hr, hw⟩ => ?_
  subst hr; subst hw
  rw [decide_eq_true (by decide)]
  conv => whnf
  repeat (first | (refine RunH ?_; intro w hL hB; try clear w) | (refine Both.mk ?_ ?_ <;> conv => whnf) | fail)
  refine Chk.mk ⟨by decide, by omega, (show (n : Int) ≤ 64 from by omega)⟩ ?_
  conv => whnf
  repeat (first | (refine RunH ?_; intro w hL hB; try clear w) | (refine Both.mk ?_ ?_ <;> conv => whnf) | fail)
  obtain rfl | rfl | rfl | rfl | rfl | rfl | rfl : n = 2 ∨ n = 3 ∨ n = 4 ∨ n = 5 ∨ n = 6 ∨ n = 7 ∨ n = 8 := by omega
  all_goals exact ⟨congrArg Value.string (by decide +kernel), rfl⟩
/-- the text of one digit -/
theorem itoa1_fn (i : Nat) (hi : i = 1 ∨ i = 3 ∨ i = 5 ∨ i = 7) (w : World) : Fn Tryd.prog 36 #[.int .i64 (i : Int)] w fun r w' => r = .string ⟨#[UInt8.ofNat (48 + i)]⟩ ∧ w' = w := by
  have hL := Sep.start Tryd.prog w
  have hB := Nat.le_refl w.heap.size
  rcases hi with rfl | rfl | rfl | rfl <;> (
    refine Fn.mk Tryd.func36 rfl (by kernel_rfl) Tryd.ntmps36 rfl (by rw [Tryd.results36]) ?_
    repeat (first | (refine RunH ?_; intro w hL hB; try clear w) | (refine Both.mk ?_ ?_ <;> conv => whnf) | fail)
    refine Fn.mk Tryd.func49 rfl (by kernel_rfl) Tryd.ntmps49 rfl (by rw [Tryd.results49]) ?_
    repeat (first | (refine RunH ?_; intro w hL hB; try clear w) | (refine Both.mk ?_ ?_ <;> conv => whnf) | fail)
    refine Fn.mk Tryd.func64 rfl (by kernel_rfl) Tryd.ntmps64 rfl (by rw [Tryd.results64]) ?_
    repeat (first | (refine RunH ?_; intro w hL hB; try clear w) | (refine Both.mk ?_ ?_ <;> conv => whnf) | fail)
    refine Fn.mk Tryd.func81 rfl (by kernel_rfl) Tryd.ntmps81 rfl (by rw [Tryd.results81]) ?_
    repeat (first | (refine RunH ?_; intro w hL hB; try clear w) | (refine Both.mk ?_ ?_ <;> conv => whnf) | fail)
    refine Chk.mk ⟨by decide, by decide, (show _ ≤ ((36 : Nat) : Int) from by decide)⟩ ?_
    conv => whnf
    repeat (first | (refine RunH ?_; intro w hL hB; try clear w) | (refine Both.mk ?_ ?_ <;> conv => whnf) | fail)
    exact ⟨congrArg Value.string (by decide +kernel), rfl⟩)
def vnm (i : Nat) : ByteArray := ⟨#[118, 48, 48, 48, 48, 48, 48, 48, UInt8.ofNat (48 + i), 46, 100, 97, 116]⟩
end Go.Proofs.YtjafamiaahabgaaDoor
