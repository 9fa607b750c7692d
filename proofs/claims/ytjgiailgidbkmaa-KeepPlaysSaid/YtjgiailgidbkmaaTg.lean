/- garnerref4.Disk: List, Crash, Copy. Nothing is claimed here. -/
import Derived.Test.YtjgiailgidbkmaaTf
namespace Go.Proofs.Ytjgiailgidbkmaa
open Go.RowKit
set_option linter.unusedVariables false
set_option linter.unusedSimpArgs false
set_option maxRecDepth 100000

theorem draw_fn (n : Int) (w : World) : Fn Try.prog 56 #[.int .i64 n] w fun r w' => r = .int .i64 (max 0 n) ∧ w' = w := by
  refine Fn.mk Try.func56 rfl (by kernel_rfl) Try.ntmps56 rfl (by rw [Try.results56]) ?_
  refine RunR ?_
  exact ⟨rfl, rfl⟩
theorem round_fn (a i n : Nat) (ha : a ≤ 9223372036854775807) (hi : i ≤ 1000000) (hn : 0 < n) (hn2 : n ≤ 1125899906842624) (w : World) : Fn Try.prog 55 #[.int .i64 a, .int .i64 i, .int .i64 n] w fun r w' => r = .int .i64 ((a % n + i % n) % n : Nat) ∧ Below w.heap.size w w' := by
  have hL := Sep.start Try.prog w
  have hB := Nat.le_refl w.heap.size
  have m1 := Nat.mod_lt a hn
  have m2 := Nat.mod_lt i hn
  refine Fn.mk Try.func55 rfl (by kernel_rfl) Try.ntmps55 rfl (by rw [Try.results55]) ?_
  repeat (first | (refine RunK ?_; intro w hL hB; try clear w) | (refine V.treeA ttOk hL (.q 0 (.q 1 (.q 2 (.q 3 (.q 4 (.q 5 (.q 6 (.q 7 (.q 8 (.q 9 .nil)))))))))) mixed (by decide +kernel) ?_; replace hL := hL.drew; conv => whnf) | (refine V.tailA ttOk mixed (by decide +kernel) ?_; replace hL := hL.drew; conv => whnf) | (refine Both.mk ?_ ?_ <;> conv => whnf) | (refine Rem.at a n rfl rfl (by omega) ?_; conv => whnf) | (refine Rem.at i n rfl rfl (by omega) ?_; conv => whnf) | (refine Rem.at (a % n + i % n) n (by push_cast; rfl) rfl (by omega) ?_; conv => whnf) | fail)
  exact ⟨rfl, hL.below⟩
def nmV (f : Fv) : Value := .string f.nm
end Go.Proofs.Ytjgiailgidbkmaa
