/- strip.Read. Nothing is claimed here. -/
import Derived.Test.YtlldgodjfpgbcaaRp
import Derived.Test.YtlldgodjfpgbcaaSc
namespace Go.Proofs.Ytlldgodjfpgbcaa
open Go.RowKit
set_option linter.unusedVariables false
set_option linter.unusedSimpArgs false
set_option maxRecDepth 100000

theorem mkB_inj {l m : List UInt8} : (mkB l = mkB m) ↔ l = m := ⟨fun h => by
  have := congrArg (fun b : ByteArray => b.data.toList) h
  simpa [mkB] using this, fun h => by rw [h]⟩
theorem equal_fn (v1 v2 : Value) (l1 l2 : List UInt8) (w : World) (h1 : Sl w v1 (bv l1)) (h2 : Sl w v2 (bv l2)) : Fn Try.prog 69 #[v1, v2] w fun r w' => r = .bool (decide (l1 = l2)) ∧ w' = w := by
  refine Fn.mk Try.func69 rfl (by kernel_rfl) Try.ntmps69 rfl (by rw [Try.results69]) ?_
  refine RunR ?_
  refine Rv.toStr ttOk rfl rfl rfl h1 ?_
  conv => whnf
  refine RunR ?_
  refine Rv.toStr ttOk rfl rfl rfl h2 ?_
  conv => whnf
  refine RunR ?_
  refine ⟨?_, rfl⟩
  rw [Value.bool.injEq, decide_eq_decide]
  exact mkB_inj
theorem fail_fn (e : Int) (w : World) : Fn Try.prog 41 #[.int .i64 e] w fun r w' => r = .tuple #[.int .i64 0, .int .i64 0, .int .i64 0, .slice none 0 0, .int .i64 e] ∧ w' = w := by
  refine Fn.mk Try.func41 rfl (by kernel_rfl) Try.ntmps41 rfl (by rw [Try.results41]) ?_
  refine RunR ?_
  exact ⟨rfl, rfl⟩
theorem hasPrefix_fn (v1 v2 : Value) (l1 l2 : List UInt8) (w : World) (h1 : Sl w v1 (bv l1)) (h2 : Sl w v2 (bv l2)) : Fn Try.prog 42 #[v1, v2] w fun r w' => r = .bool (decide (l1.take l2.length = l2)) ∧ w' = w := by
  have hle := h1.le
  obtain ⟨a, c, rfl⟩ := h1.shape
  obtain ⟨a2, c2, rfl⟩ := h2.shape
  simp only [bv_length] at *
  refine Fn.mk Try.func42 rfl (by kernel_rfl) Try.ntmps42 rfl (by rw [Try.results42]) ?_
  by_cases hl : l2.length ≤ l1.length
  · refine RunR ?_
    obtain ⟨q1, q2, q3⟩ := h1.len
    rw [bv_length] at q1
    rcases h1.cases with ⟨he, hx⟩ | ⟨b, o, c', he, _, _, _⟩
    · injection he with he1 he2 he3
      subst he1; subst he3
      obtain rfl : l1 = [] := List.length_eq_zero_iff.1 (by simpa using he2)
      obtain rfl : l2 = [] := List.length_eq_zero_iff.1 (by simpa using hl)
      refine RunR ?_
      intro n' c' hn hc
      obtain rfl : n' = 0 := by simpa using hn
      obtain rfl : c' = 0 := by simpa using hc
      conv => whnf
      refine RunR ?_
      refine (equal_fn _ _ [] [] w (Sl.nil w) h2).mono fun r w1 ⟨hr, hw⟩ => ?_
      subst hr; subst hw
      conv => whnf
      refine RunR ?_
      exact ⟨rfl, rfl⟩
    · injection he with he1 he2 he3
      subst he1; subst he3
      refine RunR ?_
      intro n' c' hn hc
      obtain rfl : n' = l2.length := by omega
      obtain rfl : c' = c := by omega
      have ht := h1.take (k := l2.length) (by simpa using hl) (c' := c') (by omega) (Nat.le_refl _)
      rw [← bv_take] at ht
      conv => whnf
      refine RunR ?_
      refine (equal_fn _ _ _ _ w ht h2).mono fun r w1 ⟨hr, hw⟩ => ?_
      subst hr; subst hw
      conv => whnf
      refine RunR ?_
      exact ⟨rfl, rfl⟩
  · refine RunR ?_
    refine ⟨?_, rfl⟩
    rw [decide_eq_false]
    intro h
    have := congrArg List.length h
    simp at this
    omega
theorem clone_fn (v : Value) (l : List UInt8) (w0 : World) (hs : Sl w0 v (bv l)) (hlen : l.length ≤ 100000000) : Fn Try.prog 44 #[v] w0 fun r w' => w'.ownsRow w0.heap.size 5 1 r l.length (bv l) ∧ Below w0.heap.size w0 w' := by
  have hL := Sep.start Try.prog w0
  have hB := Nat.le_refl w0.heap.size
  obtain ⟨a, c, rfl⟩ := hs.shape
  simp only [bv_length] at *
  refine Fn.mk Try.func44 rfl (by kernel_rfl) Try.ntmps44 rfl (by rw [Try.results44]) ?_
  cases a with
  | none =>
    obtain rfl : l = [] := by
      rcases hs.cases with ⟨he, hx⟩ | ⟨b, o, c', he, _⟩
      · simpa [bv] using hx
      · cases he
    repeat (first | (refine RunH ?_; intro w hL hB; try clear w) | (refine Both.mk ?_ ?_ <;> conv => whnf) | fail)
    exact ⟨World.ownsRow_nil w0 _ _ _, Below.refl _ _⟩
  | some ad =>
    repeat (first | (refine RunH ?_; intro w hL hB; try clear w) | (refine Both.mk ?_ ?_ <;> conv => whnf) | fail)
    refine Rv.buildS (len := 0) (vs := []) ttOk hL tl22 tl5 rfl rfl (by intro u hu; cases hu) (by decide) (by decide) hB fun bo w hL hB => ?_
    conv => whnf
    have hle := hs.le
    rw [bv_length] at hle
    refine Rv.appendS ttOk hL tl22 tl5 rfl (by decide) 0 rfl (Sl.toN (hs.below hL.below)) (bv_one _) (by simp only [maxLen, bv_length]; omega) (by rw [bv_length]; omega) hB fun vo w hL hB => ?_
    dsimp only [List.set] at hL
    conv => whnf
    repeat (first | (refine RunH ?_; intro w hL hB; try clear w) | (refine Both.mk ?_ ?_ <;> conv => whnf) | fail)
    refine ⟨?_, hL.below⟩
    have ho := own_raise (hL.at (i := 0) rfl) fun b hb => hL.own _ (List.mem_cons_self ..) b (mem_rowB.2 hb)
    simpa using ho
end Go.Proofs.Ytlldgodjfpgbcaa
