/- Plan: the code's lives, living, whole, size, Contains, Index, Clone. Nothing is claimed here. -/
import Derived.Test.YthifnfoppamkiaaIn
namespace Go.Proofs.Ythifnfoppamkiaa
open Go.RowKit
set_option linter.unusedVariables false
set_option linter.unusedSimpArgs false
set_option maxRecDepth 100000

def wdC (v lv : Value) (ld : Int → Nat) (sv : Value) (c : PC) : List Value := v :: lv :: (loadC ld ++ (sv :: cfC c))
theorem lives_fn (bw : Nat) (v lv sv : Value) (ld : Int → Nat) (c : PC) (live : List Bool) (n : Int) (w0 : World) (hC : Blk w0 bw (wdC v lv ld sv c) 55) (h : SlE w0 lv (boolC live)) :
    Fn Try.prog 37 #[.pointer (some ⟨bw, 0, none⟩), .int .i64 n] w0 fun r w' => r = .bool (liveS live n) ∧ w' = w0 := by
  obtain ⟨va, vc, rfl⟩ := h.shape
  have hL := Sep.start Try.prog w0
  have hB := Nat.le_refl w0.heap.size
  rw [boolC_len] at h hC
  refine Fn.mk Try.func37 rfl (by kernel_rfl) Try.ntmps37 rfl (by rw [Try.results37]) ?_
  by_cases h0 : 0 ≤ n
  · by_cases h2 : n < 64
    · by_cases h1 : n < live.length
      · obtain ⟨m, rfl⟩ := Int.eq_ofNat_of_zero_le h0
        obtain ⟨b, o, rfl, hr⟩ := h.sl.toN.addr (by omega)
        have hge : live[m]? = some live[m] := List.getElem?_eq_getElem (by omega)
        generalize live[m] = x at hge
        repeat (first | (refine RunH ?_; intro w hL hB; try clear w) | (refine Both.mk ?_ ?_ <;> conv => whnf) | fail)
        intro o' ho'
        conv => whnf
        repeat (first | (refine RunH ?_; intro w hL hB; try clear w) | (refine Both.mk ?_ ?_ <;> conv => whnf) | fail)
        refine Ld.row1 ttOk hr rfl rfl (k := m) (boolC_get hge) (by omega) ?_
        conv => whnf
        repeat (first | (refine RunH ?_; intro w hL hB; try clear w) | (refine Both.mk ?_ ?_ <;> conv => whnf) | fail)
        exact ⟨by rw [liveS_at h0 h2 (b := x) (by simpa using hge)], rfl⟩
      · rw [liveS_no (by omega)]
        repeat (first | (refine RunH ?_; intro w hL hB; try clear w) | (refine Both.mk ?_ ?_ <;> conv => whnf) | fail)
        exact ⟨rfl, rfl⟩
    · rw [liveS_no (by omega)]
      repeat (first | (refine RunH ?_; intro w hL hB; try clear w) | (refine Both.mk ?_ ?_ <;> conv => whnf) | fail)
      exact ⟨rfl, rfl⟩
  · rw [liveS_no (by omega)]
    repeat (first | (refine RunH ?_; intro w hL hB; try clear w) | (refine Both.mk ?_ ?_ <;> conv => whnf) | fail)
    exact ⟨rfl, rfl⟩
theorem size_fn (bw : Nat) (v lv sv : Value) (ld : Int → Nat) (c : PC) (ss : List Int) (i : Nat) (w0 : World) (hC : Blk w0 bw (wdC v lv ld sv c) 55) (h : SlE w0 sv (numC ss)) :
    Fn Try.prog 39 #[.pointer (some ⟨bw, 0, none⟩), .int .i64 i] w0 fun r w' => r = .int .i64 (sizeS ss i) ∧ w' = w0 := by
  obtain ⟨va, vc, rfl⟩ := h.shape
  rw [numC_len] at h hC
  have hL := Sep.start Try.prog w0
  have hB := Nat.le_refl w0.heap.size
  refine Fn.mk Try.func39 rfl (by kernel_rfl) Try.ntmps39 rfl (by rw [Try.results39]) ?_
  by_cases hlt : i < ss.length
  · obtain ⟨b, o, rfl, hr⟩ := h.sl.toN.addr (by omega)
    have hge : ss[i]? = some ss[i] := List.getElem?_eq_getElem hlt
    generalize ss[i] = x at hge
    repeat (first | (refine RunH ?_; intro w hL hB; try clear w) | (refine Both.mk ?_ ?_ <;> conv => whnf) | fail)
    intro o' ho'
    conv => whnf
    refine Ld.row1 ttOk hr rfl rfl (k := i) (numC_get hge) (by omega) ?_
    conv => whnf
    repeat (first | (refine RunH ?_; intro w hL hB; try clear w) | (refine Both.mk ?_ ?_ <;> conv => whnf) | fail)
    exact ⟨by rw [sizeS, hge]; rfl, rfl⟩
  · repeat (first | (refine RunH ?_; intro w hL hB; try clear w) | (refine Both.mk ?_ ?_ <;> conv => whnf) | fail)
    exact ⟨by rw [sizeS, List.getElem?_eq_none (by omega)]; rfl, rfl⟩
theorem index_fn (v : Value) (ns : List Int) (n : Int) (w0 : World) (h : SlE w0 v (numC ns)) : Fn Try.prog 49 #[v, .int .i64 n] w0 fun r w' => (∃ k : Int, r = .int .i64 k ∧ decide (0 ≤ k) = ns.contains n) ∧ w' = w0 := by
  obtain ⟨va, vc, rfl⟩ := h.shape
  have hle := h.le
  rw [numC_len] at h hle ⊢
  have hL := Sep.start Try.prog w0
  have hB := Nat.le_refl w0.heap.size
  refine Fn.mk Try.func49 rfl (by kernel_rfl) Try.ntmps49 rfl (by rw [Try.results49]) ?_
  repeat (first | (refine RunH ?_; intro w hL hB; try clear w) | (refine Both.mk ?_ ?_ <;> conv => whnf) | fail)
  refine V.loop (α := Nat) (fun z => [(0, .slice va ns.length vc), (1, .int .i64 n), (7, .int .i64 ns.length), (8, .int .i64 z)])
    (fun z w' => z ≤ ns.length ∧ w' = w0 ∧ n ∉ ns.take z) (fun z => ns.length - z) 0 ⟨rfl, rfl, rfl, rfl, trivial⟩ ⟨by simp, rfl, by simp⟩ ?_
  rintro i w ⟨hi, rfl, hn⟩
  dsimp only at *
  repeat (first | (refine RunH ?_; intro w hL hB; try clear w) | (refine Both.mk ?_ ?_ <;> conv => whnf) | fail)
  refine Br.dec (fun hlt => ?_) (fun hlt => ?_)
  · have hie : i < ns.length := by omega
    obtain ⟨b, o, rfl, hr⟩ := h.sl.toN.addr (by omega)
    have hge : ns[i]? = some ns[i] := List.getElem?_eq_getElem hie
    generalize ns[i] = x at hge
    repeat (first | (refine RunH ?_; intro w hL hB; try clear w) | (refine Both.mk ?_ ?_ <;> conv => whnf) | fail)
    intro o' ho'
    conv => whnf
    refine Ld.row1 ttOk hr rfl rfl (k := i) (numC_get hge) (by omega) ?_
    conv => whnf
    repeat (first | (refine RunH ?_; intro w hL hB; try clear w) | (refine Both.mk ?_ ?_ <;> conv => whnf) | fail)
    refine Br.dec (fun he => ?_) (fun he => ?_)
    · repeat (first | (refine RunH ?_; intro w hL hB; try clear w) | (refine Both.mk ?_ ?_ <;> conv => whnf) | fail)
      refine ⟨⟨_, rfl, ?_⟩, rfl⟩
      subst he
      have : n ∈ ns := List.mem_of_getElem? hge
      simp [this]
    · repeat (first | (refine RunH ?_; intro w hL hB; try clear w) | (refine Both.mk ?_ ?_ <;> conv => whnf) | fail)
      refine ⟨i + 1, ⟨rfl, rfl, rfl, rfl, trivial⟩, ⟨hie, rfl, ?_⟩, (by first | omega | (dsimp only; omega))⟩
      obtain ⟨_, hg⟩ := List.getElem?_eq_some_iff.1 hge
      rw [List.take_succ_eq_append_getElem hie, hg]
      simp only [List.mem_append, List.mem_singleton, not_or]
      exact ⟨hn, fun e => he e⟩
  · obtain rfl : i = ns.length := by omega
    rw [List.take_length] at hn
    repeat (first | (refine RunH ?_; intro w hL hB; try clear w) | (refine Both.mk ?_ ?_ <;> conv => whnf) | fail)
    exact ⟨⟨_, rfl, by simp [hn]⟩, rfl⟩
theorem contains_fn (v : Value) (ns : List Int) (n : Int) (w0 : World) (h : SlE w0 v (numC ns)) : Fn Try.prog 43 #[v, .int .i64 n] w0 fun r w' => r = .bool (ns.contains n) ∧ w' = w0 := by
  have hL := Sep.start Try.prog w0
  have hB := Nat.le_refl w0.heap.size
  refine Fn.mk Try.func43 rfl (by kernel_rfl) Try.ntmps43 rfl (by rw [Try.results43]) ?_
  repeat (first | (refine RunH ?_; intro w hL hB; try clear w) | (refine Both.mk ?_ ?_ <;> conv => whnf) | fail)
  refine (index_fn v ns n w0 h).mono fun r w hr => ?_
  obtain ⟨⟨k, rfl, hk⟩, rfl⟩ := hr
  conv => whnf
  repeat (first | (refine RunH ?_; intro w hL hB; try clear w) | (refine Both.mk ?_ ?_ <;> conv => whnf) | fail)
  exact ⟨by rw [← hk], rfl⟩
theorem cloneC_fn (v : Value) (ns : List Int) (w0 : World) (h : SlE w0 v (numC ns)) (hn : ns.length ≤ 1000) : Fn Try.prog 36 #[v] w0 fun r w' => OwnN w0 r ns w' := by
  obtain ⟨va, vc, rfl⟩ := h.shape
  have hL := Sep.start Try.prog w0
  have hB := Nat.le_refl w0.heap.size
  refine Fn.mk Try.func36 rfl (by kernel_rfl) Try.ntmps36 rfl (by rw [Try.results36]) ?_
  repeat (first | (refine RunH ?_; intro w hL hB; try clear w) | (refine Both.mk ?_ ?_ <;> conv => whnf) | fail)
  cases va with
  | none =>
    have hn0 : ns.length = 0 := by
      rcases h.sl.cases with ⟨e, h0⟩ | ⟨ad, c, e, _⟩
      · have := congrArg List.length h0; simpa [numC] using this
      · cases e
    have hnn : ns = [] := List.length_eq_zero_iff.1 hn0
    subst hnn
    repeat (first | (refine RunH ?_; intro w hL hB; try clear w) | (refine Both.mk ?_ ?_ <;> conv => whnf) | fail)
    exact ⟨(hL.nilRow 3 1).ownR (i := 0) rfl, hL.below⟩
  | some a =>
    repeat (first | (refine RunH ?_; intro w hL hB; try clear w) | (refine Both.mk ?_ ?_ <;> conv => whnf) | fail)
    refine Rv.buildS ttOk hL tl24 tl3 rfl rfl (by simp [cellsL]) (by decide) (by decide) hB fun bo w hL hB => ?_
    conv => whnf
    refine Rv.appendS ttOk hL tl24 tl3 rfl (by decide) 0 rfl ((h.below hL.below).sl.toN) (numC_one _) (by rw [numC_len]; simp only [maxLen]; omega) (by rw [numC_len]; omega) hB fun vo w hL hB => ?_
    dsimp only [List.set] at hL
    conv => whnf
    repeat (first | (refine RunH ?_; intro w hL hB; try clear w) | (refine Both.mk ?_ ?_ <;> conv => whnf) | fail)
    rw [Nat.zero_add, numC_len, List.flatMap_nil, List.nil_append] at hL
    exact ⟨hL.ownR (i := 0) rfl, hL.below⟩
end Go.Proofs.Ythifnfoppamkiaa
