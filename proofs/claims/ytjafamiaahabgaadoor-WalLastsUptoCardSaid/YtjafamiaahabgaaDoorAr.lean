/- wal, plain: what was laid is read again. Nothing is claimed here. -/
import Derived.Test.YtjafamiaahabgaaDoorAf
namespace Go.Proofs.YtjafamiaahabgaaDoor
open Go.RowKit Go.Lib
set_option linter.unusedVariables false
set_option linter.unusedSimpArgs false
set_option maxRecDepth 100000

theorem rdG_enc : ∀ (f i v acc : Nat) (rest : List UInt8), f + i = 10 → i ≤ 9 → v * 128 ^ i < 18446744073709551616 → (i = 0 ∨ v ≠ 0) → rdG (encG f v ++ rest) i acc = (acc + v * 128 ^ i, i + (encG f v).length, 0)
  | 0, i, v, acc, rest, hf, hi, _, _ => by omega
  | f + 1, i, v, acc, rest, hf, hi, hv, h0 => by
    have h9 : i = 9 → v < 2 := fun h => by subst h; omega
    unfold encG
    by_cases h : v < 128
    · rw [if_pos h]
      have hc : (UInt8.ofNat v).toNat = v := by simp; omega
      simp only [List.cons_append, List.nil_append, rdG, hc]
      rw [if_neg (by omega), if_neg (by omega)]
      simp
    · rw [if_neg h]
      have hi9 : i ≠ 9 := fun h' => by have := h9 h'; omega
      have hc : (UInt8.ofNat (v % 128 + 128)).toNat = v % 128 + 128 := by simp; omega
      simp only [List.cons_append, rdG, hc]
      rw [if_pos (by omega), if_neg hi9, show v % 128 + 128 - 128 = v % 128 by omega]
      have hp : 128 ^ (i + 1) = 128 * 128 ^ i := by rw [Nat.pow_succ, Nat.mul_comm]
      have hm : v * 128 ^ i = v % 128 * 128 ^ i + v / 128 * 128 ^ (i + 1) := by
        rw [hp, ← Nat.mul_assoc, ← Nat.add_mul]
        congr 1
        omega
      rw [rdG_enc f (i + 1) (v / 128) _ rest (by omega) (by omega) (by omega) (.inr (by omega))]
      rw [hm]
      simp only [List.length_cons, Prod.mk.injEq, and_true]
      omega
theorem rdU_enc (v : Nat) (rest : List UInt8) (h : v < 18446744073709551616) : rdU (encU v ++ rest) = (v, (encU v).length, 0) := by
  have := rdG_enc 10 0 v 0 rest rfl (by decide) (by simpa using h) (.inl rfl)
  simpa [rdU, encU] using this
/-- the records of entries, from a number on -/
def recsW : Nat → List (List UInt8) → List UInt8
  | _, [] => []
  | n, x :: xs => encF (encU n ++ x) ++ recsW (n + 1) xs
theorem recW_len (n : Nat) (x : List UInt8) : (encF (encU n ++ x)).length = recL n x := by rw [encF_len, List.length_append, recL]; omega
theorem recsW_len : ∀ (n : Nat) (xs : List (List UInt8)), (recsW n xs).length = lenW n xs
  | _, [] => rfl
  | n, x :: xs => by rw [recsW, lenW, List.length_append, recW_len, recsW_len]
theorem recsW_snoc : ∀ (n : Nat) (xs : List (List UInt8)) (x : List UInt8), recsW n (xs ++ [x]) = recsW n xs ++ encF (encU (n + xs.length) ++ x)
  | n, [], x => by simp [recsW]
  | n, y :: xs, x => by
    rw [List.cons_append, recsW, recsW, recsW_snoc (n + 1) xs x, List.length_cons, show n + 1 + xs.length = n + (xs.length + 1) by omega, List.append_assoc]
theorem win_appW (A C : List UInt8) (k n : Nat) (h : k + n ≤ A.length) : Go.Proofs.YtjafamiaahabgaaDoor.win (A ++ C) k n = Go.Proofs.YtjafamiaahabgaaDoor.win A k n := by
  rw [Go.Proofs.YtjafamiaahabgaaDoor.win, Go.Proofs.YtjafamiaahabgaaDoor.win, List.drop_append_of_le_length (by omega), List.take_append_of_le_length (by rw [List.length_drop]; omega)]
section
variable {p : List UInt8} (hp : p.length ≤ 1048576) (C : List UInt8)
include hp
theorem decN_app : decN (encF p ++ C) = p.length := by
  rw [decN, win_appW _ _ 0 4 (by rw [encF_len]; omega)]; exact dec_n hp
theorem decP_app : decP (encF p ++ C) = p := by
  rw [decP, decN_app hp, win_appW _ _ 8 _ (by rw [encF_len]; omega)]
  have := dec_p hp
  rw [decP, dec_n hp] at this
  exact this
theorem decE_app : decE (encF p ++ C) = 0 := by
  have h := dec_e hp
  rw [decE] at h ⊢
  rw [dec_n hp, dec_p hp] at h
  rw [decN_app hp, decP_app hp, win_appW _ _ 0 4 (by rw [encF_len]; omega), win_appW _ _ 4 4 (by rw [encF_len]; omega), List.length_append]
  have hl := encF_len p
  rw [if_neg (by omega), if_neg (by omega), if_neg (by omega)] at h ⊢
  exact h
end
theorem hdW_app {n : Nat} {x : List UInt8} (hn : n < 18446744073709551616) (hx : x.length ≤ 1048566) (C : List UInt8) : hdW n (encF (encU n ++ x) ++ C) = true ∧ hdX (encF (encU n ++ x) ++ C) = x := by
  have hul := encU_len n
  have hp : (encU n ++ x).length ≤ 1048576 := by rw [List.length_append]; omega
  have hr := rdU_enc n x hn
  refine ⟨?_, ?_⟩
  · rw [hdW, decE_app hp, decP_app hp, hr]; simp
  · rw [hdX, decP_app hp, hr]
    exact List.drop_left' rfl
/-- what is behind the whole records is read as it would be alone -/
theorem rdW_recs : ∀ (xs : List (List UInt8)) (n f : Nat) (C : List UInt8), (∀ x ∈ xs, x.length ≤ 1048566) → n + xs.length < 18446744073709551616 →
    rdW (f + xs.length) n (recsW n xs ++ C) = (xs ++ (rdW f (n + xs.length) C).1, lenW n xs + (rdW f (n + xs.length) C).2)
  | [], n, f, C, _, _ => by simp [recsW, lenW]
  | x :: xs, n, f, C, hx, hn => by
    rw [List.length_cons] at hn
    obtain ⟨h1, h2⟩ := hdW_app (n := n) (x := x) (by omega) (hx x (List.mem_cons_self ..)) (recsW (n + 1) xs ++ C)
    have hne : encF (encU n ++ x) ++ (recsW (n + 1) xs ++ C) ≠ [] := by
      intro h
      have := congrArg List.length h
      rw [List.length_append, recW_len] at this
      have := recL_ge n x
      simp at *
      omega
    have ih := rdW_recs xs (n + 1) f C (fun y hy => hx y (List.mem_cons_of_mem _ hy)) (by omega)
    rw [recsW, List.append_assoc, List.length_cons, ← Nat.add_assoc, rdW, if_pos ⟨hne, h1⟩, h2]
    rw [show recL n x = (encF (encU n ++ x)).length from (recW_len n x).symm, List.drop_left' rfl, ih, recW_len, lenW, show n + 1 + xs.length = n + (xs.length + 1) by omega]
    simp [Nat.add_assoc]
theorem take_win (A : List UInt8) (k a n : Nat) (h : a + n ≤ k) : Go.Proofs.YtjafamiaahabgaaDoor.win (A.take k) a n = Go.Proofs.YtjafamiaahabgaaDoor.win A a n := by
  rw [Go.Proofs.YtjafamiaahabgaaDoor.win, Go.Proofs.YtjafamiaahabgaaDoor.win, List.drop_take, List.take_take, Nat.min_eq_left (by omega)]
/-- a torn record is none -/
theorem hdW_torn {n m k : Nat} {x : List UInt8} (hx : x.length ≤ 1048566) (hk : k < recL n x) : hdW m ((encF (encU n ++ x)).take k) = false := by
  have hul := encU_len n
  have hp : (encU n ++ x).length ≤ 1048576 := by rw [List.length_append]; omega
  have hl : ((encF (encU n ++ x)).take k).length = k := by rw [List.length_take, recW_len]; omega
  have hd : decE ((encF (encU n ++ x)).take k) = 2 := by
    rw [decE, hl]
    by_cases h8 : k < 8
    · rw [if_pos h8]
    · have hn : decN ((encF (encU n ++ x)).take k) = (encU n ++ x).length := by
        rw [decN, take_win _ _ 0 4 (by omega)]; exact dec_n hp
      have hr : recL n x = 8 + (encU n ++ x).length := by rw [← recW_len, encF_len]
      rw [if_neg h8, hn, if_neg (by omega), if_pos (by omega)]
  simp [hdW, hd]
theorem rdW_nil (f n : Nat) : rdW f n [] = ([], 0) := by
  cases f with
  | zero => rfl
  | succ f => simp [rdW]
theorem rdW_torn {n k f : Nat} {x : List UInt8} (hx : x.length ≤ 1048566) (hk : k < recL n x) : rdW f n ((encF (encU n ++ x)).take k) = ([], 0) := by
  cases f with
  | zero => rfl
  | succ f => rw [rdW, if_neg (by rw [hdW_torn hx hk]; simp)]
/-- a beginning of a segment's file says a beginning of its entries -/
theorem rdW_take : ∀ (xs : List (List UInt8)) (n k f : Nat), (∀ x ∈ xs, x.length ≤ 1048566) → n + xs.length < 18446744073709551616 → k ≤ lenW n xs → xs.length ≤ f →
    ∃ j, j ≤ xs.length ∧ rdW f n ((recsW n xs).take k) = (xs.take j, lenW n (xs.take j)) ∧ lenW n (xs.take j) ≤ k ∧ (k = lenW n xs → j = xs.length) ∧ (∀ i, lenW n (xs.take i) ≤ k → i ≤ xs.length → i ≤ j)
  | [], n, k, f, _, _, hk, _ => by
    refine ⟨0, Nat.le_refl _, ?_, by simp [lenW], fun _ => rfl, fun i _ h => h⟩
    simp [recsW, rdW_nil, lenW]
  | x :: xs, n, k, f, hx, hn, hk, hf => by
    rw [List.length_cons] at hn hf
    have hxl := hx x (List.mem_cons_self ..)
    by_cases hr : k < recL n x
    · refine ⟨0, Nat.zero_le _, ?_, by simp [lenW], fun h => ?_, fun i hi hil => ?_⟩
      · rw [recsW, List.take_append_of_le_length (by rw [recW_len]; omega), rdW_torn hxl hr]
        simp [lenW]
      · rw [h, lenW] at hr; omega
      · cases i with
        | zero => exact Nat.le_refl _
        | succ i => rw [List.take_succ_cons, lenW] at hi; omega
    · obtain ⟨f, rfl⟩ : ∃ g, f = g + 1 := ⟨f - 1, by omega⟩
      rw [lenW] at hk
      obtain ⟨j, h1, h2, h3, h4, h5⟩ := rdW_take xs (n + 1) (k - recL n x) f (fun y hy => hx y (List.mem_cons_of_mem _ hy)) (by omega) (by omega) (by omega)
      obtain ⟨g1, g2⟩ := hdW_app (n := n) (x := x) (by omega) hxl ((recsW (n + 1) xs).take (k - recL n x))
      have he : (recsW n (x :: xs)).take k = encF (encU n ++ x) ++ (recsW (n + 1) xs).take (k - recL n x) := by
        rw [recsW, List.take_append, recW_len, List.take_of_length_le (by rw [recW_len]; omega)]
      have hne : encF (encU n ++ x) ++ (recsW (n + 1) xs).take (k - recL n x) ≠ [] := by
        intro h
        have := congrArg List.length h
        rw [List.length_append, recW_len] at this
        have := recL_ge n x
        simp at *
        omega
      refine ⟨j + 1, by rw [List.length_cons]; omega, ?_, ?_, fun h => ?_, fun i hi hil => ?_⟩
      · rw [he, rdW, if_pos ⟨hne, g1⟩, g2, show recL n x = (encF (encU n ++ x)).length from (recW_len n x).symm, List.drop_left' rfl, recW_len, h2, List.take_succ_cons, lenW]
      · rw [List.take_succ_cons, lenW]; omega
      · rw [lenW] at h
        rw [List.length_cons, h4 (by omega)]
      · cases i with
        | zero => exact Nat.zero_le _
        | succ i =>
          rw [List.take_succ_cons, lenW] at hi
          rw [List.length_cons] at hil
          have := h5 i (by omega) (by omega)
          omega
end Go.Proofs.YtjafamiaahabgaaDoor
