/- wal, plain: what was laid is read again. wal, plain: a segment's name says its number. Nothing is claimed here. -/
import Derived.Test.YtjafamiaahabgaaGreatDoorK14
namespace Go.Proofs.YtjafamiaahabgaaGreatDoor
open Go.RowKit Go.Lib
set_option linter.unusedVariables false
set_option linter.unusedSimpArgs false
set_option maxRecDepth 100000

theorem rdG_enc : ∀ (f i v acc : Nat) (rest : List UInt8), f + i = 10 → i ≤ 9 → v * 128 ^ i < 18446744073709551616 → (i = 0 ∨ v ≠ 0) → rdG (encG f v ++ rest) i acc = (acc + v * 128 ^ i, i + (encG f v).length, 0)
  | 0, i, v, acc, rest, hf, hi, _, _ => by omega
  | f + 1, i, v, acc, rest, hf, hi, hv, h0 => by
    have h9 : i = 9 → v < 2 := fun h => by subst h; omega
    unfold encG
    by_cases h : v < 128
    · rw [if_pos h]
      have hc : (UInt8.ofNat v).toNat = v := by simp; omega
      simp only [List.cons_append, List.nil_append, rdG, hc]
      rw [if_neg (by omega), if_neg (by omega)]
      simp
    · rw [if_neg h]
      have hi9 : i ≠ 9 := fun h' => by have := h9 h'; omega
      have hc : (UInt8.ofNat (v % 128 + 128)).toNat = v % 128 + 128 := by simp; omega
      simp only [List.cons_append, rdG, hc]
      rw [if_pos (by omega), if_neg hi9, show v % 128 + 128 - 128 = v % 128 by omega]
      have hp : 128 ^ (i + 1) = 128 * 128 ^ i := by rw [Nat.pow_succ, Nat.mul_comm]
      have hm : v * 128 ^ i = v % 128 * 128 ^ i + v / 128 * 128 ^ (i + 1) := by
        rw [hp, ← Nat.mul_assoc, ← Nat.add_mul]
        congr 1
        omega
      rw [rdG_enc f (i + 1) (v / 128) _ rest (by omega) (by omega) (by omega) (.inr (by omega))]
      rw [hm]
      simp only [List.length_cons, Prod.mk.injEq, and_true]
      omega
theorem rdU_enc (v : Nat) (rest : List UInt8) (h : v < 18446744073709551616) : rdU (encU v ++ rest) = (v, (encU v).length, 0) := by
  have := rdG_enc 10 0 v 0 rest rfl (by decide) (by simpa using h) (.inl rfl)
  simpa [rdU, encU] using this
/-- the records of entries, from a number on -/
def recsW : Nat → List (List UInt8) → List UInt8
  | _, [] => []
  | n, x :: xs => encF (encU n ++ x) ++ recsW (n + 1) xs
theorem recW_len (n : Nat) (x : List UInt8) : (encF (encU n ++ x)).length = recL n x := by rw [encF_len, List.length_append, recL]; omega
theorem recsW_len : ∀ (n : Nat) (xs : List (List UInt8)), (recsW n xs).length = lenW n xs
  | _, [] => rfl
  | n, x :: xs => by rw [recsW, lenW, List.length_append, recW_len, recsW_len]
theorem recsW_snoc : ∀ (n : Nat) (xs : List (List UInt8)) (x : List UInt8), recsW n (xs ++ [x]) = recsW n xs ++ encF (encU (n + xs.length) ++ x)
  | n, [], x => by simp [recsW]
  | n, y :: xs, x => by
    rw [List.cons_append, recsW, recsW, recsW_snoc (n + 1) xs x, List.length_cons, show n + 1 + xs.length = n + (xs.length + 1) by omega, List.append_assoc]
theorem win_appW (A C : List UInt8) (k n : Nat) (h : k + n ≤ A.length) : Go.Proofs.YtjafamiaahabgaaGreatDoor.win (A ++ C) k n = Go.Proofs.YtjafamiaahabgaaGreatDoor.win A k n := by
  rw [Go.Proofs.YtjafamiaahabgaaGreatDoor.win, Go.Proofs.YtjafamiaahabgaaGreatDoor.win, List.drop_append_of_le_length (by omega), List.take_append_of_le_length (by rw [List.length_drop]; omega)]
section
variable {p : List UInt8} (hp : p.length ≤ 1048576) (C : List UInt8)
include hp
theorem decN_app : decN (encF p ++ C) = p.length := by
  rw [decN, win_appW _ _ 0 4 (by rw [encF_len]; omega)]; exact dec_n hp
theorem decP_app : decP (encF p ++ C) = p := by
  rw [decP, decN_app hp, win_appW _ _ 8 _ (by rw [encF_len]; omega)]
  have := dec_p hp
  rw [decP, dec_n hp] at this
  exact this
theorem decE_app : decE (encF p ++ C) = 0 := by
  have h := dec_e hp
  rw [decE] at h ⊢
  rw [dec_n hp, dec_p hp] at h
  rw [decN_app hp, decP_app hp, win_appW _ _ 0 4 (by rw [encF_len]; omega), win_appW _ _ 4 4 (by rw [encF_len]; omega), List.length_append]
  have hl := encF_len p
  rw [if_neg (by omega), if_neg (by omega), if_neg (by omega)] at h ⊢
  exact h
end
theorem hdW_app {n : Nat} {x : List UInt8} (hn : n < 18446744073709551616) (hx : x.length ≤ 1048566) (C : List UInt8) : hdW n (encF (encU n ++ x) ++ C) = true ∧ hdX (encF (encU n ++ x) ++ C) = x := by
  have hul := encU_len n
  have hp : (encU n ++ x).length ≤ 1048576 := by rw [List.length_append]; omega
  have hr := rdU_enc n x hn
  refine ⟨?_, ?_⟩
  · rw [hdW, decE_app hp, decP_app hp, hr]; simp
  · rw [hdX, decP_app hp, hr]
    exact List.drop_left' rfl
/-- what is behind the whole records is read as it would be alone -/
theorem rdW_recs : ∀ (xs : List (List UInt8)) (n f : Nat) (C : List UInt8), (∀ x ∈ xs, x.length ≤ 1048566) → n + xs.length < 18446744073709551616 →
    rdW (f + xs.length) n (recsW n xs ++ C) = (xs ++ (rdW f (n + xs.length) C).1, lenW n xs + (rdW f (n + xs.length) C).2)
  | [], n, f, C, _, _ => by simp [recsW, lenW]
  | x :: xs, n, f, C, hx, hn => by
    rw [List.length_cons] at hn
    obtain ⟨h1, h2⟩ := hdW_app (n := n) (x := x) (by omega) (hx x (List.mem_cons_self ..)) (recsW (n + 1) xs ++ C)
    have hne : encF (encU n ++ x) ++ (recsW (n + 1) xs ++ C) ≠ [] := by
      intro h
      have := congrArg List.length h
      rw [List.length_append, recW_len] at this
      have := recL_ge n x
      simp at *
      omega
    have ih := rdW_recs xs (n + 1) f C (fun y hy => hx y (List.mem_cons_of_mem _ hy)) (by omega)
    rw [recsW, List.append_assoc, List.length_cons, ← Nat.add_assoc, rdW, if_pos ⟨hne, h1⟩, h2]
    rw [show recL n x = (encF (encU n ++ x)).length from (recW_len n x).symm, List.drop_left' rfl, ih, recW_len, lenW, show n + 1 + xs.length = n + (xs.length + 1) by omega]
    simp [Nat.add_assoc]
theorem take_win (A : List UInt8) (k a n : Nat) (h : a + n ≤ k) : Go.Proofs.YtjafamiaahabgaaGreatDoor.win (A.take k) a n = Go.Proofs.YtjafamiaahabgaaGreatDoor.win A a n := by
  rw [Go.Proofs.YtjafamiaahabgaaGreatDoor.win, Go.Proofs.YtjafamiaahabgaaGreatDoor.win, List.drop_take, List.take_take, Nat.min_eq_left (by omega)]
/-- a torn record is none -/
theorem hdW_torn {n m k : Nat} {x : List UInt8} (hx : x.length ≤ 1048566) (hk : k < recL n x) : hdW m ((encF (encU n ++ x)).take k) = false := by
  have hul := encU_len n
  have hp : (encU n ++ x).length ≤ 1048576 := by rw [List.length_append]; omega
  have hl : ((encF (encU n ++ x)).take k).length = k := by rw [List.length_take, recW_len]; omega
  have hd : decE ((encF (encU n ++ x)).take k) = 2 := by
    rw [decE, hl]
    by_cases h8 : k < 8
    · rw [if_pos h8]
    · have hn : decN ((encF (encU n ++ x)).take k) = (encU n ++ x).length := by
        rw [decN, take_win _ _ 0 4 (by omega)]; exact dec_n hp
      have hr : recL n x = 8 + (encU n ++ x).length := by rw [← recW_len, encF_len]
      rw [if_neg h8, hn, if_neg (by omega), if_pos (by omega)]
  simp [hdW, hd]
theorem rdW_nil (f n : Nat) : rdW f n [] = ([], 0) := by
  cases f with
  | zero => rfl
  | succ f => simp [rdW]
theorem rdW_torn {n k f : Nat} {x : List UInt8} (hx : x.length ≤ 1048566) (hk : k < recL n x) : rdW f n ((encF (encU n ++ x)).take k) = ([], 0) := by
  cases f with
  | zero => rfl
  | succ f => rw [rdW, if_neg (by rw [hdW_torn hx hk]; simp)]
/-- a beginning of a segment's file says a beginning of its entries -/
theorem rdW_take : ∀ (xs : List (List UInt8)) (n k f : Nat), (∀ x ∈ xs, x.length ≤ 1048566) → n + xs.length < 18446744073709551616 → k ≤ lenW n xs → xs.length ≤ f →
    ∃ j, j ≤ xs.length ∧ rdW f n ((recsW n xs).take k) = (xs.take j, lenW n (xs.take j)) ∧ lenW n (xs.take j) ≤ k ∧ (k = lenW n xs → j = xs.length) ∧ (∀ i, lenW n (xs.take i) ≤ k → i ≤ xs.length → i ≤ j)
  | [], n, k, f, _, _, hk, _ => by
    refine ⟨0, Nat.le_refl _, ?_, by simp [lenW], fun _ => rfl, fun i _ h => h⟩
    simp [recsW, rdW_nil, lenW]
  | x :: xs, n, k, f, hx, hn, hk, hf => by
    rw [List.length_cons] at hn hf
    have hxl := hx x (List.mem_cons_self ..)
    by_cases hr : k < recL n x
    · refine ⟨0, Nat.zero_le _, ?_, by simp [lenW], fun h => ?_, fun i hi hil => ?_⟩
      · rw [recsW, List.take_append_of_le_length (by rw [recW_len]; omega), rdW_torn hxl hr]
        simp [lenW]
      · rw [h, lenW] at hr; omega
      · cases i with
        | zero => exact Nat.le_refl _
        | succ i => rw [List.take_succ_cons, lenW] at hi; omega
    · obtain ⟨f, rfl⟩ : ∃ g, f = g + 1 := ⟨f - 1, by omega⟩
      rw [lenW] at hk
      obtain ⟨j, h1, h2, h3, h4, h5⟩ := rdW_take xs (n + 1) (k - recL n x) f (fun y hy => hx y (List.mem_cons_of_mem _ hy)) (by omega) (by omega) (by omega)
      obtain ⟨g1, g2⟩ := hdW_app (n := n) (x := x) (by omega) hxl ((recsW (n + 1) xs).take (k - recL n x))
      have he : (recsW n (x :: xs)).take k = encF (encU n ++ x) ++ (recsW (n + 1) xs).take (k - recL n x) := by
        rw [recsW, List.take_append, recW_len, List.take_of_length_le (by rw [recW_len]; omega)]
      have hne : encF (encU n ++ x) ++ (recsW (n + 1) xs).take (k - recL n x) ≠ [] := by
        intro h
        have := congrArg List.length h
        rw [List.length_append, recW_len] at this
        have := recL_ge n x
        simp at *
        omega
      refine ⟨j + 1, by rw [List.length_cons]; omega, ?_, ?_, fun h => ?_, fun i hi hil => ?_⟩
      · rw [he, rdW, if_pos ⟨hne, g1⟩, g2, show recL n x = (encF (encU n ++ x)).length from (recW_len n x).symm, List.drop_left' rfl, recW_len, h2, List.take_succ_cons, lenW]
      · rw [List.take_succ_cons, lenW]; omega
      · rw [lenW] at h
        rw [List.length_cons, h4 (by omega)]
      · cases i with
        | zero => exact Nat.zero_le _
        | succ i =>
          rw [List.take_succ_cons, lenW] at hi
          rw [List.length_cons] at hil
          have := h5 i (by omega) (by omega)
          omega
end Go.Proofs.YtjafamiaahabgaaGreatDoor
namespace Go.Proofs.YtjafamiaahabgaaGreatDoor
open Go.RowKit Go.Lib
set_option linter.unusedVariables false
set_option linter.unusedSimpArgs false
set_option maxRecDepth 100000

theorem numL_snoc (l : List UInt8) (c : UInt8) : numL (l ++ [c]) = numL l * 10 + (c.toNat - 48) := by simp [numL]
theorem numL_zeros : ∀ (k : Nat) (l : List UInt8), numL (List.replicate k 48 ++ l) = numL l
  | 0, l => by simp
  | k + 1, l => by
    have := numL_zeros k l
    simp only [numL, List.replicate_succ, List.cons_append, List.foldl_cons] at this ⊢
    simpa using this
theorem dec_num : ∀ (f u : Nat), u < 10 ^ (f + 1) → numL (decDigits u) = u ∧ (decDigits u).all isDig = true
  | 0, u, h => by
    rw [decDigits, dif_pos (by simpa using h)]
    have h10 : u < 10 := by simpa using h
    have hc : (UInt8.ofNat (48 + u)).toNat = 48 + u := by simp; omega
    refine ⟨?_, ?_⟩
    · simp [numL]; omega
    · simp [isDig]; omega
  | f + 1, u, h => by
    rw [decDigits]
    split
    · rename_i h10
      refine ⟨?_, ?_⟩
      · simp [numL]; omega
      · simp [isDig]; omega
    · have h2 : u / 10 < 10 ^ (f + 1) := by
        rw [Nat.pow_succ] at h
        omega
      obtain ⟨a, b⟩ := dec_num f (u / 10) h2
      refine ⟨?_, ?_⟩
      · rw [numL_snoc, a]
        simp; omega
      · rw [List.all_append, b]
        simp [isDig]; omega
theorem dig8_num {n : Nat} (h : n ≤ 99999999) : numL (dig8 n) = n ∧ (dig8 n).all isDig = true := by
  obtain ⟨a, b⟩ := dec_num 7 n (by omega)
  rw [dig8]
  refine ⟨by rw [numL_zeros, a], ?_⟩
  rw [List.all_append, b, Bool.and_true]
  exact List.all_eq_true.2 fun x hx => by rw [List.eq_of_mem_replicate hx]; decide
theorem nmB_wnm (pre : ByteArray) (n : Nat) : nmB (wnm pre n) = nmB pre ++ [46] ++ dig8 n := by
  simp [wnm, nmB]
theorem numG_wnm {pre : ByteArray} {n : Nat} (h : n ≤ 99999999) : numG pre (wnm pre n) = some n := by
  have hs := wnm_size (pre := pre) h
  have hl : (nmB pre).length = pre.size := Array.length_toList
  have hd : (nmB (wnm pre n)).drop (pre.size + 1) = dig8 n := by
    rw [nmB_wnm, List.drop_left' (by rw [List.length_append, hl]; rfl)]
  have hz : (pre ++ ⟨#[46]⟩ : ByteArray).size = pre.size + 1 := by rw [ByteArray.size_append]; rfl
  have hh : hasP (wnm pre n) (pre ++ ⟨#[46]⟩) = true := by
    rw [hasP, decide_eq_true_eq, hz]
    refine ⟨by omega, ?_⟩
    apply nmB_inj
    rw [nmB, ByteArray.data_extract, Array.toList_extract, List.extract_eq_take_drop]
    have := nmB_wnm pre n
    rw [nmB] at this
    rw [this]
    simp only [List.drop_zero, Nat.sub_zero]
    rw [List.take_left' (by rw [List.length_append, hl]; rfl)]
    simp [nmB]
  rw [numG, hd, if_pos ⟨hh, hs, (dig8_num h).2⟩, (dig8_num h).1]
theorem wnm_inj {pre : ByteArray} {n m : Nat} (hn : n ≤ 99999999) (hm : m ≤ 99999999) (h : wnm pre n = wnm pre m) : n = m := by
  have h1 := numG_wnm (pre := pre) hn
  rw [h, numG_wnm hm] at h1
  injection h1 with h1
  exact h1.symm
theorem num_ge : ∀ (l : List UInt8) (a : Nat), a * 10 ^ l.length ≤ l.foldl (fun n c => n * 10 + (c.toNat - 48)) a
  | [], a => by simp
  | c :: l, a => by
    have := num_ge l (a * 10 + (c.toNat - 48))
    rw [List.foldl_cons, List.length_cons, Nat.pow_succ]
    have h2 : a * 10 * 10 ^ l.length ≤ (a * 10 + (c.toNat - 48)) * 10 ^ l.length := Nat.mul_le_mul_right _ (by omega)
    calc a * (10 ^ l.length * 10) = a * 10 * 10 ^ l.length := by rw [Nat.mul_assoc, Nat.mul_comm 10]
      _ ≤ _ := h2
      _ ≤ _ := this
theorem lt_num : ∀ (a b : List UInt8) (k : Nat), a.length = b.length → a.all isDig = true → b.all isDig = true → b < a → b.foldl (fun n c => n * 10 + (c.toNat - 48)) k < a.foldl (fun n c => n * 10 + (c.toNat - 48)) k
  | [], [], _, _, _, _, h => by simp at h
  | c :: a, e :: b, k, hl, ha, hb, h => by
    simp only [List.all_cons, Bool.and_eq_true] at ha hb
    rw [List.length_cons, List.length_cons] at hl
    have hc : 48 ≤ c.toNat ∧ c.toNat ≤ 57 := by simpa [isDig] using ha.1
    have he : 48 ≤ e.toNat ∧ e.toNat ≤ 57 := by simpa [isDig] using hb.1
    rw [List.foldl_cons, List.foldl_cons]
    rcases List.cons_lt_cons_iff.1 h with h1 | ⟨rfl, h1⟩
    · have h1 : e.toNat < c.toNat := h1
      have u := numL_lt b hb.2 (k * 10 + (e.toNat - 48))
      have v := num_ge a (k * 10 + (c.toNat - 48))
      have w : (k * 10 + (e.toNat - 48) + 1) * 10 ^ b.length ≤ (k * 10 + (c.toNat - 48)) * 10 ^ a.length := by
        rw [show a.length = b.length by omega]
        exact Nat.mul_le_mul_right _ (by omega)
      omega
    · exact lt_num a b _ (by omega) ha.2 hb.2 h1
theorem app_lt : ∀ (p : List UInt8) {a b : List UInt8}, p ++ a < p ++ b → a < b
  | [], _, _, h => h
  | c :: p, a, b, h => by
    rcases List.cons_lt_cons_iff.1 (show c :: (p ++ a) < c :: (p ++ b) from h) with h1 | ⟨_, h1⟩
    · exact absurd h1 (by simp)
    · exact app_lt p h1
/-- names stand in the order of their numbers -/
theorem wnm_le {pre : ByteArray} {n m : Nat} (hn : n ≤ 99999999) (hm : m ≤ 99999999) (h : n ≤ m) : nmB (wnm pre n) ≤ nmB (wnm pre m) := by
  refine Decidable.byContradiction fun hc => ?_
  have hlt : nmB (wnm pre m) < nmB (wnm pre n) := List.not_le.1 hc
  rw [nmB_wnm, nmB_wnm] at hlt
  have h1 := lt_num (dig8 n) (dig8 m) 0 (by rw [dig8_len hn, dig8_len hm]) (dig8_num hn).2 (dig8_num hm).2 (app_lt _ hlt)
  have h2 := (dig8_num hn).1
  have h3 := (dig8_num hm).1
  unfold numL at h2 h3
  omega
/-- a segment's file, and what of it lasts -/
def fileW (pre : ByteArray) (g : Wg × Nat) : Fl := ⟨wnm pre g.1.first, recsW g.1.first g.1.es, g.2⟩
theorem names_W {pre : ByteArray} {H : List (Wg × Nat)} (hf : ∀ g ∈ H, g.1.first ≤ 99999999) (hr : H.Pairwise fun a b => a.1.first ≤ b.1.first) : names (H.map (fileW pre)) = H.map fun g => nmB (wnm pre g.1.first) := by
  rw [names, List.map_map]
  refine List.mergeSort_of_pairwise ?_
  rw [List.pairwise_map]
  refine hr.imp_of_mem fun ha hb h => ?_
  exact decide_eq_true (wnm_le (hf _ ha) (hf _ hb) h)
end Go.Proofs.YtjafamiaahabgaaGreatDoor
