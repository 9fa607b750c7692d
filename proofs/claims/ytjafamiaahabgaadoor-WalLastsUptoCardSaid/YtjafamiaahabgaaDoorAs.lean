/- wal, plain: a segment's name says its number. Nothing is claimed here. -/
import Derived.Test.YtjafamiaahabgaaDoorAr
namespace Go.Proofs.YtjafamiaahabgaaDoor
open Go.RowKit Go.Lib
set_option linter.unusedVariables false
set_option linter.unusedSimpArgs false
set_option maxRecDepth 100000

theorem numL_snoc (l : List UInt8) (c : UInt8) : numL (l ++ [c]) = numL l * 10 + (c.toNat - 48) := by simp [numL]
theorem numL_zeros : ∀ (k : Nat) (l : List UInt8), numL (List.replicate k 48 ++ l) = numL l
  | 0, l => by simp
  | k + 1, l => by
    have := numL_zeros k l
    simp only [numL, List.replicate_succ, List.cons_append, List.foldl_cons] at this ⊢
    simpa using this
theorem dec_num : ∀ (f u : Nat), u < 10 ^ (f + 1) → numL (decDigits u) = u ∧ (decDigits u).all isDig = true
  | 0, u, h => by
    rw [decDigits, dif_pos (by simpa using h)]
    have h10 : u < 10 := by simpa using h
    have hc : (UInt8.ofNat (48 + u)).toNat = 48 + u := by simp; omega
    refine ⟨?_, ?_⟩
    · simp [numL]; omega
    · simp [isDig]; omega
  | f + 1, u, h => by
    rw [decDigits]
    split
    · rename_i h10
      refine ⟨?_, ?_⟩
      · simp [numL]; omega
      · simp [isDig]; omega
    · have h2 : u / 10 < 10 ^ (f + 1) := by
        rw [Nat.pow_succ] at h
        omega
      obtain ⟨a, b⟩ := dec_num f (u / 10) h2
      refine ⟨?_, ?_⟩
      · rw [numL_snoc, a]
        simp; omega
      · rw [List.all_append, b]
        simp [isDig]; omega
theorem dig8_num {n : Nat} (h : n ≤ 99999999) : numL (dig8 n) = n ∧ (dig8 n).all isDig = true := by
  obtain ⟨a, b⟩ := dec_num 7 n (by omega)
  rw [dig8]
  refine ⟨by rw [numL_zeros, a], ?_⟩
  rw [List.all_append, b, Bool.and_true]
  exact List.all_eq_true.2 fun x hx => by rw [List.eq_of_mem_replicate hx]; decide
theorem nmB_wnm (pre : ByteArray) (n : Nat) : nmB (wnm pre n) = nmB pre ++ [46] ++ dig8 n := by
  simp [wnm, nmB]
theorem numG_wnm {pre : ByteArray} {n : Nat} (h : n ≤ 99999999) : numG pre (wnm pre n) = some n := by
  have hs := wnm_size (pre := pre) h
  have hl : (nmB pre).length = pre.size := Array.length_toList
  have hd : (nmB (wnm pre n)).drop (pre.size + 1) = dig8 n := by
    rw [nmB_wnm, List.drop_left' (by rw [List.length_append, hl]; rfl)]
  have hz : (pre ++ ⟨#[46]⟩ : ByteArray).size = pre.size + 1 := by rw [ByteArray.size_append]; rfl
  have hh : hasP (wnm pre n) (pre ++ ⟨#[46]⟩) = true := by
    rw [hasP, decide_eq_true_eq, hz]
    refine ⟨by omega, ?_⟩
    apply nmB_inj
    rw [nmB, ByteArray.data_extract, Array.toList_extract, List.extract_eq_take_drop]
    have := nmB_wnm pre n
    rw [nmB] at this
    rw [this]
    simp only [List.drop_zero, Nat.sub_zero]
    rw [List.take_left' (by rw [List.length_append, hl]; rfl)]
    simp [nmB]
  rw [numG, hd, if_pos ⟨hh, hs, (dig8_num h).2⟩, (dig8_num h).1]
theorem wnm_inj {pre : ByteArray} {n m : Nat} (hn : n ≤ 99999999) (hm : m ≤ 99999999) (h : wnm pre n = wnm pre m) : n = m := by
  have h1 := numG_wnm (pre := pre) hn
  rw [h, numG_wnm hm] at h1
  injection h1 with h1
  exact h1.symm
theorem num_ge : ∀ (l : List UInt8) (a : Nat), a * 10 ^ l.length ≤ l.foldl (fun n c => n * 10 + (c.toNat - 48)) a
  | [], a => by simp
  | c :: l, a => by
    have := num_ge l (a * 10 + (c.toNat - 48))
    rw [List.foldl_cons, List.length_cons, Nat.pow_succ]
    have h2 : a * 10 * 10 ^ l.length ≤ (a * 10 + (c.toNat - 48)) * 10 ^ l.length := Nat.mul_le_mul_right _ (by omega)
    calc a * (10 ^ l.length * 10) = a * 10 * 10 ^ l.length := by rw [Nat.mul_assoc, Nat.mul_comm 10]
      _ ≤ _ := h2
      _ ≤ _ := this
theorem lt_num : ∀ (a b : List UInt8) (k : Nat), a.length = b.length → a.all isDig = true → b.all isDig = true → b < a → b.foldl (fun n c => n * 10 + (c.toNat - 48)) k < a.foldl (fun n c => n * 10 + (c.toNat - 48)) k
  | [], [], _, _, _, _, h => by simp at h
  | c :: a, e :: b, k, hl, ha, hb, h => by
    simp only [List.all_cons, Bool.and_eq_true] at ha hb
    rw [List.length_cons, List.length_cons] at hl
    have hc : 48 ≤ c.toNat ∧ c.toNat ≤ 57 := by simpa [isDig] using ha.1
    have he : 48 ≤ e.toNat ∧ e.toNat ≤ 57 := by simpa [isDig] using hb.1
    rw [List.foldl_cons, List.foldl_cons]
    rcases List.cons_lt_cons_iff.1 h with h1 | ⟨rfl, h1⟩
    · have h1 : e.toNat < c.toNat := h1
      have u := numL_lt b hb.2 (k * 10 + (e.toNat - 48))
      have v := num_ge a (k * 10 + (c.toNat - 48))
      have w : (k * 10 + (e.toNat - 48) + 1) * 10 ^ b.length ≤ (k * 10 + (c.toNat - 48)) * 10 ^ a.length := by
        rw [show a.length = b.length by omega]
        exact Nat.mul_le_mul_right _ (by omega)
      omega
    · exact lt_num a b _ (by omega) ha.2 hb.2 h1
theorem app_lt : ∀ (p : List UInt8) {a b : List UInt8}, p ++ a < p ++ b → a < b
  | [], _, _, h => h
  | c :: p, a, b, h => by
    rcases List.cons_lt_cons_iff.1 (show c :: (p ++ a) < c :: (p ++ b) from h) with h1 | ⟨_, h1⟩
    · exact absurd h1 (by simp)
    · exact app_lt p h1
/-- names stand in the order of their numbers -/
theorem wnm_le {pre : ByteArray} {n m : Nat} (hn : n ≤ 99999999) (hm : m ≤ 99999999) (h : n ≤ m) : nmB (wnm pre n) ≤ nmB (wnm pre m) := by
  refine Decidable.byContradiction fun hc => ?_
  have hlt : nmB (wnm pre m) < nmB (wnm pre n) := List.not_le.1 hc
  rw [nmB_wnm, nmB_wnm] at hlt
  have h1 := lt_num (dig8 n) (dig8 m) 0 (by rw [dig8_len hn, dig8_len hm]) (dig8_num hn).2 (dig8_num hm).2 (app_lt _ hlt)
  have h2 := (dig8_num hn).1
  have h3 := (dig8_num hm).1
  unfold numL at h2 h3
  omega
/-- a segment's file, and what of it lasts -/
def fileW (pre : ByteArray) (g : Wg × Nat) : Fl := ⟨wnm pre g.1.first, recsW g.1.first g.1.es, g.2⟩
theorem names_W {pre : ByteArray} {H : List (Wg × Nat)} (hf : ∀ g ∈ H, g.1.first ≤ 99999999) (hr : H.Pairwise fun a b => a.1.first ≤ b.1.first) : names (H.map (fileW pre)) = H.map fun g => nmB (wnm pre g.1.first) := by
  rw [names, List.map_map]
  refine List.mergeSort_of_pairwise ?_
  rw [List.pairwise_map]
  refine hr.imp_of_mem fun ha hb h => ?_
  exact decide_eq_true (wnm_le (hf _ ha) (hf _ hb) h)
end Go.Proofs.YtjafamiaahabgaaDoor
