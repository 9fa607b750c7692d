/- What was written is read again, plain. Nothing is claimed here. -/
import Derived.Test.YtlldgodjfpgbcaaEh
import Derived.Test.YtlldgodjfpgbcaaEi
namespace Go.Proofs.Ytlldgodjfpgbcaa
set_option linter.unusedVariables false
set_option linter.unusedSimpArgs false

theorem rdG_enc : ∀ (f i v acc : Nat) (rest : List UInt8), f + i = 10 → i ≤ 9 → v * 128 ^ i < 18446744073709551616 → (i = 0 ∨ v ≠ 0) → rdG (encG f v ++ rest) i acc = (acc + v * 128 ^ i, i + (encG f v).length, 0)
  | 0, i, v, acc, rest, hf, hi, _, _ => by omega
  | f + 1, i, v, acc, rest, hf, hi, hv, h0 => by
    have h9 : i = 9 → v < 2 := fun h => by subst h; omega
    unfold encG
    by_cases h : v < 128
    · rw [if_pos h]
      have hc : (UInt8.ofNat v).toNat = v := by simp; omega
      simp only [List.cons_append, List.nil_append, rdG, hc]
      rw [if_neg (by omega), if_neg (by omega)]
      simp
    · rw [if_neg h]
      have hi9 : i ≠ 9 := fun h' => by have := h9 h'; omega
      have hc : (UInt8.ofNat (v % 128 + 128)).toNat = v % 128 + 128 := by simp; omega
      simp only [List.cons_append, rdG, hc]
      rw [if_pos (by omega), if_neg hi9, show v % 128 + 128 - 128 = v % 128 by omega]
      have hp : 128 ^ (i + 1) = 128 * 128 ^ i := by rw [Nat.pow_succ, Nat.mul_comm]
      have hm : v * 128 ^ i = v % 128 * 128 ^ i + v / 128 * 128 ^ (i + 1) := by
        rw [hp, ← Nat.mul_assoc, ← Nat.add_mul]
        congr 1
        omega
      rw [rdG_enc f (i + 1) (v / 128) _ rest (by omega) (by omega) (by omega) (.inr (by omega))]
      rw [hm]
      simp only [List.length_cons, Prod.mk.injEq, and_true]
      omega
theorem rdU_enc (v : Nat) (rest : List UInt8) (h : v < 18446744073709551616) : rdU (encU v ++ rest) = (v, (encU v).length, 0) := by
  have := rdG_enc 10 0 v 0 rest rfl (by decide) (by simpa using h) (.inl rfl)
  simpa [rdU, encU] using this
theorem num1_enc {m v : Nat} {rest : List UInt8} (h : v < 18446744073709551616) (hm : v ≤ m) : num1 m (encU v ++ rest) = some (v, rest) := by
  unfold num1
  rw [rdU_enc v rest h]
  simp [hm]
theorem putB4 (v : Nat) : ∃ a b c d, putB v 4 = [a, b, c, d] := ⟨_, _, _, _, rfl⟩
theorem plc1_enc {p : Plc} {rest : List UInt8} (h1 : p.key < 18446744073709551616) (h2 : 0 ≤ p.at_ ∧ p.at_ ≤ 4194304) (h3 : 0 ≤ p.n ∧ p.n ≤ 4194304) (h4 : p.cook < 4294967296) : plc1 (plB p ++ rest) = some (p, rest) := by
  obtain ⟨k, a, n, c, d⟩ := p
  dsimp only at *
  obtain ⟨a, rfl⟩ : ∃ x : Nat, a = x := ⟨a.toNat, by omega⟩
  obtain ⟨n, rfl⟩ : ∃ x : Nat, n = x := ⟨n.toNat, by omega⟩
  unfold plc1 plB
  simp only [List.append_assoc, Int.toNat_natCast]
  rw [num1_enc h1 (by omega)]
  dsimp only
  rw [num1_enc (by omega) (by omega)]
  dsimp only
  rw [num1_enc (by omega) (by omega)]
  dsimp only
  obtain ⟨x0, x1, x2, x3, hx⟩ := putB4 c
  have ho := ofB_put4 c h4
  rw [hx] at ho ⊢
  simp only [List.cons_append, List.nil_append, tail5]
  cases d
  · rw [if_neg (by simp), ho]; rfl
  · rw [if_neg (by simp), ho]; rfl
theorem plcs_enc : ∀ (l acc : List Plc), (∀ p ∈ l, p.key < 18446744073709551616 ∧ p.cook < 4294967296) → OkI (acc ++ l) → plcs l.length (l.flatMap plB) acc = some (acc ++ l, [])
  | [], acc, _, _ => by simp [plcs]
  | p :: l, acc, hok, h => by
    have hp := h acc.length p (by simp)
    obtain ⟨q1, q2⟩ := hok p (by simp)
    rw [List.length_cons, plcs, List.flatMap_cons, plc1_enc q1 hp.at_ hp.n q2]
    dsimp only
    have hr : rises acc p = true := by
      unfold rises
      split
      · rfl
      · rename_i q hq
        rw [decide_eq_true_eq]
        have hpos : 0 < acc.length := by cases acc with | nil => cases hq | cons _ _ => simp
        refine hp.up q hpos ?_
        rw [List.getElem?_append_left (by omega), ← List.getLast?_eq_getElem?]
        exact hq
    rw [if_pos hr, plcs_enc l (acc ++ [p]) (fun x hx => hok x (by simp [hx])) (by simpa using h)]
    simp
section
variable {p : List UInt8} (h : p.length ≤ 1048576)
include h
theorem dec_n : decN (encF p) = p.length := by
  unfold decN encF
  have e : Go.Proofs.Ytlldgodjfpgbcaa.win (putB p.length 4 ++ putB (crc (putB p.length 4 ++ p)) 4 ++ p) 0 4 = putB p.length 4 := by
    unfold Go.Proofs.Ytlldgodjfpgbcaa.win
    rw [List.drop_zero, List.append_assoc, List.take_left' (putB_len _ _)]
  rw [e, ofB_put4 _ (by omega)]
theorem dec_p : decP (encF p) = p := by
  unfold decP
  rw [dec_n h]
  unfold encF Go.Proofs.Ytlldgodjfpgbcaa.win
  rw [List.drop_left' (by simp [putB_len]), List.take_of_length_le (Nat.le_refl _)]
theorem dec_e : decE (encF p) = 0 := by
  have hl := encF_len p
  have e1 : Go.Proofs.Ytlldgodjfpgbcaa.win (encF p) 0 4 = putB p.length 4 := by
    unfold Go.Proofs.Ytlldgodjfpgbcaa.win encF
    rw [List.drop_zero, List.append_assoc, List.take_left' (putB_len _ _)]
  have e2 : Go.Proofs.Ytlldgodjfpgbcaa.win (encF p) 4 4 = putB (crc (putB p.length 4 ++ p)) 4 := by
    unfold Go.Proofs.Ytlldgodjfpgbcaa.win encF
    rw [List.append_assoc, List.drop_left' (putB_len _ _), List.take_left' (putB_len _ _)]
  unfold decE
  rw [dec_n h, dec_p h, e1, e2, ofB_put4 _ (crc_lt _), if_neg (by omega), if_neg (by omega), if_neg (by omega), if_neg (fun h => h rfl)]
end
theorem idxS_enc {l : List Plc} (hl : l.length ≤ 400) (hok : ∀ p ∈ l, p.key < 18446744073709551616 ∧ p.cook < 4294967296) (h : OkI l) : idxS (encF (idxB l)) = (0, l) := by
  have hb : (idxB l).length ≤ 1048576 := by have := idxB0_len l l.length; unfold idxB; omega
  unfold idxS
  rw [dec_e hb, if_neg (fun h => h rfl), dec_n hb, if_neg (by rw [encF_len]; exact fun h => h rfl), dec_p hb]
  have e : num1 65536 (idxB l) = some (l.length, l.flatMap plB) := by
    unfold idxB idxB0
    rw [List.take_of_length_le (Nat.le_refl _), num1_enc (by omega) (by omega)]
  rw [e]
  dsimp only
  rw [plcs_enc l [] hok (by simpa using h)]
  simp
theorem ok_rising {l : List Plc} (h : OkI l) : rising l := by
  intro i j p q hij hp hq
  obtain ⟨d, rfl⟩ : ∃ d, j = i + d + 1 := ⟨j - i - 1, by omega⟩
  induction d generalizing q with
  | zero =>
    exact (h (i + 0 + 1) q hq).up p (by omega) hp
  | succ d ih =>
    have hj := (List.getElem?_eq_some_iff.1 hq).1
    have g := List.getElem?_eq_getElem (show i + d + 1 < l.length by omega)
    have h1 := ih _ (by omega) g
    have h2 := (h (i + (d + 1) + 1) q hq).up _ (by omega) (by rw [← g]; congr 1)
    omega
end Go.Proofs.Ytlldgodjfpgbcaa
