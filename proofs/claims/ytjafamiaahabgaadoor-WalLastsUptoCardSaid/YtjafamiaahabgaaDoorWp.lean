/- Windows of bytes; the sum tells one byte. Nothing is claimed here. -/
import Derived.Test.YtjafamiaahabgaaDoorCr
namespace Go.Proofs.YtjafamiaahabgaaDoor
open Go.RowKit
set_option linter.unusedVariables false
set_option linter.unusedSimpArgs false
set_option maxRecDepth 100000

/-- n bytes from a place on -/
def win (b : List UInt8) (a n : Nat) : List UInt8 := (b.drop a).take n
theorem win_len {b : List UInt8} {a n : Nat} (h : a + n ≤ b.length) : (win b a n).length = n := by simp [win]; omega
/-! the sum tells one byte -/
theorem t16_top : ∀ i, i < 16 → ∀ j, j < 16 → t16 i / 268435456 = t16 j / 268435456 → i = j := by decide
theorem crcH_inj {v w : Nat} (hv : v < 4294967296) (hw : w < 4294967296) (h : crcH v = crcH w) : v = w := by
  have key : ∀ x, x < 4294967296 → crcH x / 268435456 = t16 (x % 16) / 268435456 := fun x hx => by
    unfold crcH
    have h1 : ∀ y, y / 268435456 = y >>> 28 := fun y => (Nat.shiftRight_eq_div_pow y 28).symm
    rw [h1, h1, Nat.shiftRight_xor_distrib, ← h1, Nat.div_eq_of_lt (by omega), Nat.zero_xor]
  have h1 : v % 16 = w % 16 := t16_top _ (Nat.mod_lt _ (by decide)) _ (Nat.mod_lt _ (by decide)) (by rw [← key v hv, ← key w hw, h])
  unfold crcH at h
  rw [h1] at h
  have h2 : v / 16 = w / 16 := by
    have := congrArg (· ^^^ t16 (w % 16)) h
    simpa [Nat.xor_assoc] using this
  omega
theorem crcB_inj {v w : Nat} {b c : UInt8} (hv : v < 4294967296) (hw : w < 4294967296) (h : crcB v b = crcB w c) : v ^^^ b.toNat = w ^^^ c.toNat :=
  crcH_inj (crcX_lt v b hv) (crcX_lt w c hw) (crcH_inj (crcH_lt _ (crcX_lt v b hv)) (crcH_lt _ (crcX_lt w c hw)) h)
theorem xor_left {a b c : Nat} (h : a ^^^ b = a ^^^ c) : b = c := by
  have := congrArg (a ^^^ ·) h
  simpa [← Nat.xor_assoc] using this
theorem xor_right {a b c : Nat} (h : b ^^^ a = c ^^^ a) : b = c := by
  rw [Nat.xor_comm b, Nat.xor_comm c] at h; exact xor_left h
theorem fold_inj : ∀ (l : List UInt8) (v w : Nat), v < 4294967296 → w < 4294967296 → l.foldl crcB v = l.foldl crcB w → v = w
  | [], v, w, _, _, h => h
  | b :: l, v, w, hv, hw, h => xor_right (crcB_inj hv hw (fold_inj l _ _ (crcB_lt v b hv) (crcB_lt w b hw) h))
theorem fold_lt : ∀ (l : List UInt8) (a : Nat), a < 4294967296 → l.foldl crcB a < 4294967296
  | [], _, h => h
  | b :: l, a, h => fold_lt l _ (crcB_lt a b h)
theorem crc_set {l : List UInt8} {i : Nat} {z : UInt8} (hi : i < l.length) (hz : z ≠ l[i]) : crc (l.set i z) ≠ crc l := by
  intro h
  have h1 : crcF (l.set i z) = crcF l := xor_left h
  have hs : l = l.take i ++ l[i] :: l.drop (i + 1) := by rw [← List.drop_eq_getElem_cons hi, List.take_append_drop]
  have hs' : l.set i z = l.take i ++ z :: l.drop (i + 1) := List.set_eq_take_append_cons_drop.trans (if_pos hi)
  rw [hs'] at h1
  have h2 : crcF (l.take i ++ z :: l.drop (i + 1)) = crcF (l.take i ++ l[i] :: l.drop (i + 1)) := by rw [h1]; exact congrArg crcF hs
  unfold crcF at h2
  rw [List.foldl_append, List.foldl_append, List.foldl_cons, List.foldl_cons] at h2
  have hv := fold_lt (l.take i) 4294967295 (by decide)
  have h3 := xor_left (crcB_inj hv hv (fold_inj _ _ _ (crcB_lt _ _ hv) (crcB_lt _ _ hv) h2))
  exact hz (UInt8.toNat_inj.1 h3)
theorem ofB_inj : ∀ (n : Nat) (l m : List UInt8), l.length = n → m.length = n → ofB l = ofB m → l = m
  | 0, l, m, hl, hm, _ => by rw [List.length_eq_zero_iff.1 hl, List.length_eq_zero_iff.1 hm]
  | n + 1, l, m, hl, hm, h => by
    have hl' : l ≠ [] := fun h => by rw [h] at hl; cases hl
    have hm' : m ≠ [] := fun h => by rw [h] at hm; cases hm
    rw [← List.dropLast_concat_getLast hl', ← List.dropLast_concat_getLast hm', ofB_snoc, ofB_snoc] at h
    have h1 := (l.getLast hl').toNat_lt
    have h2 := (m.getLast hm').toNat_lt
    have h3 := ofB_inj n l.dropLast m.dropLast (by simp [hl]) (by simp [hm]) (by omega)
    have h4 : (l.getLast hl') = m.getLast hm' := UInt8.toNat_inj.1 (by omega)
    rw [← List.dropLast_concat_getLast hl', ← List.dropLast_concat_getLast hm', h3, h4]
theorem ofB_set {l : List UInt8} {i : Nat} {z : UInt8} (hi : i < l.length) (hz : z ≠ l[i]) : ofB (l.set i z) ≠ ofB l := fun h => by
  have := ofB_inj l.length _ _ (by simp) rfl h
  have h1 := congrArg (fun x => x[i]?) this
  simp [hi] at h1
  exact hz h1
theorem ofB_put4 (v : Nat) (h : v < 4294967296) : ofB (putB v 4) = v := by
  simp only [putB, ofB, List.foldl_cons, List.foldl_nil, UInt8.toNat_ofNat']
  omega

/-! the windows of a file -/
theorem win_set {b : List UInt8} {k a n : Nat} {z : UInt8} : win (b.set k z) a n = if a ≤ k ∧ k < a + n then (win b a n).set (k - a) z else win b a n := by
  unfold win
  rw [List.drop_set]
  split
  · rw [if_neg (by omega)]
  · rw [List.take_set]
    split
    · rfl
    · refine List.set_eq_of_length_le ?_
      simp; omega
theorem win_app {A B C : List UInt8} {n : Nat} (h : B.length = n) : win (A ++ B ++ C) A.length n = B := by
  unfold win
  rw [List.append_assoc, List.drop_left, List.take_left' h]
theorem win_app' {A B C : List UInt8} {a n : Nat} (ha : A.length = a) (h : B.length = n) : win (A ++ B ++ C) a n = B := by subst ha; exact win_app h
end Go.Proofs.YtjafamiaahabgaaDoor
