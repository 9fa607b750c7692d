/- wal, plain: what a segment's file says; one file opened. Nothing is claimed here. -/
import Derived.Test.YtjafamiaahabgaaDoorAe
import Derived.Test.YtjafamiaahabgaaDoorWf
namespace Go.Proofs.YtjafamiaahabgaaDoor
open Go.RowKit Go.Lib
set_option linter.unusedVariables false
set_option linter.unusedSimpArgs false
set_option maxRecDepth 100000

theorem rdG_can : ∀ (l : List UInt8) (i v : Nat), i ≤ 9 → (rdG l i v).2.2 = 0 → ∃ m, (rdG l i v).1 = v + m * 128 ^ i ∧ (rdG l i v).2.1 = i + (encG (10 - i) m).length ∧ (0 < i → m ≠ 0)
  | [], i, v, _, h => by simp [rdG] at h
  | c :: l, i, v, hi, h => by
    unfold rdG at h ⊢
    obtain ⟨k, hk⟩ : ∃ k, 10 - i = k + 1 := ⟨9 - i, by omega⟩
    split at h
    · rename_i h128
      rw [if_pos h128]
      split at h
      · simp at h
      · rename_i h9
        rw [if_neg h9]
        obtain ⟨m, h1, h2, h3⟩ := rdG_can l (i + 1) _ (by omega) h
        have hm := h3 (by omega)
        refine ⟨(c.toNat - 128) + 128 * m, ?_, ?_, fun _ => by omega⟩
        · rw [h1, Nat.pow_succ, Nat.add_mul, Nat.add_assoc]
          congr 2
          rw [Nat.mul_comm (128 ^ i) 128, ← Nat.mul_assoc, Nat.mul_comm m 128]
        · have hcl := c.toNat_lt
          rw [h2, hk, encG, if_neg (by omega), show ((c.toNat - 128) + 128 * m) / 128 = m by omega, List.length_cons, show 10 - (i + 1) = k by omega]
          omega
    · rename_i h128
      rw [if_neg h128]
      split at h
      · simp at h
      · rename_i hz
        rw [if_neg hz]
        refine ⟨c.toNat, rfl, ?_, fun h0 => by omega⟩
        rw [hk, encG, if_pos (by omega)]
        simp
/-- a number is told in one way alone -/
theorem rdU_can {l : List UInt8} (h : (rdU l).2.2 = 0) : (rdU l).2.1 = (encU (rdU l).1).length := by
  obtain ⟨m, h1, h2, _⟩ := rdG_can l 0 0 (by decide) h
  have e : (rdU l).1 = m := by rw [rdU, h1]; simp
  rw [e, rdU, h2, encU]
  simp
def fileD (S : List Fl) (nm : ByteArray) : List UInt8 := match getS S nm with
  | some f => f.d
  | none => []
/-- does a record with the number n stand at the head of b? -/
def hdW (n : Nat) (b : List UInt8) : Bool := decide (decE b = 0 ∧ (rdU (decP b)).2.2 = 0 ∧ (rdU (decP b)).1 = n)
def hdX (b : List UInt8) : List UInt8 := (decP b).drop (rdU (decP b)).2.1
/-- what a segment's file says: its entries, how many bytes they are -/
def rdW : Nat → Nat → List UInt8 → List (List UInt8) × Nat
  | 0, _, _ => ([], 0)
  | f + 1, n, b => if b ≠ [] ∧ hdW n b = true then
      (hdX b :: (rdW f (n + 1) (b.drop (recL n (hdX b)))).1, recL n (hdX b) + (rdW f (n + 1) (b.drop (recL n (hdX b)))).2) else ([], 0)
theorem hdW_len {n : Nat} {b : List UInt8} (h : hdW n b = true) : 8 + decN b = recL n (hdX b) ∧ 8 + decN b ≤ b.length ∧ (decP b).length = decN b ∧ (rdU (decP b)).2.1 ≤ decN b := by
  simp only [hdW, decide_eq_true_eq] at h
  obtain ⟨h1, h2, h3⟩ := h
  have hl : 8 + decN b ≤ b.length := by
    unfold decE at h1
    split at h1
    · cases h1
    split at h1
    · cases h1
    split at h1
    · cases h1
    omega
  have hp : (decP b).length = decN b := win_len (by omega)
  have hk := (rdU_ok (decP b)).2.1
  have hc := rdU_can h2
  rw [h3] at hc
  refine ⟨?_, hl, hp, by omega⟩
  rw [recL, hdX, List.length_drop, hp, ← hc]
  omega
theorem recL_ge (n : Nat) (x : List UInt8) : 9 ≤ recL n x := by
  have := encG_pos (f := 10) (v := n) (by decide)
  rw [recL, encU]; omega
theorem lenW_ge : ∀ (n : Nat) (xs : List (List UInt8)), 9 * xs.length ≤ lenW n xs
  | _, [] => by simp [lenW]
  | n, x :: xs => by
    have := lenW_ge (n + 1) xs
    have := recL_ge n x
    rw [lenW, List.length_cons]; omega
theorem rdW_len : ∀ (f n : Nat) (b : List UInt8), (rdW f n b).2 ≤ b.length ∧ (rdW f n b).2 = lenW n (rdW f n b).1
  | 0, n, b => by simp [rdW, lenW]
  | f + 1, n, b => by
    unfold rdW
    split
    · rename_i h
      have h1 := hdW_len h.2
      have := rdW_len f (n + 1) (b.drop (recL n (hdX b)))
      rw [List.length_drop] at this
      simp only [lenW]
      omega
    · simp [lenW]
/-- a log under way: its segments, its next number, the disk, whether all was whole -/
structure Ost where
  G : List Wg
  af : Nat
  S : List Fl
  good : Bool
def readG (pre : ByteArray) (o : Ost) (first : Nat) : Ost :=
  if first < 1 ∨ (o.G ≠ [] ∧ first ≠ o.af) then ⟨o.G, o.af, delS o.S (wnm pre first), false⟩ else
  let b := fileD o.S (wnm pre first)
  let r := rdW (b.length + 1) first b
  if r.2 = b.length then ⟨o.G ++ [⟨first, r.1, true⟩], first + r.1.length, o.S, true⟩ else
  if r.2 = 0 then ⟨o.G, o.af, delS o.S (wnm pre first), false⟩ else
  ⟨o.G ++ [⟨first, r.1, true⟩], first + r.1.length, cutS o.S (wnm pre first) (r.2 : Int), false⟩
def openStep (pre : ByteArray) (o : Ost) (nm : ByteArray) : Ost := match numG pre nm with
  | none => o
  | some n => if o.good then readG pre o n else ⟨o.G, o.af, delS o.S nm, false⟩
end Go.Proofs.YtjafamiaahabgaaDoor
