/- Contracts of package bits and of garnerref1. Nothing is claimed here. -/
import Derived.Test.YthifnfoppamkiaaTy
import Derived.Test.YthifnfoppamkiaaHH
import Derived.Test.YthifnfoppamkiaaVV
namespace Go.Proofs.Ythifnfoppamkiaa
open Go.RowKit
set_option linter.unusedVariables false
set_option linter.unusedSimpArgs false
set_option maxRecDepth 100000

/-- the bytes of a number, the highest first -/
def putB (v : Nat) : Nat → List UInt8
  | 0 => []
  | n + 1 => UInt8.ofNat (v / 256 ^ n) :: putB v n
theorem putB_len (v n : Nat) : (putB v n).length = n := by induction n <;> simp [putB, *]

theorem putB_take (v n k : Nat) (h : k < n) : (putB v n).take (n - k) = (putB v n).take (n - (k + 1)) ++ [UInt8.ofNat (v / 256 ^ k)] := by
  induction n with
  | zero => omega
  | succ n ih =>
    rw [putB, show n + 1 - k = (n - k) + 1 from by omega, List.take_succ_cons]
    by_cases hk : k < n
    · rw [ih hk, show n + 1 - (k + 1) = (n - (k + 1)) + 1 from by omega, List.take_succ_cons, List.cons_append]
    · obtain rfl : k = n := by omega
      simp

theorem u8_shr (v k : Nat) : (.int .u8 (IntKind.u8.wrap ((v / 2 ^ (8 * k) : Nat) : Int)) : Value) = u8 (UInt8.ofNat (v / 256 ^ k)) := by
  unfold u8
  congr 1
  rw [IntKind.wrap_u8, Nat.pow_mul, show 2 ^ 8 = 256 from rfl]
  simp only [UInt8.toNat_ofNat']
  omega

theorem put64_any (v : Nat) (hv : v < 18446744073709551616) (w : World) : True := trivial

/-- the number that bytes are -/
def ofB (l : List UInt8) : Nat := l.foldl (fun v c => v * 256 + c.toNat) 0
theorem ofB_snoc (l : List UInt8) (c : UInt8) : ofB (l ++ [c]) = ofB l * 256 + c.toNat := by simp [ofB]
theorem ofB_lt (l : List UInt8) : ofB l < 256 ^ l.length := by
  have key : ∀ (l : List UInt8) (a : Nat), l.foldl (fun v c => v * 256 + c.toNat) a < (a + 1) * 256 ^ l.length := by
    intro l
    induction l with
    | nil => intro a; simp
    | cons c l ih =>
      intro a
      have h1 := c.toNat_lt
      refine Nat.lt_of_lt_of_le (ih _) ?_
      rw [List.length_cons, Nat.pow_succ, Nat.mul_comm (256 ^ l.length) 256, ← Nat.mul_assoc]
      exact Nat.mul_le_mul_right _ (show a * 256 + c.toNat + 1 ≤ (a + 1) * 256 by omega)
  have := key l 0
  simpa [ofB] using this
theorem or_shl8 (a c : Nat) (hc : c < 256) : a * 256 ||| c = a * 256 + c := by
  have := Nat.shiftLeft_add_eq_or_of_lt (i := 8) (b := c) hc a
  rw [Nat.shiftLeft_eq] at this
  exact this.symm

end Go.Proofs.Ythifnfoppamkiaa
