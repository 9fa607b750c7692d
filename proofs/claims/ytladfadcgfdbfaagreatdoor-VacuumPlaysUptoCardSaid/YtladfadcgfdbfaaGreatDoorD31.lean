/- volume.Name of any number. volume: numbers that are no volume's; names of any number. Nothing is claimed here. -/
import Derived.Test.YtladfadcgfdbfaaGreatDoorD17
import Derived.Test.YtladfadcgfdbfaaGreatDoorD08
import Derived.Test.YtladfadcgfdbfaaGreatDoorItoa
import Derived.Test.YtladfadcgfdbfaaGreatDoorD21
import Derived.WalkSmall
namespace Go.Proofs.YtladfadcgfdbfaaGreatDoor
open Go.RowKit Go.Lib
set_option linter.unusedVariables false
set_option linter.unusedSimpArgs false
set_option maxRecDepth 100000
theorem decDigits_len : ∀ (n u : Nat), u < 10 ^ (n + 1) → (decDigits u).length ≤ n + 1
  | 0, u, h => by
    rw [decDigits, dif_pos (by simpa using h)]; simp
  | n + 1, u, h => by
    rw [decDigits]
    split
    · simp
    · have h2 : u / 10 < 10 ^ (n + 1) := by
        rw [Nat.pow_succ] at h
        omega
      have := decDigits_len n (u / 10) h2
      simp only [List.length_append, List.length_cons, List.length_nil]
      omega
/-- eight digits -/
def dig8 (i : Nat) : List UInt8 := List.replicate (8 - (decDigits i).length) 48 ++ decDigits i
theorem dig8_len {i : Nat} (h : i ≤ 99999999) : (dig8 i).length = 8 := by
  have := decDigits_len 7 i (by omega)
  rw [dig8, List.length_append, List.length_replicate]
  omega
def vnmG (i : Nat) : ByteArray := ⟨([118] ++ dig8 i ++ [46, 100, 97, 116]).toArray⟩
theorem vnmG_size {i : Nat} (h : i ≤ 99999999) : (vnmG i).size = 13 := by
  show ([118] ++ dig8 i ++ [46, 100, 97, 116]).toArray.size = 13
  simp [dig8_len h]
end Go.Proofs.YtladfadcgfdbfaaGreatDoor
namespace Go.Proofs.YtladfadcgfdbfaaGreatDoor
open Go.RowKit Go.Lib
set_option linter.unusedVariables false
set_option linter.unusedSimpArgs false
set_option maxRecDepth 100000
end Go.Proofs.YtladfadcgfdbfaaGreatDoor
