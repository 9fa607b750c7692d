/- volume.Name of any number. Nothing is claimed here. -/
import Derived.Test.YtjafamiaahabgaaDoorUn
import Derived.Test.YtjafamiaahabgaaDoorDf
import Derived.Test.YtjafamiaahabgaaDoorItoa
namespace Go.Proofs.YtjafamiaahabgaaDoor
open Go.RowKit Go.Lib
set_option linter.unusedVariables false
set_option linter.unusedSimpArgs false
set_option maxRecDepth 100000

theorem decDigits_len : ∀ (n u : Nat), u < 10 ^ (n + 1) → (decDigits u).length ≤ n + 1
  | 0, u, h => by
    rw [decDigits, dif_pos (by simpa using h)]; simp
  | n + 1, u, h => by
    rw [decDigits]
    split
    · simp
    · have h2 : u / 10 < 10 ^ (n + 1) := by
        rw [Nat.pow_succ] at h
        omega
      have := decDigits_len n (u / 10) h2
      simp only [List.length_append, List.length_cons, List.length_nil]
      omega
theorem decDigits_pos (u : Nat) : 1 ≤ (decDigits u).length := by
  rw [decDigits]
  split <;> simp
/-- eight digits -/
def dig8 (i : Nat) : List UInt8 := List.replicate (8 - (decDigits i).length) 48 ++ decDigits i
theorem dig8_len {i : Nat} (h : i ≤ 99999999) : (dig8 i).length = 8 := by
  have := decDigits_len 7 i (by omega)
  rw [dig8, List.length_append, List.length_replicate]
  omega
theorem itoaG_fn (i : Nat) (hi : i ≤ 99999999) (w : World) (htab : TabIs Tryd.prog w "internal/strconv.uint64pow10" .u64 pow10Tab) : Fn Tryd.prog 36 #[.int .i64 (i : Int)] w fun r w' => r = .string ⟨(decDigits i).toArray⟩ ∧ Below w.heap.size w w' := by
  refine Fn.of_calls Tryd.func36 (by decide +kernel) rfl ((Tryd.strconv_Itoa (i : Int) (by omega) (by omega) w htab).mono fun e w' ⟨h1, k, os, h2⟩ => ⟨_, h1, ?_, ?_⟩)
  · rw [itoa, if_neg (by omega), Int.toNat_natCast]
  · subst h2
    exact ⟨rfl, rfl, rfl, by simp, fun j hj => Go.Sort.heap_grow_old _ _ (by simpa using hj)⟩
def vnmG (i : Nat) : ByteArray := ⟨([118] ++ dig8 i ++ [46, 100, 97, 116]).toArray⟩
theorem vnmG_size {i : Nat} (h : i ≤ 99999999) : (vnmG i).size = 13 := by
  show ([118] ++ dig8 i ++ [46, 100, 97, 116]).toArray.size = 13
  simp [dig8_len h]
end Go.Proofs.YtjafamiaahabgaaDoor
