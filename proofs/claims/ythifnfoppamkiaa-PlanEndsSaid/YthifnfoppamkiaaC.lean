/- The sum of a row: package bits and garnerref1. Nothing is claimed here. -/
import Derived.Test.YthifnfoppamkiaaB
namespace Go.Proofs.Ythifnfoppamkiaa
open Go.RowKit
set_option linter.unusedVariables false
set_option linter.unusedSimpArgs false
set_option maxRecDepth 100000

/-- what one digit of half a byte makes of a sum -/
def hs (n : Nat) : Nat := (n / 2) ^^^ (3988292384 &&& ((4294967296 - (n &&& 1)) % 4294967296))
def ds (n : Nat) : Nat := if n % 2 = 1 then (n / 2) ^^^ 3988292384 else n / 2
def itN (f : Nat → Nat) : Nat → Nat → Nat
  | 0, n => n
  | k + 1, n => f (itN f k n)
def t16 (i : Nat) : Nat := itN hs 4 i
theorem hs_lt (n : Nat) (h : n < 4294967296) : hs n < 4294967296 := Nat.xor_lt_two_pow (n := 32) (by omega) (Nat.lt_of_le_of_lt Nat.and_le_left (by decide))
theorem itN_lt {f : Nat → Nat} (hf : ∀ n, n < 4294967296 → f n < 4294967296) (k n : Nat) (h : n < 4294967296) : itN f k n < 4294967296 := by
  induction k with
  | zero => exact h
  | succ k ih => exact hf _ ih
theorem ds_lt (n : Nat) (h : n < 4294967296) : ds n < 4294967296 := by
  unfold ds
  split
  · exact Nat.xor_lt_two_pow (n := 32) (by omega) (by decide)
  · omega
theorem t16_lt (i : Nat) (h : i < 16) : t16 i < 4294967296 := itN_lt hs_lt 4 i (by omega)
theorem ds_t16 : ∀ i, i < 16 → itN ds 4 i = t16 i := by decide

/-- the table, its first k places laid -/
def tabAt (k : Nat) : List Value := (List.range 16).map fun j => if j < k then .int .u32 (t16 j : Int) else .int .u32 0
theorem tabAt_len (k : Nat) : (tabAt k).length = 16 := by simp [tabAt]
theorem tabAt_set (k : Nat) (hk : k < 16) : (tabAt k).set k (.int .u32 (t16 k : Int)) = tabAt (k + 1) := by
  apply List.ext_getElem
  · simp [tabAt]
  · intro j h1 h2
    simp only [List.getElem_set, tabAt, List.getElem_map, List.getElem_range]
    by_cases hkj : k = j
    · subst hkj; simp
    · rw [if_neg hkj]
      by_cases hj : j < k
      · rw [if_pos hj, if_pos (by omega)]
      · rw [if_neg hj, if_neg (by omega)]
theorem tabAt_get (j : Nat) (hj : j < 16) : (tabAt 16)[j]? = some (.int .u32 (t16 j : Int)) := by
  simp [tabAt, hj]
theorem tabAt_one (k : Nat) : ∀ u ∈ tabAt k, u.oneCell' = true := by
  intro u hu
  obtain ⟨j, _, rfl⟩ := List.mem_map.1 hu
  split <;> rfl

def crcH (v : Nat) : Nat := (v / 16) ^^^ t16 (v % 16)
def crcB (v : Nat) (b : UInt8) : Nat := crcH (crcH (v ^^^ b.toNat))
def crcF (l : List UInt8) : Nat := l.foldl crcB 4294967295
/-- the CRC-32 of a row -/
def crc (l : List UInt8) : Nat := 4294967295 ^^^ crcF l
theorem crcH_lt (v : Nat) (h : v < 4294967296) : crcH v < 4294967296 := Nat.xor_lt_two_pow (n := 32) (by omega) (t16_lt _ (by omega))
theorem crcX_lt (v : Nat) (b : UInt8) (h : v < 4294967296) : v ^^^ b.toNat < 4294967296 := Nat.xor_lt_two_pow (n := 32) h (by have := b.toNat_lt; omega)
theorem crcB_lt (v : Nat) (b : UInt8) (h : v < 4294967296) : crcB v b < 4294967296 := crcH_lt _ (crcH_lt _ (crcX_lt v b h))
theorem crcF_lt (l : List UInt8) : crcF l < 4294967296 := by
  have key : ∀ (l : List UInt8) (a : Nat), a < 4294967296 → l.foldl crcB a < 4294967296 := by
    intro l
    induction l with
    | nil => intro a h; exact h
    | cons b l ih => intro a h; exact ih _ (crcB_lt a b h)
  exact key l _ (by decide)
theorem crc_lt (l : List UInt8) : crc l < 4294967296 := Nat.xor_lt_two_pow (n := 32) (by decide) (crcF_lt l)
theorem crcF_snoc (l : List UInt8) (b : UInt8) : crcF (l ++ [b]) = crcB (crcF l) b := by simp [crcF]

end Go.Proofs.Ythifnfoppamkiaa
