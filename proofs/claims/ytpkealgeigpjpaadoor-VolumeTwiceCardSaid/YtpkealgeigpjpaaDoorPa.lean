/- Needles, plain: what was encoded is decoded. Nothing is claimed here. -/
import Derived.Test.YtpkealgeigpjpaaDoorNc
namespace Go.Proofs.YtpkealgeigpjpaaDoor
open Go.RowKit
set_option linter.unusedVariables false
set_option linter.unusedSimpArgs false

theorem ofB_put8 (v : Nat) (h : v < 18446744073709551616) : ofB (putB v 8) = v := by
  simp only [putB, ofB, List.foldl_cons, List.foldl_nil, UInt8.toNat_ofNat']
  omega
section
variable {key cook : Nat} {dead : Bool} {xs rest : List UInt8} (hk : key < 18446744073709551616) (hc : cook < 4294967296) (hx : xs.length ≤ 65536) (hd : dead = true → xs = [])
theorem enc_take24 : (encN key cook dead xs ++ rest).take 24 = hd24 key cook dead xs.length := by
  rw [encN, List.append_assoc, List.append_assoc, List.append_assoc, List.take_left' (hd24_len _ _ _ _)]
theorem enc_hd : ∃ t, encN key cook dead xs ++ rest = [110, 100, if dead then 1 else 0, 0] ++ putB key 8 ++ putB cook 4 ++ putB xs.length 4 ++ t := ⟨_, by
  rw [encN, hd24, hd20]; simp only [List.append_assoc]; rfl⟩
include hk in
theorem enc_key : dKey (encN key cook dead xs ++ rest) = key := by
  obtain ⟨t, ht⟩ := enc_hd (key := key) (cook := cook) (dead := dead) (xs := xs) (rest := rest)
  rw [dKey, ht]
  have : Go.Proofs.YtpkealgeigpjpaaDoor.win ([110, 100, if dead then 1 else 0, 0] ++ putB key 8 ++ putB cook 4 ++ putB xs.length 4 ++ t) 4 8 = putB key 8 := by
    rw [List.append_assoc, List.append_assoc]; exact win_app' rfl (putB_len _ _)
  rw [this, ofB_put8 _ hk]
include hc in
theorem enc_cook : dCook (encN key cook dead xs ++ rest) = cook := by
  obtain ⟨t, ht⟩ := enc_hd (key := key) (cook := cook) (dead := dead) (xs := xs) (rest := rest)
  rw [dCook, ht]
  have : Go.Proofs.YtpkealgeigpjpaaDoor.win ([110, 100, if dead then 1 else 0, 0] ++ putB key 8 ++ putB cook 4 ++ putB xs.length 4 ++ t) 12 4 = putB cook 4 := by
    rw [List.append_assoc]; exact win_app' (by simp [putB_len]) (putB_len _ _)
  rw [this, ofB_put4 _ hc]
include hx in
theorem enc_size : dSize (encN key cook dead xs ++ rest) = xs.length := by
  obtain ⟨t, ht⟩ := enc_hd (key := key) (cook := cook) (dead := dead) (xs := xs) (rest := rest)
  rw [dSize, ht]
  have : Go.Proofs.YtpkealgeigpjpaaDoor.win ([110, 100, if dead then 1 else 0, 0] ++ putB key 8 ++ putB cook 4 ++ putB xs.length 4 ++ t) 16 4 = putB xs.length 4 := win_app' (by simp [putB_len]) (putB_len _ _)
  rw [this, ofB_put4 _ (by omega)]
theorem enc_dead : dDead (encN key cook dead xs ++ rest) = dead := by
  obtain ⟨t, ht⟩ := enc_hd (key := key) (cook := cook) (dead := dead) (xs := xs) (rest := rest)
  rw [dDead, ht]
  cases dead <;> rfl
include hx in
theorem enc_data : dData (encN key cook dead xs ++ rest) = xs := by
  rw [dData, enc_size hx, encN, List.append_assoc, List.append_assoc]
  exact win_app' (hd24_len _ _ _ _) rfl
include hx in
theorem enc_rest : dRest (encN key cook dead xs ++ rest) = dWant (encN key cook dead xs ++ rest) := by
  have h := szN_le xs.length
  rw [dRest, dWant, enc_data hx, enc_size hx, encN]
  have e : hd24 key cook dead xs.length ++ xs ++ putB (crc xs) 4 ++ List.replicate (szN xs.length - (28 + xs.length)) 0 ++ rest = (hd24 key cook dead xs.length ++ xs) ++ (putB (crc xs) 4 ++ List.replicate (szN xs.length - (28 + xs.length)) 0) ++ rest := by simp only [List.append_assoc]
  rw [e]
  exact win_app' (by simp [hd24_len]) (by simp [putB_len]; omega)
include hk hc hx hd in
theorem enc_E : dE (encN key cook dead xs ++ rest) = 0 := by
  have h := szN_le xs.length
  have hl := encN_len key cook dead xs
  rw [dE, if_neg (by simp [hl]; omega), if_neg, enc_size hx, if_neg (by simp [hl]), if_neg (fun h => h (enc_rest hx))]
  rw [dForm, enc_size hx, enc_key hk, enc_cook hc, enc_dead, enc_take24]
  rintro (h | ⟨h1, h2⟩ | h)
  · omega
  · rw [hd h1] at h2; exact absurd h2 (by decide)
  · exact h rfl
end
theorem encNE_zero {dead : Bool} {xs : List UInt8} : encNE dead xs.length = 0 ↔ xs.length ≤ 65536 ∧ (dead = true → xs = []) := by
  rw [encNE]
  constructor
  · intro h
    split at h
    · cases h
    · rename_i h1
      split at h
      · cases h
      · exact ⟨by omega, fun hd => by
          cases xs with
          | nil => rfl
          | cons a l => exact absurd ⟨hd, by simp⟩ h1⟩
  · rintro ⟨h1, h2⟩
    rw [if_neg (fun h => by rw [h2 h.1] at h; exact absurd h.2 (by decide)), if_neg (by omega)]
end Go.Proofs.YtpkealgeigpjpaaDoor
