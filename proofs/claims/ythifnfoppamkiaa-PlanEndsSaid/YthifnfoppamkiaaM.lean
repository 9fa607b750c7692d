/- gf.Add, Scale; matrix; shard.times, Sums. Nothing is claimed here. -/
import Derived.Test.YthifnfoppamkiaaG
namespace Go.Proofs.Ythifnfoppamkiaa
open Go.RowKit
set_option linter.unusedVariables false
set_option linter.unusedSimpArgs false
set_option maxRecDepth 100000

def gmb (a b : UInt8) : UInt8 := UInt8.ofNat (gm a.toNat b.toNat)
def gib (a : UInt8) : UInt8 := UInt8.ofNat (if a.toNat = 0 then 0 else gi a.toNat)
def rmb (a b : UInt8) : UInt8 := UInt8.ofNat (rm a.toNat b.toNat)
def rib (a : UInt8) : UInt8 := UInt8.ofNat (ri a.toNat)
theorem u8lt (a : UInt8) : a.toNat < 256 := by have := a.toNat_lt; omega
theorem gpw_lt : ∀ (f p a n : Nat), p < 256 → a < 256 → gpw f p a n < 256
  | 0, _, _, _, hp, _ => hp
  | f + 1, p, a, n, hp, ha => gpw_lt f _ _ _ (by split; exact gm_lt p a hp; exact hp) (gm_lt a a ha)
theorem gi_lt (a : Nat) (h : a < 256) : gi a < 256 := gpw_lt 64 1 a 254 (by decide) h
theorem rFind_lt (a : Nat) : ∀ (n i : Nat), i + n ≤ 256 → rFind a n i < 256
  | 0, _, _ => by rw [rFind]; decide
  | n + 1, i, h => by
    rw [rFind]
    split
    · omega
    · exact rFind_lt a n (i + 1) (by omega)
theorem ri_lt (a : Nat) : ri a < 256 := rFind_lt a 255 1 (by decide)
theorem rm_lt (a b : Nat) : rm a b < 256 := Nat.mod_lt _ (by decide)
theorem u8_ofNat (x : Nat) (h : x < 256) : (.int .u8 (x : Int) : Value) = u8 (UInt8.ofNat x) := by
  unfold u8
  rw [UInt8.toNat_ofNat', Nat.mod_eq_of_lt (by simpa using h)]
theorem gmb_fn (a b : UInt8) (w : World) : Fn Try.prog 53 #[u8 a, u8 b] w fun r w' => w' = w ∧ r = u8 (gmb a b) :=
  (gmul_fn a.toNat b.toNat (u8lt a) (u8lt b) w).mono fun r w' ⟨h1, h2⟩ => ⟨h1, h2.trans (u8_ofNat _ (gm_lt _ _ (u8lt a)))⟩
theorem gib_fn (a : UInt8) (w : World) : Fn Try.prog 34 #[u8 a] w fun r w' => w' = w ∧ r = .tuple #[u8 (gib a), .int .i64 (if a.toNat = 0 then 1 else 0)] :=
  (ginv_fn a.toNat (u8lt a) w).mono fun r w' ⟨h1, h2⟩ => ⟨h1, h2.trans (by rw [u8_ofNat _ (by split; decide; exact gi_lt _ (u8lt a))]; rfl)⟩
theorem bv_fill (A : List UInt8) (m : Nat) : bv A ++ List.replicate m (u8 0) = bv (A ++ List.replicate m 0) := by simp [bv]

theorem bv_map_succ {l : List UInt8} (f : UInt8 → UInt8) {k : Nat} (hk : k < l.length) : bv ((l.take (k + 1)).map f) = bv ((l.take k).map f) ++ [u8 (f l[k])] := by
  rw [List.take_succ_eq_append_getElem hk, List.map_append, bv_append]
  rfl
theorem bv_zip_succ {l m : List UInt8} (f : UInt8 → UInt8 → UInt8) {k : Nat} (hk : k < l.length) (hm : k < m.length) : bv ((List.zipWith f l m).take (k + 1)) = bv ((List.zipWith f l m).take k) ++ [u8 (f l[k] m[k])] := by
  have : k < (List.zipWith f l m).length := by simp; omega
  rw [List.take_succ_eq_append_getElem this, bv_append, List.getElem_zipWith]
  rfl

end Go.Proofs.Ythifnfoppamkiaa
