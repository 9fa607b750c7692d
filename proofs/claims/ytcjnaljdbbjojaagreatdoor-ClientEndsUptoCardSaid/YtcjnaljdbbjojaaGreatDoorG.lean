/- Package gf, garnerref6: the field of 256. Nothing is claimed here. -/
import Derived.Test.YtcjnaljdbbjojaaGreatDoorCr
import Derived.Test.YtcjnaljdbbjojaaGreatDoorHH
namespace Go.Proofs.YtcjnaljdbbjojaaGreatDoor
open Go.RowKit
set_option linter.unusedVariables false
set_option linter.unusedSimpArgs false
set_option maxRecDepth 100000

/-- a step of the program's product -/
def gxt (a : Nat) : Nat := (a * 2 % 256) ^^^ (29 &&& (255 * (a / 128)))
def gmGo : Nat → Nat → Nat → Nat → Nat
  | 0, p, _, _ => p
  | n + 1, p, a, b => gmGo n (p ^^^ (a &&& (255 * (b % 2)))) (gxt a) (b / 2)
def gm (a b : Nat) : Nat := gmGo 8 0 a b

theorem gxt_lt (a : Nat) (h : a < 256) : gxt a < 256 := by
  refine Nat.xor_lt_two_pow (n := 8) (by omega) (Nat.lt_of_le_of_lt Nat.and_le_left (by decide))

theorem gmul_fn (a b : Nat) (ha : a < 256) (hb : b < 256) (w : World) : Fn Tryz.prog 97 #[.int .u8 a, .int .u8 b] w fun r w' => w' = w ∧ r = .int .u8 (gm a b) := by
  refine Fn.mk Tryz.func97 rfl (by kernel_rfl) Tryz.ntmps97 rfl (by rw [Tryz.results97]) ?_
  refine RunR ?_
  refine V.loop (α := Nat × Nat × Nat × Nat) (fun (k, p, a, b) => [(0, .int .u8 a), (1, .int .u8 b), (5, .int .u8 p), (6, .int .i64 k)])
    (fun (k, p, a', b') w' => k ≤ 8 ∧ p < 256 ∧ a' < 256 ∧ b' < 256 ∧ gmGo (8 - k) p a' b' = gm a b ∧ w' = w) (fun (k, _, _, _) => 8 - k) (0, 0, a, b) ⟨rfl, rfl, rfl, rfl, trivial⟩ ⟨by omega, by omega, ha, hb, rfl, rfl⟩ ?_
  rintro ⟨k, p, a, b⟩ w2 ⟨hk, hp, ha, hb, hg, hw⟩
  dsimp only at *
  subst hw
  refine RunR ?_
  refine Br.dec (fun h => ?_) (fun h => ?_)
  · refine RunR ?_
    refine Bt.and8 b 1 rfl rfl (by omega) (by omega) ?_
    rw [and1]
    conv => whnf
    refine Ar.neg8 (b % 2) (by omega) (by simp) ?_
    conv => whnf
    refine RunR ?_
    refine Bt.and8 a (255 * (b % 2)) rfl rfl (by omega) (by omega) ?_
    have h1 : a &&& (255 * (b % 2)) < 256 := Nat.lt_of_le_of_lt Nat.and_le_left ha
    conv => whnf
    refine Bt.xor8 p (a &&& (255 * (b % 2))) rfl rfl hp h1 ?_
    have h2 : p ^^^ (a &&& (255 * (b % 2))) < 256 := Nat.xor_lt_two_pow (n := 8) hp h1
    conv => whnf
    refine RunR ?_
    refine Shl.u8 1 2 rfl (by decide) (by decide) ?_
    refine Ar.m8 (a * 2) rfl ?_
    conv => whnf
    refine RunR ?_
    refine Shr.u8 a 7 128 rfl rfl (by decide) (by decide) ?_
    conv => whnf
    refine Ar.neg8 (a / 128) (by omega) (by omega) ?_
    conv => whnf
    refine RunR ?_
    have h3 : 255 * (a / 128) < 256 := by omega
    refine Bt.and8 29 (255 * (a / 128)) rfl rfl (by omega) h3 ?_
    have h4 : 29 &&& (255 * (a / 128)) < 256 := Nat.lt_of_le_of_lt Nat.and_le_left (by decide)
    conv => whnf
    refine Bt.xor8 (a * 2 % 256) (29 &&& (255 * (a / 128))) rfl rfl (by omega) h4 ?_
    conv => whnf
    refine RunR ?_
    refine Shr.u8 b 1 2 rfl rfl (by decide) (by decide) ?_
    conv => whnf
    refine RunR ?_
    refine ⟨(k + 1, _, gxt a, b / 2), ⟨rfl, rfl, rfl, rfl, trivial⟩, ⟨by dsimp only; omega, h2, gxt_lt a ha, by dsimp only; omega, ?_, rfl⟩, (by first | omega | (dsimp only; omega))⟩
    rw [← hg, (by omega : 8 - k = (8 - (k + 1)) + 1)]
    rfl
  · obtain rfl : k = 8 := by omega
    refine RunR ?_
    exact ⟨rfl, by rw [← hg]; rfl⟩

theorem gmGo_lt : ∀ (n p a b : Nat), p < 256 → a < 256 → gmGo n p a b < 256
  | 0, p, a, b, hp, ha => hp
  | n + 1, p, a, b, hp, ha => gmGo_lt n _ _ _ (xor_lt8 hp (Nat.lt_of_le_of_lt Nat.and_le_left ha)) (gxt_lt a ha)
theorem gm_lt (a b : Nat) (ha : a < 256) : gm a b < 256 := gmGo_lt 8 0 a b (by decide) ha

def gpw : Nat → Nat → Nat → Nat → Nat
  | 0, p, _, _ => p
  | f + 1, p, a, n => gpw f (if n % 2 = 1 then gm p a else p) (gm a a) (n / 2)
theorem gpw_zero : ∀ (f p a : Nat), gpw f p a 0 = p
  | 0, _, _ => rfl
  | f + 1, p, a => gpw_zero f p (gm a a)

theorem power_fn (a n : Nat) (ha : a < 256) (hn : n < 18446744073709551616) (w : World) : Fn Tryz.prog 69 #[.int .u8 a, .int .u64 n] w fun r w' => w' = w ∧ r = .int .u8 (gpw 64 1 a n) := by
  refine Fn.mk Tryz.func69 rfl (by kernel_rfl) Tryz.ntmps69 rfl (by rw [Tryz.results69]) ?_
  refine RunR ?_
  refine V.loop (α := Nat × Nat × Nat × Nat) (fun (f, p, a, n) => [(0, .int .u8 a), (1, .int .u64 n), (5, .int .u8 p)])
    (fun (f, p, a', n') w' => n' < 2 ^ f ∧ p < 256 ∧ a' < 256 ∧ n' < 18446744073709551616 ∧ gpw f p a' n' = gpw 64 1 a n ∧ w' = w) (fun (f, _, _, n) => n) (64, 1, a, n) ⟨rfl, rfl, rfl, trivial⟩ ⟨hn, by omega, ha, hn, rfl, rfl⟩ ?_
  rintro ⟨f, p, a, n⟩ w2 ⟨hk, hp, ha, hn, hg, hw⟩
  dsimp only at *
  subst hw
  refine RunR ?_
  refine Br.dec (fun h => ?_) (fun h => ?_)
  · obtain ⟨f, rfl⟩ : ∃ g, f = g + 1 := ⟨f - 1, by cases f with | zero => simp at hk; omega | succ f => omega⟩
    have hk' : n / 2 < 2 ^ f := by rw [Nat.pow_succ] at hk; omega
    refine RunR ?_
    refine Bt.and64 n 1 rfl rfl (by omega) (by omega) ?_
    rw [and1]
    conv => whnf
    refine RunR ?_
    refine Br.dec (fun h => ?_) (fun h => ?_)
    · refine RunR ?_
      refine (gmul_fn p a hp ha _).mono fun r w3 ⟨hw, hr⟩ => ?_
      subst hr; subst hw
      conv => whnf
      refine RunR ?_
      refine (gmul_fn a a ha ha _).mono fun r w3 ⟨hw, hr⟩ => ?_
      subst hr; subst hw
      conv => whnf
      refine RunR ?_
      refine Shr.u64 n 1 2 rfl rfl (by decide) (by decide) ?_
      conv => whnf
      refine RunR ?_
      refine ⟨(f, gm p a, gm a a, n / 2), ⟨rfl, rfl, rfl, trivial⟩, ⟨hk', gm_lt p a hp, gm_lt a a ha, by dsimp only; omega, ?_, rfl⟩, (by first | omega | (dsimp only; omega))⟩
      rw [← hg, gpw, if_pos (by omega)]
    · refine RunR ?_
      refine (gmul_fn a a ha ha _).mono fun r w3 ⟨hw, hr⟩ => ?_
      subst hr; subst hw
      conv => whnf
      refine RunR ?_
      refine Shr.u64 n 1 2 rfl rfl (by decide) (by decide) ?_
      conv => whnf
      refine RunR ?_
      refine ⟨(f, p, gm a a, n / 2), ⟨rfl, rfl, rfl, trivial⟩, ⟨hk', hp, gm_lt a a ha, by dsimp only; omega, ?_, rfl⟩, (by first | omega | (dsimp only; omega))⟩
      rw [← hg, gpw, if_neg (by omega)]
  · obtain rfl : n = 0 := by omega
    refine RunR ?_
    exact ⟨rfl, by rw [← hg, gpw_zero]⟩

def gi (a : Nat) : Nat := gpw 64 1 a 254
theorem ginv_fn (a : Nat) (ha : a < 256) (w : World) : Fn Tryz.prog 48 #[.int .u8 a] w fun r w' => w' = w ∧ r = .tuple #[.int .u8 ((if a = 0 then 0 else gi a : Nat)), .int .i64 (if a = 0 then 1 else 0)] := by
  refine Fn.mk Tryz.func48 rfl (by kernel_rfl) Tryz.ntmps48 rfl (by rw [Tryz.results48]) ?_
  refine RunR ?_
  refine Br.dec (fun h => ?_) (fun h => ?_)
  · obtain rfl : a = 0 := by omega
    refine RunR ?_
    exact ⟨rfl, rfl⟩
  · refine RunR ?_
    refine (power_fn a 254 ha (by decide) _).mono fun r w3 ⟨hw, hr⟩ => ?_
    subst hr; subst hw
    conv => whnf
    refine RunR ?_
    rw [if_neg (by omega), if_neg (by omega)]
    exact ⟨rfl, rfl⟩

/-- the document's product -/
def rmUp (a b : Nat) : Nat → Nat
  | 0 => 0
  | k + 1 => rmUp a b k ^^^ (if b / 2 ^ k % 2 = 1 then a * 2 ^ k else 0)
def rmDn : Nat → Nat → Nat
  | 0, p => p
  | k + 1, p => rmDn k (if p / 2 ^ (k + 8) % 2 = 1 then p ^^^ 285 * 2 ^ k else p)
def rm (a b : Nat) : Nat := rmDn 7 (rmUp a b 8) % 256

theorem rmUp_lt (a b : Nat) (ha : a < 256) : ∀ k, k ≤ 8 → rmUp a b k < 2 ^ 15
  | 0, _ => by rw [rmUp]; decide
  | k + 1, hk => by
    refine Nat.xor_lt_two_pow (rmUp_lt a b ha k (by omega)) ?_
    split
    · have : 2 ^ k ≤ 2 ^ 7 := Nat.pow_le_pow_right (by decide) (by omega)
      calc a * 2 ^ k ≤ 255 * 2 ^ 7 := Nat.mul_le_mul (by omega) this
        _ < 2 ^ 15 := by decide
    · decide

def rFind (a : Nat) : Nat → Nat → Nat
  | 0, _ => 0
  | n + 1, i => if rm a i = 1 then i else rFind a n (i + 1)
/-- the document's inverse -/
def ri (a : Nat) : Nat := rFind a 255 1
end Go.Proofs.YtcjnaljdbbjojaaGreatDoor
