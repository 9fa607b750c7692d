/- Package gf, garnerref6: the field of 256. gf.Add, Scale; matrix; shard.times, Sums. Nothing is claimed here. -/
import Derived.Test.YtlldgodjfpgbcaaDoorK03
import Derived.Test.YtlldgodjfpgbcaaDoorK02
namespace Go.Proofs.YtlldgodjfpgbcaaDoor
open Go.RowKit
set_option linter.unusedVariables false
set_option linter.unusedSimpArgs false
set_option maxRecDepth 100000

/-- a step of the program's product -/
def gxt (a : Nat) : Nat := (a * 2 % 256) ^^^ (29 &&& (255 * (a / 128)))
def gmGo : Nat → Nat → Nat → Nat → Nat
  | 0, p, _, _ => p
  | n + 1, p, a, b => gmGo n (p ^^^ (a &&& (255 * (b % 2)))) (gxt a) (b / 2)
def gm (a b : Nat) : Nat := gmGo 8 0 a b

theorem gxt_lt (a : Nat) (h : a < 256) : gxt a < 256 := by
  refine Nat.xor_lt_two_pow (n := 8) (by omega) (Nat.lt_of_le_of_lt Nat.and_le_left (by decide))

theorem gmul_fn (a b : Nat) (ha : a < 256) (hb : b < 256) (w : World) : Fn Tryd.prog 57 #[.int .u8 a, .int .u8 b] w fun r w' => w' = w ∧ r = .int .u8 (gm a b) := by
  refine Fn.mk Tryd.func57 rfl (by kernel_rfl) Tryd.ntmps57 rfl (by rw [Tryd.results57]) ?_
  refine RunR ?_
  refine V.loop (α := Nat × Nat × Nat × Nat) (fun (k, p, a, b) => [(0, .int .u8 a), (1, .int .u8 b), (5, .int .u8 p), (6, .int .i64 k)])
    (fun (k, p, a', b') w' => k ≤ 8 ∧ p < 256 ∧ a' < 256 ∧ b' < 256 ∧ gmGo (8 - k) p a' b' = gm a b ∧ w' = w) (fun (k, _, _, _) => 8 - k) (0, 0, a, b) ⟨rfl, rfl, rfl, rfl, trivial⟩ ⟨by omega, by omega, ha, hb, rfl, rfl⟩ ?_
  rintro ⟨k, p, a, b⟩ w2 ⟨hk, hp, ha, hb, hg, hw⟩
  dsimp only at *
  subst hw
  refine RunR ?_
  refine Br.dec (fun h => ?_) (fun h => ?_)
  · refine RunR ?_
    refine Bt.and8 b 1 rfl rfl (by omega) (by omega) ?_
    rw [and1]
    conv => whnf
    refine Ar.neg8 (b % 2) (by omega) (by simp) ?_
    conv => whnf
    refine RunR ?_
    refine Bt.and8 a (255 * (b % 2)) rfl rfl (by omega) (by omega) ?_
    have h1 : a &&& (255 * (b % 2)) < 256 := Nat.lt_of_le_of_lt Nat.and_le_left ha
    conv => whnf
    refine Bt.xor8 p (a &&& (255 * (b % 2))) rfl rfl hp h1 ?_
    have h2 : p ^^^ (a &&& (255 * (b % 2))) < 256 := Nat.xor_lt_two_pow (n := 8) hp h1
    conv => whnf
    refine RunR ?_
    refine Shl.u8 1 2 rfl (by decide) (by decide) ?_
    refine Ar.m8 (a * 2) rfl ?_
    conv => whnf
    refine RunR ?_
    refine Shr.u8 a 7 128 rfl rfl (by decide) (by decide) ?_
    conv => whnf
    refine Ar.neg8 (a / 128) (by omega) (by omega) ?_
    conv => whnf
    refine RunR ?_
    have h3 : 255 * (a / 128) < 256 := by omega
    refine Bt.and8 29 (255 * (a / 128)) rfl rfl (by omega) h3 ?_
    have h4 : 29 &&& (255 * (a / 128)) < 256 := Nat.lt_of_le_of_lt Nat.and_le_left (by decide)
    conv => whnf
    refine Bt.xor8 (a * 2 % 256) (29 &&& (255 * (a / 128))) rfl rfl (by omega) h4 ?_
    conv => whnf
    refine RunR ?_
    refine Shr.u8 b 1 2 rfl rfl (by decide) (by decide) ?_
    conv => whnf
    refine RunR ?_
    refine ⟨(k + 1, _, gxt a, b / 2), ⟨rfl, rfl, rfl, rfl, trivial⟩, ⟨by dsimp only; omega, h2, gxt_lt a ha, by dsimp only; omega, ?_, rfl⟩, (by first | omega | (dsimp only; omega))⟩
    rw [← hg, (by omega : 8 - k = (8 - (k + 1)) + 1)]
    rfl
  · obtain rfl : k = 8 := by omega
    refine RunR ?_
    exact ⟨rfl, by rw [← hg]; rfl⟩

theorem gmGo_lt : ∀ (n p a b : Nat), p < 256 → a < 256 → gmGo n p a b < 256
  | 0, p, a, b, hp, ha => hp
  | n + 1, p, a, b, hp, ha => gmGo_lt n _ _ _ (xor_lt8 hp (Nat.lt_of_le_of_lt Nat.and_le_left ha)) (gxt_lt a ha)
theorem gm_lt (a b : Nat) (ha : a < 256) : gm a b < 256 := gmGo_lt 8 0 a b (by decide) ha

def gpw : Nat → Nat → Nat → Nat → Nat
  | 0, p, _, _ => p
  | f + 1, p, a, n => gpw f (if n % 2 = 1 then gm p a else p) (gm a a) (n / 2)
theorem gpw_zero : ∀ (f p a : Nat), gpw f p a 0 = p
  | 0, _, _ => rfl
  | f + 1, p, a => gpw_zero f p (gm a a)

theorem power_fn (a n : Nat) (ha : a < 256) (hn : n < 18446744073709551616) (w : World) : Fn Tryd.prog 45 #[.int .u8 a, .int .u64 n] w fun r w' => w' = w ∧ r = .int .u8 (gpw 64 1 a n) := by
  refine Fn.mk Tryd.func45 rfl (by kernel_rfl) Tryd.ntmps45 rfl (by rw [Tryd.results45]) ?_
  refine RunR ?_
  refine V.loop (α := Nat × Nat × Nat × Nat) (fun (f, p, a, n) => [(0, .int .u8 a), (1, .int .u64 n), (5, .int .u8 p)])
    (fun (f, p, a', n') w' => n' < 2 ^ f ∧ p < 256 ∧ a' < 256 ∧ n' < 18446744073709551616 ∧ gpw f p a' n' = gpw 64 1 a n ∧ w' = w) (fun (f, _, _, n) => n) (64, 1, a, n) ⟨rfl, rfl, rfl, trivial⟩ ⟨hn, by omega, ha, hn, rfl, rfl⟩ ?_
  rintro ⟨f, p, a, n⟩ w2 ⟨hk, hp, ha, hn, hg, hw⟩
  dsimp only at *
  subst hw
  refine RunR ?_
  refine Br.dec (fun h => ?_) (fun h => ?_)
  · obtain ⟨f, rfl⟩ : ∃ g, f = g + 1 := ⟨f - 1, by cases f with | zero => simp at hk; omega | succ f => omega⟩
    have hk' : n / 2 < 2 ^ f := by rw [Nat.pow_succ] at hk; omega
    refine RunR ?_
    refine Bt.and64 n 1 rfl rfl (by omega) (by omega) ?_
    rw [and1]
    conv => whnf
    refine RunR ?_
    refine Br.dec (fun h => ?_) (fun h => ?_)
    · refine RunR ?_
      refine (gmul_fn p a hp ha _).mono fun r w3 ⟨hw, hr⟩ => ?_
      subst hr; subst hw
      conv => whnf
      refine RunR ?_
      refine (gmul_fn a a ha ha _).mono fun r w3 ⟨hw, hr⟩ => ?_
      subst hr; subst hw
      conv => whnf
      refine RunR ?_
      refine Shr.u64 n 1 2 rfl rfl (by decide) (by decide) ?_
      conv => whnf
      refine RunR ?_
      refine ⟨(f, gm p a, gm a a, n / 2), ⟨rfl, rfl, rfl, trivial⟩, ⟨hk', gm_lt p a hp, gm_lt a a ha, by dsimp only; omega, ?_, rfl⟩, (by first | omega | (dsimp only; omega))⟩
      rw [← hg, gpw, if_pos (by omega)]
    · refine RunR ?_
      refine (gmul_fn a a ha ha _).mono fun r w3 ⟨hw, hr⟩ => ?_
      subst hr; subst hw
      conv => whnf
      refine RunR ?_
      refine Shr.u64 n 1 2 rfl rfl (by decide) (by decide) ?_
      conv => whnf
      refine RunR ?_
      refine ⟨(f, p, gm a a, n / 2), ⟨rfl, rfl, rfl, trivial⟩, ⟨hk', hp, gm_lt a a ha, by dsimp only; omega, ?_, rfl⟩, (by first | omega | (dsimp only; omega))⟩
      rw [← hg, gpw, if_neg (by omega)]
  · obtain rfl : n = 0 := by omega
    refine RunR ?_
    exact ⟨rfl, by rw [← hg, gpw_zero]⟩

def gi (a : Nat) : Nat := gpw 64 1 a 254
theorem ginv_fn (a : Nat) (ha : a < 256) (w : World) : Fn Tryd.prog 35 #[.int .u8 a] w fun r w' => w' = w ∧ r = .tuple #[.int .u8 ((if a = 0 then 0 else gi a : Nat)), .int .i64 (if a = 0 then 1 else 0)] := by
  refine Fn.mk Tryd.func35 rfl (by kernel_rfl) Tryd.ntmps35 rfl (by rw [Tryd.results35]) ?_
  refine RunR ?_
  refine Br.dec (fun h => ?_) (fun h => ?_)
  · obtain rfl : a = 0 := by omega
    refine RunR ?_
    exact ⟨rfl, rfl⟩
  · refine RunR ?_
    refine (power_fn a 254 ha (by decide) _).mono fun r w3 ⟨hw, hr⟩ => ?_
    subst hr; subst hw
    conv => whnf
    refine RunR ?_
    rw [if_neg (by omega), if_neg (by omega)]
    exact ⟨rfl, rfl⟩

/-- the document's product -/
def rmUp (a b : Nat) : Nat → Nat
  | 0 => 0
  | k + 1 => rmUp a b k ^^^ (if b / 2 ^ k % 2 = 1 then a * 2 ^ k else 0)
def rmDn : Nat → Nat → Nat
  | 0, p => p
  | k + 1, p => rmDn k (if p / 2 ^ (k + 8) % 2 = 1 then p ^^^ 285 * 2 ^ k else p)
def rm (a b : Nat) : Nat := rmDn 7 (rmUp a b 8) % 256

theorem rmUp_lt (a b : Nat) (ha : a < 256) : ∀ k, k ≤ 8 → rmUp a b k < 2 ^ 15
  | 0, _ => by rw [rmUp]; decide
  | k + 1, hk => by
    refine Nat.xor_lt_two_pow (rmUp_lt a b ha k (by omega)) ?_
    split
    · have : 2 ^ k ≤ 2 ^ 7 := Nat.pow_le_pow_right (by decide) (by omega)
      calc a * 2 ^ k ≤ 255 * 2 ^ 7 := Nat.mul_le_mul (by omega) this
        _ < 2 ^ 15 := by decide
    · decide

theorem rmul_fn (a b : Nat) (ha : a < 256) (hb : b < 256) (w : World) : Fn Tryd.prog 53 #[.int .u8 a, .int .u8 b] w fun r w' => w' = w ∧ r = .int .u8 (rm a b) := by
  refine Fn.mk Tryd.func53 rfl (by kernel_rfl) Tryd.ntmps53 rfl (by rw [Tryd.results53]) ?_
  refine RunR ?_
  refine V.loop (α := Nat) (fun k => [(0, .int .u8 a), (1, .int .u8 b), (5, .int .i64 (rmUp a b k)), (6, .int .i64 k)])
    (fun k w' => k ≤ 8 ∧ w' = w) (fun k => 8 - k) 0 ⟨rfl, rfl, rfl, rfl, trivial⟩ ⟨by omega, rfl⟩ ?_
  rintro k w2 ⟨hk, rfl⟩
  refine RunR ?_
  refine Br.dec (fun h => ?_) (fun h => ?_)
  · have hp : 2 ^ k ≤ 2 ^ 7 := Nat.pow_le_pow_right (by decide) (by omega)
    have hu := rmUp_lt a b ha k hk
    have hx : a * 2 ^ k < 2 ^ 15 := Nat.lt_of_le_of_lt (Nat.mul_le_mul (by omega : a ≤ 255) hp) (by decide)
    refine RunR ?_
    refine Shr.u8 b k (2 ^ k) rfl rfl (by omega) rfl ?_
    have hd : b / 2 ^ k < 256 := Nat.lt_of_le_of_lt (Nat.div_le_self _ _) hb
    conv => whnf
    refine Bt.and8 (b / 2 ^ k) 1 rfl rfl hd (by omega) ?_
    rw [and1]
    conv => whnf
    refine RunR ?_
    refine Br.dec (fun h1 => ?_) (fun h1 => ?_)
    · refine RunR ?_
      refine Shl.i64 k (2 ^ k) rfl (by omega) rfl ?_
      refine Ar.mi (a * 2 ^ k) (by simp) (by omega) ?_
      conv => whnf
      refine Bt.xorI (rmUp a b k) (a * 2 ^ k) rfl rfl (by omega) (by omega) ?_
      conv => whnf
      refine RunR ?_
      refine ⟨k + 1, ⟨rfl, rfl, ?_, rfl, trivial⟩, ⟨by omega, rfl⟩, (by first | omega | (dsimp only; omega))⟩
      rw [rmUp, if_pos (by omega)]
      rfl
    · refine RunR ?_
      refine ⟨k + 1, ⟨rfl, rfl, ?_, rfl, trivial⟩, ⟨by omega, rfl⟩, (by first | omega | (dsimp only; omega))⟩
      rw [rmUp, if_neg (by omega), Nat.xor_zero]
      rfl
  obtain rfl : k = 8 := by omega
  have hu := rmUp_lt a b ha 8 (by omega)
  refine RunR ?_
  refine V.loop (α := Nat × Nat) (fun (k, p) => [(0, .int .u8 a), (1, .int .u8 b), (5, .int .i64 p), (7, .int .i64 ((k : Int) + 7))])
    (fun (k, p) w' => k ≤ 7 ∧ p < 2 ^ 15 ∧ rmDn k p = rmDn 7 (rmUp a b 8) ∧ w' = w2) (fun (k, _) => k) (7, rmUp a b 8) ⟨rfl, rfl, rfl, rfl, trivial⟩ ⟨by omega, hu, rfl, rfl⟩ ?_
  rintro ⟨k, p⟩ w2 ⟨hk, hp, hg, rfl⟩
  dsimp only at *
  refine RunR ?_
  refine Br.dec (fun h => ?_) (fun h => ?_)
  · obtain ⟨k, rfl⟩ : ∃ j, k = j + 1 := ⟨k - 1, by omega⟩
    have h2 : 2 ^ k ≤ 2 ^ 6 := Nat.pow_le_pow_right (by decide) (by omega)
    have h3 : 285 * 2 ^ k < 2 ^ 15 := by omega
    refine RunR ?_
    refine Shr.i64 p (k + 8) (2 ^ (k + 8)) rfl (by omega) (by omega) rfl ?_
    have hd : p / 2 ^ (k + 8) < 2 ^ 15 := Nat.lt_of_le_of_lt (Nat.div_le_self _ _) hp
    conv => whnf
    refine Bt.andI (p / 2 ^ (k + 8)) 1 rfl rfl (by omega) (by omega) ?_
    rw [and1]
    conv => whnf
    refine RunR ?_
    refine Br.dec (fun h1 => ?_) (fun h1 => ?_)
    · refine RunR ?_
      refine Shl.i64 k (2 ^ k) (by omega) (by omega) rfl ?_
      refine Ar.mi (285 * 2 ^ k) (by simp) (by omega) ?_
      conv => whnf
      refine Bt.xorI p (285 * 2 ^ k) rfl rfl (by omega) (by omega) ?_
      have hx : p ^^^ 285 * 2 ^ k < 2 ^ 15 := Nat.xor_lt_two_pow hp h3
      conv => whnf
      refine RunR ?_
      refine ⟨(k, p ^^^ 285 * 2 ^ k), ⟨rfl, rfl, rfl, ?_, trivial⟩, ⟨by dsimp only; omega, hx, ?_, rfl⟩, (by first | omega | (dsimp only; omega))⟩
      · exact vint (by push_cast; omega)
      · rw [← hg, rmDn, if_pos (by exact_mod_cast h1)]
    · refine RunR ?_
      refine ⟨(k, p), ⟨rfl, rfl, rfl, ?_, trivial⟩, ⟨by dsimp only; omega, hp, ?_, rfl⟩, (by first | omega | (dsimp only; omega))⟩
      · exact vint (by push_cast; omega)
      · rw [← hg, rmDn, if_neg (fun hc => h1 (by exact_mod_cast hc))]
  · obtain rfl : k = 0 := by omega
    refine RunR ?_
    refine Ar.m8 p rfl ?_
    conv => whnf
    refine RunR ?_
    exact ⟨rfl, by rw [rm, ← hg, rmDn]⟩

def rFind (a : Nat) : Nat → Nat → Nat
  | 0, _ => 0
  | n + 1, i => if rm a i = 1 then i else rFind a n (i + 1)
/-- the document's inverse -/
def ri (a : Nat) : Nat := rFind a 255 1
theorem rinv_fn (a : Nat) (ha : a < 256) (w : World) : Fn Tryd.prog 49 #[.int .u8 a] w fun r w' => w' = w ∧ r = .int .u8 (ri a) := by
  refine Fn.mk Tryd.func49 rfl (by kernel_rfl) Tryd.ntmps49 rfl (by rw [Tryd.results49]) ?_
  refine RunR ?_
  refine V.loop (α := Nat) (fun i => [(0, .int .u8 a), (3, .int .i64 i)])
    (fun i w' => 1 ≤ i ∧ i ≤ 256 ∧ rFind a (256 - i) i = ri a ∧ w' = w) (fun i => 256 - i) 1 ⟨rfl, rfl, trivial⟩ ⟨by omega, by omega, rfl, rfl⟩ ?_
  rintro i w2 ⟨h0, hi, hg, rfl⟩
  refine RunR ?_
  refine Br.dec (fun h => ?_) (fun h => ?_)
  · have e : 256 - i = (256 - (i + 1)) + 1 := by omega
    rw [e, rFind] at hg
    refine RunR ?_
    refine (rmul_fn a i ha (by omega) _).mono fun r w3 ⟨hw, hr⟩ => ?_
    subst hr; subst hw
    conv => whnf
    refine RunR ?_
    refine Br.dec (fun h1 => ?_) (fun h1 => ?_)
    · rw [if_pos (by exact_mod_cast h1)] at hg
      subst hg
      refine RunR ?_
      exact ⟨rfl, rfl⟩
    · rw [if_neg (fun hc => h1 (by exact_mod_cast hc))] at hg
      refine RunR ?_
      exact ⟨i + 1, ⟨rfl, rfl, trivial⟩, ⟨by omega, by omega, hg, rfl⟩, (by first | omega | (dsimp only; omega))⟩
  · obtain rfl : i = 256 := by omega
    refine RunR ?_
    exact ⟨rfl, by rw [← hg]; rfl⟩

end Go.Proofs.YtlldgodjfpgbcaaDoor
namespace Go.Proofs.YtlldgodjfpgbcaaDoor
open Go.RowKit
set_option linter.unusedVariables false
set_option linter.unusedSimpArgs false
set_option maxRecDepth 100000

def gmb (a b : UInt8) : UInt8 := UInt8.ofNat (gm a.toNat b.toNat)
def gib (a : UInt8) : UInt8 := UInt8.ofNat (if a.toNat = 0 then 0 else gi a.toNat)
def rmb (a b : UInt8) : UInt8 := UInt8.ofNat (rm a.toNat b.toNat)
def rib (a : UInt8) : UInt8 := UInt8.ofNat (ri a.toNat)
theorem u8lt (a : UInt8) : a.toNat < 256 := by have := a.toNat_lt; omega
theorem gpw_lt : ∀ (f p a n : Nat), p < 256 → a < 256 → gpw f p a n < 256
  | 0, _, _, _, hp, _ => hp
  | f + 1, p, a, n, hp, ha => gpw_lt f _ _ _ (by split; exact gm_lt p a hp; exact hp) (gm_lt a a ha)
theorem gi_lt (a : Nat) (h : a < 256) : gi a < 256 := gpw_lt 64 1 a 254 (by decide) h
theorem rFind_lt (a : Nat) : ∀ (n i : Nat), i + n ≤ 256 → rFind a n i < 256
  | 0, _, _ => by rw [rFind]; decide
  | n + 1, i, h => by
    rw [rFind]
    split
    · omega
    · exact rFind_lt a n (i + 1) (by omega)
theorem ri_lt (a : Nat) : ri a < 256 := rFind_lt a 255 1 (by decide)
theorem rm_lt (a b : Nat) : rm a b < 256 := Nat.mod_lt _ (by decide)
theorem u8_ofNat (x : Nat) (h : x < 256) : (.int .u8 (x : Int) : Value) = u8 (UInt8.ofNat x) := by
  unfold u8
  rw [UInt8.toNat_ofNat', Nat.mod_eq_of_lt (by simpa using h)]
theorem gmb_fn (a b : UInt8) (w : World) : Fn Tryd.prog 57 #[u8 a, u8 b] w fun r w' => w' = w ∧ r = u8 (gmb a b) :=
  (gmul_fn a.toNat b.toNat (u8lt a) (u8lt b) w).mono fun r w' ⟨h1, h2⟩ => ⟨h1, h2.trans (u8_ofNat _ (gm_lt _ _ (u8lt a)))⟩
theorem gib_fn (a : UInt8) (w : World) : Fn Tryd.prog 35 #[u8 a] w fun r w' => w' = w ∧ r = .tuple #[u8 (gib a), .int .i64 (if a.toNat = 0 then 1 else 0)] :=
  (ginv_fn a.toNat (u8lt a) w).mono fun r w' ⟨h1, h2⟩ => ⟨h1, h2.trans (by rw [u8_ofNat _ (by split; decide; exact gi_lt _ (u8lt a))]; rfl)⟩
theorem rmb_fn (a b : UInt8) (w : World) : Fn Tryd.prog 53 #[u8 a, u8 b] w fun r w' => w' = w ∧ r = u8 (rmb a b) :=
  (rmul_fn a.toNat b.toNat (u8lt a) (u8lt b) w).mono fun r w' ⟨h1, h2⟩ => ⟨h1, h2.trans (u8_ofNat _ (rm_lt _ _))⟩
theorem rib_fn (a : UInt8) (w : World) : Fn Tryd.prog 49 #[u8 a] w fun r w' => w' = w ∧ r = u8 (rib a) :=
  (rinv_fn a.toNat (u8lt a) w).mono fun r w' ⟨h1, h2⟩ => ⟨h1, h2.trans (u8_ofNat _ (ri_lt _))⟩

theorem bv_fill (A : List UInt8) (m : Nat) : bv A ++ List.replicate m (u8 0) = bv (A ++ List.replicate m 0) := by simp [bv]

theorem bv_map_succ {l : List UInt8} (f : UInt8 → UInt8) {k : Nat} (hk : k < l.length) : bv ((l.take (k + 1)).map f) = bv ((l.take k).map f) ++ [u8 (f l[k])] := by
  rw [List.take_succ_eq_append_getElem hk, List.map_append, bv_append]
  rfl
theorem bv_zip_succ {l m : List UInt8} (f : UInt8 → UInt8 → UInt8) {k : Nat} (hk : k < l.length) (hm : k < m.length) : bv ((List.zipWith f l m).take (k + 1)) = bv ((List.zipWith f l m).take k) ++ [u8 (f l[k] m[k])] := by
  have : k < (List.zipWith f l m).length := by simp; omega
  rw [List.take_succ_eq_append_getElem this, bv_append, List.getElem_zipWith]
  rfl

theorem scale_fn (v : Value) (l : List UInt8) (c : UInt8) (w : World) (hs : Sl w v (bv l)) (hl : l.length ≤ 140737488355328) :
    Fn Tryd.prog 47 #[v, u8 c] w fun r w' => w'.ownsRow w.heap.size 5 1 r l.length (bv (l.map fun x => gmb x c)) ∧ Below w.heap.size w w' := by
  have hle := hs.le
  obtain ⟨a, cp, rfl⟩ := hs.shape
  simp only [bv_length] at *
  refine Fn.mk Tryd.func47 rfl (by kernel_rfl) Tryd.ntmps47 rfl (by rw [Tryd.results47]) ?_
  refine RunR ?_
  refine Rv.make ttOk l.length l.length tl22 tl5 rfl rfl rfl (Nat.le_refl _) (by omega) (by simp only [maxLen]; omega) fun w1 ho hg => ?_
  conv => whnf
  refine RunR ?_
  refine V.loop (α := Nat) (fun k => [(0, .slice a l.length cp), (1, u8 c), (5, .slice (some ⟨w.heap.size, 0, none⟩) l.length l.length), (11, .int .i64 l.length), (12, .int .i64 k)])
    (fun k w' => k ≤ l.length ∧ w'.ownsRow w.heap.size 5 1 (.slice (some ⟨w.heap.size, 0, none⟩) l.length l.length) l.length (bv ((l.take k).map (fun x => gmb x c)) ++ List.replicate (l.length - k) (u8 0)) ∧ Below w.heap.size w w')
    (fun k => l.length - k) 0 ⟨rfl, rfl, rfl, rfl, rfl, trivial⟩ ⟨by omega, ho, below_of_grown0 hg (Nat.le_refl _)⟩ ?_
  rintro k w2 ⟨hk, ho, hW⟩
  refine RunR ?_
  refine Br.dec (fun h => ?_) (fun h => ?_)
  · have hkl : k < l.length := by omega
    obtain ⟨b', o, rfl, hr⟩ := (hs.below hW).addr (by omega)
    refine RunR ?_
    intro o' ho'
    conv => whnf
    refine Ld.one ttOk tl5 rfl (hr.at (bv_get (List.getElem?_eq_getElem hkl)) (by omega)) ?_
    conv => whnf
    refine (gmb_fn l[k] c w2).mono fun r w3 ⟨hw, hr⟩ => ?_
    subst hr; subst hw
    conv => whnf
    refine RunR ?_
    intro o2 ho2
    obtain rfl : o2 = k := by omega
    conv => whnf
    refine St.own tl5 rfl ho hkl rfl rfl ttOk fun w4 ho4 hg4 => ?_
    conv => whnf
    refine RunR ?_
    refine ⟨o2 + 1, ⟨rfl, rfl, rfl, rfl, rfl, trivial⟩, ⟨by omega, ?_, ?_⟩, (by first | omega | (dsimp only; omega))⟩
    · rw [(by omega : l.length - o2 = (l.length - (o2 + 1)) + 1), fill_set _ _ _ _ (by simp; omega)] at ho4
      rw [bv_map_succ _ hkl]
      exact ho4
    · exact hW.trans (below_own_store hg4 hW.size (Nat.le_refl _))
  · obtain rfl : k = l.length := by omega
    refine RunR ?_
    refine ⟨?_, hW⟩
    simpa using ho

theorem add_fn (v1 v2 : Value) (l1 l2 : List UInt8) (w : World) (h1 : Sl w v1 (bv l1)) (h2 : Sl w v2 (bv l2)) (he : l2.length = l1.length) (hl : l1.length ≤ 140737488355328) :
    Fn Tryd.prog 46 #[v1, v2] w fun r w' => ∃ u, r = .tuple #[u, .int .i64 0] ∧ w'.ownsRow w.heap.size 5 1 u l1.length (bv (List.zipWith (· ^^^ ·) l1 l2)) ∧ Below w.heap.size w w' := by
  have hle := h1.le
  obtain ⟨a, cp, rfl⟩ := h1.shape
  obtain ⟨a2, cp2, rfl⟩ := h2.shape
  simp only [bv_length] at *
  rw [he] at h2
  rw [he]
  refine Fn.mk Tryd.func46 rfl (by kernel_rfl) Tryd.ntmps46 rfl (by rw [Tryd.results46]) ?_
  refine RunR ?_
  refine Rv.make ttOk l1.length l1.length tl22 tl5 rfl rfl rfl (Nat.le_refl _) (by omega) (by simp only [maxLen]; omega) fun w1 ho hg => ?_
  conv => whnf
  refine RunR ?_
  refine V.loop (α := Nat) (fun k => [(0, .slice a l1.length cp), (1, .slice a2 l1.length cp2), (6, .slice (some ⟨w.heap.size, 0, none⟩) l1.length l1.length), (17, .int .i64 l1.length), (18, .int .i64 k)])
    (fun k w' => k ≤ l1.length ∧ w'.ownsRow w.heap.size 5 1 (.slice (some ⟨w.heap.size, 0, none⟩) l1.length l1.length) l1.length (bv ((List.zipWith (· ^^^ ·) l1 l2).take k) ++ List.replicate (l1.length - k) (u8 0)) ∧ Below w.heap.size w w')
    (fun k => l1.length - k) 0 ⟨rfl, rfl, rfl, rfl, rfl, trivial⟩ ⟨by omega, ho, below_of_grown0 hg (Nat.le_refl _)⟩ ?_
  rintro k w2 ⟨hk, ho, hW⟩
  refine RunR ?_
  refine Br.dec (fun h => ?_) (fun h => ?_)
  · have hkl : k < l1.length := by omega
    have hkm : k < l2.length := by omega
    obtain ⟨b', o, rfl, hr⟩ := (h1.below hW).addr (by omega)
    obtain ⟨b2, o2, rfl, hr2⟩ := (h2.below hW).addr (by omega)
    refine RunR ?_
    refine V.tail ttOk 12 mixed (by kernel_rfl) ?_
    conv => whnf
    refine RunR ?_
    intro o' ho'
    conv => whnf
    refine Lq.one ttOk tl5 rfl (Sl.lq hr (bv_get (List.getElem?_eq_getElem hkl)) (by omega)) ?_
    conv => whnf
    refine RunR ?_
    intro o4 ho4
    conv => whnf
    refine Lq.one ttOk tl5 rfl (Sl.lq hr2 (bv_get (List.getElem?_eq_getElem hkm)) (by omega)) ?_
    conv => whnf
    refine Bt.xor8 l1[k].toNat l2[k].toNat rfl rfl (u8lt _) (u8lt _) ?_
    conv => whnf
    refine RunR ?_
    intro o5 ho5
    obtain rfl : o5 = k := by omega
    conv => whnf
    refine St.own tl5 rfl ho.drew hkl rfl rfl ttOk fun w4 ho4 hg4 => ?_
    conv => whnf
    refine RunR ?_
    refine ⟨o5 + 1, ⟨rfl, rfl, rfl, rfl, rfl, trivial⟩, ⟨by omega, ?_, ?_⟩, (by first | omega | (dsimp only; omega))⟩
    · rw [(by omega : l1.length - o5 = (l1.length - (o5 + 1)) + 1), fill_set _ _ _ _ (by simp; omega)] at ho4
      rw [bv_zip_succ _ hkl hkm]
      rw [u8_ofNat _ (xor_lt8 (u8lt _) (u8lt _))] at ho4
      have e : UInt8.ofNat (l1[o5].toNat ^^^ l2[o5].toNat) = l1[o5] ^^^ l2[o5] := by
        rw [← UInt8.toNat_xor, UInt8.ofNat_toNat]
      rw [e] at ho4
      exact ho4
    · exact hW.drew.trans (below_own_store hg4 hW.size (Nat.le_refl _))
  · obtain rfl : k = l1.length := by omega
    refine RunR ?_
    refine ⟨_, rfl, ?_, hW⟩
    rw [List.take_of_length_le (by simp; omega)] at ho
    simpa using ho

end Go.Proofs.YtlldgodjfpgbcaaDoor
