/- Package bits, garnerref1: numbers as bytes, the sum. Nothing is claimed here. -/
import Derived.Test.YtjafamiaahabgaaDoorC
namespace Go.Proofs.YtjafamiaahabgaaDoor
open Go.RowKit
set_option linter.unusedVariables false
set_option linter.unusedSimpArgs false
set_option maxRecDepth 100000

theorem get32_fn (v : Value) (l : List UInt8) (w : World) (hs : Sl w v (bv l)) :
    Fn Tryd.prog 48 #[v] w fun r w' => w' = w ∧ r = if l.length < 4 then .tuple #[.int .u32 0, .int .i64 2] else .tuple #[.int .u32 (ofB (l.take 4)), .int .i64 0] := by
  refine Fn.mk Tryd.func48 rfl (by kernel_rfl) Tryd.ntmps48 rfl (by rw [Tryd.results48]) ?_
  refine RunR ?_
  refine (get_fn v l 4 (by decide) (by decide) w hs).mono fun r w1 ⟨hw, hr⟩ => ?_
  subst hr; subst hw
  by_cases h : l.length < 4
  · rw [if_pos h, if_pos h]
    conv => whnf
    refine RunR ?_
    exact ⟨rfl, rfl⟩
  · rw [if_neg h, if_neg h]
    have h1 := ofB_lt (l.take 4)
    have h2 : (l.take 4).length = 4 := by simp; omega
    rw [h2] at h1
    conv => whnf
    refine RunR ?_
    exact ⟨rfl, rfl⟩

theorem u8_mod (x : Nat) : (.int .u8 (IntKind.u8.wrap (x : Int)) : Value) = u8 (UInt8.ofNat x) := by
  unfold u8
  rw [IntKind.wrap_u8, UInt8.toNat_ofNat']
  rfl

theorem ofB4 (a b c d : UInt8) : ofB [a, b, c, d] = ((a.toNat * 256 + b.toNat) * 256 + c.toNat) * 256 + d.toNat := by simp [ofB]
theorem or_add (x b n p : Nat) (hp : 2 ^ n = p) (hb : b < p) : x * p ||| b = x * p + b := by
  subst hp
  have := Nat.shiftLeft_add_eq_or_of_lt (i := n) (b := b) hb x
  rw [Nat.shiftLeft_eq] at this
  exact this.symm
theorem or4 (a b c d : Nat) (hb : b < 256) (hc : c < 256) (hd : d < 256) : ((a * 16777216 ||| b * 65536) ||| c * 256) ||| d = ((a * 256 + b) * 256 + c) * 256 + d := by
  rw [or_add a (b * 65536) 24 16777216 (by decide) (by omega)]
  have e1 : a * 16777216 + b * 65536 = (a * 256 + b) * 65536 := by rw [Nat.add_mul, Nat.mul_assoc]
  rw [e1, or_add (a * 256 + b) (c * 256) 16 65536 (by decide) (by omega)]
  have e2 : (a * 256 + b) * 65536 + c * 256 = ((a * 256 + b) * 256 + c) * 256 := by rw [Nat.add_mul (_ * 256) c 256, Nat.mul_assoc]
  rw [e2, or_add _ d 8 256 (by decide) hd]

end Go.Proofs.YtjafamiaahabgaaDoor
