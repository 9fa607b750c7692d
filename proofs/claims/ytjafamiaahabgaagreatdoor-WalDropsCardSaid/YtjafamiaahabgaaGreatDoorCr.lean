/- Package bits, garnerref1: numbers as bytes, the sum. Nothing is claimed here. -/
import Derived.Test.YtjafamiaahabgaaGreatDoorC
namespace Go.Proofs.YtjafamiaahabgaaGreatDoor
open Go.RowKit
set_option linter.unusedVariables false
set_option linter.unusedSimpArgs false
set_option maxRecDepth 100000

theorem sumR_fn (v : Value) (l : List UInt8) (w : World) (hv : Sl w v (bv l)) : Fn Tryz.prog 117 #[v] w fun r w' => r = .int .u32 (crc l) ∧ Below w.heap.size w w' := by
  have hle := hv.le
  obtain ⟨a, c, rfl⟩ := hv.shape
  simp only [bv_length] at *
  refine Fn.mk Tryz.func117 rfl (by kernel_rfl) Tryz.ntmps117 rfl (by rw [Tryz.results117]) ?_
  refine RunR ?_
  refine Nw.cells (cs := tabAt 0) fun b w1 hb hB hg hlt => ?_
  conv => whnf
  refine RunR ?_
  refine V.loop (α := Nat) (fun k => [(0, .slice a l.length c), (3, .pointer (some ⟨b, 0, none⟩)), (4, .int .i64 k)]) (fun k w' => k ≤ 16 ∧ Blk w' b (tabAt k) 142 ∧ Below w.heap.size w w') (fun k => 16 - k) 0 ⟨rfl, rfl, rfl, trivial⟩
    ⟨by omega, hB, below_of_grown0 hg (Nat.le_refl _)⟩ ?_
  rintro k w2 ⟨hk, hB, hW⟩
  refine RunR ?_
  refine Br.dec (fun h => ?_) (fun h => ?_)
  · refine RunR ?_
    refine (digit_fn k (by omega) w2).mono fun r w3 ⟨hr, hw⟩ => ?_
    subst hr; subst hw
    conv => whnf
    refine RunR ?_
    intro o ho
    obtain rfl : o = k := by omega
    conv => whnf
    rw [ds_t16 o (by omega)]
    refine St.blk ttOk tl119 rfl hB (by rw [tabAt_len]; omega) rfl rfl fun w4 hB4 hg4 => ?_
    conv => whnf
    refine RunR ?_
    refine ⟨o + 1, ⟨rfl, rfl, rfl, trivial⟩, ⟨by omega, ?_, ?_⟩, (by first | omega | (dsimp only; omega))⟩
    · rw [← tabAt_set o (by omega)]; exact hB4
    · exact hW.grown hg4 hW.size (fun j hj => by injection hj with hj; omega)
  obtain rfl : k = 16 := by omega
  have hB3 := hB
  refine RunR ?_
  refine V.loop (α := Nat) (fun k => [(0, .slice a l.length c), (6, .int .i64 k), (5, .int .u32 (crcF (l.take k))), (3, .pointer (some ⟨b, 0, none⟩))])
    (fun k w' => k ≤ l.length ∧ w' = w2) (fun k => l.length - k) 0 ⟨rfl, rfl, rfl, rfl, trivial⟩ ⟨by omega, rfl⟩ ?_
  rintro k w4 ⟨hk, hw4⟩
  subst hw4
  refine RunR ?_
  refine Br.dec (fun h => ?_) (fun h => ?_)
  · have hkl : k < l.length := by omega
    obtain ⟨b', o, rfl, hr⟩ := (hv.below hW).addr (by omega)
    refine RunR ?_
    intro o' ho'
    conv => whnf
    refine Ld.one ttOk tl5 rfl (hr.at (bv_get (List.getElem?_eq_getElem hkl)) (by omega)) ?_
    conv => whnf
    have h0 := u8_lt l[k]
    have h1 := crcF_lt (l.take k)
    have h2 := crcX_lt _ l[k] h1
    have h3 := crcH_lt _ h2
    have h4 := crcH_lt _ h3
    have t1 := t16_lt ((crcF (l.take k) ^^^ l[k].toNat) % 16) (by omega)
    have t2 := t16_lt (crcH (crcF (l.take k) ^^^ l[k].toNat) % 16) (by omega)
    refine RunR ?_
    refine Bt.xor32 (crcF (l.take k)) l[k].toNat rfl rfl h1 (by omega) ?_
    conv => whnf
    refine RunR ?_
    refine Shr.u32 (crcF (l.take k) ^^^ l[k].toNat) 4 16 rfl rfl (by decide) (by decide) ?_
    conv => whnf
    refine Rem.at (crcF (l.take k) ^^^ l[k].toNat) 16 rfl rfl (by decide) ?_
    conv => whnf
    refine RunR ?_
    intro o1 ho1
    obtain rfl : o1 = (crcF (l.take k) ^^^ l[k].toNat) % 16 := by omega
    conv => whnf
    refine Ld.blk ttOk tl119 rfl hB3 (tabAt_get _ (by omega)) ?_
    conv => whnf
    refine Bt.xor32 ((crcF (l.take k) ^^^ l[k].toNat) / 16) (t16 ((crcF (l.take k) ^^^ l[k].toNat) % 16)) rfl rfl (by omega) t1 ?_
    conv => whnf
    refine RunR ?_
    refine Shr.u32 (crcH (crcF (l.take k) ^^^ l[k].toNat)) 4 16 rfl rfl (by decide) (by decide) ?_
    conv => whnf
    refine Rem.at (crcH (crcF (l.take k) ^^^ l[k].toNat)) 16 rfl rfl (by decide) ?_
    conv => whnf
    refine RunR ?_
    intro o2 ho2
    obtain rfl : o2 = crcH (crcF (l.take k) ^^^ l[k].toNat) % 16 := by omega
    conv => whnf
    refine Ld.blk ttOk tl119 rfl hB3 (tabAt_get _ (by omega)) ?_
    conv => whnf
    refine Bt.xor32 (crcH (crcF (l.take k) ^^^ l[k].toNat) / 16) (t16 (crcH (crcF (l.take k) ^^^ l[k].toNat) % 16)) rfl rfl (by omega) t2 ?_
    conv => whnf
    refine RunR ?_
    refine ⟨k + 1, ⟨rfl, rfl, ?_, rfl, trivial⟩, ⟨by omega, rfl⟩, (by first | omega | (dsimp only; omega))⟩
    rw [List.take_succ_eq_append_getElem hkl, crcF_snoc]
    rfl
  · obtain rfl : k = l.length := by omega
    refine RunR ?_
    rw [List.take_length]
    refine Bt.xor32 4294967295 (crcF l) rfl rfl (by decide) (crcF_lt l) ?_
    conv => whnf
    refine RunR ?_
    exact ⟨rfl, hW⟩

theorem get32_fn (v : Value) (l : List UInt8) (w : World) (hs : Sl w v (bv l)) :
    Fn Tryz.prog 89 #[v] w fun r w' => w' = w ∧ r = if l.length < 4 then .tuple #[.int .u32 0, .int .i64 2] else .tuple #[.int .u32 (ofB (l.take 4)), .int .i64 0] := by
  refine Fn.mk Tryz.func89 rfl (by kernel_rfl) Tryz.ntmps89 rfl (by rw [Tryz.results89]) ?_
  refine RunR ?_
  refine (get_fn v l 4 (by decide) (by decide) w hs).mono fun r w1 ⟨hw, hr⟩ => ?_
  subst hr; subst hw
  by_cases h : l.length < 4
  · rw [if_pos h, if_pos h]
    conv => whnf
    refine RunR ?_
    exact ⟨rfl, rfl⟩
  · rw [if_neg h, if_neg h]
    have h1 := ofB_lt (l.take 4)
    have h2 : (l.take 4).length = 4 := by simp; omega
    rw [h2] at h1
    conv => whnf
    refine RunR ?_
    exact ⟨rfl, rfl⟩

theorem u8_mod (x : Nat) : (.int .u8 (IntKind.u8.wrap (x : Int)) : Value) = u8 (UInt8.ofNat x) := by
  unfold u8
  rw [IntKind.wrap_u8, UInt8.toNat_ofNat']
  rfl

theorem put32R_fn (v : Nat) (hv : v < 4294967296) (w : World) :
    Fn Tryz.prog 118 #[.int .u32 v] w fun r w' => w'.ownsRow w.heap.size 5 1 r 4 (bv (putB v 4)) ∧ Below w.heap.size w w' := by
  refine Fn.mk Tryz.func118 rfl (by kernel_rfl) Tryz.ntmps118 rfl (by rw [Tryz.results118]) ?_
  refine RunR ?_
  refine Shr.u32 v 24 16777216 rfl rfl (by decide) (by decide) ?_
  conv => whnf
  refine Ar.mk ?_
  conv => whnf
  refine Shr.u32 v 16 65536 rfl rfl (by decide) (by decide) ?_
  conv => whnf
  refine Ar.mk ?_
  conv => whnf
  refine Shr.u32 v 8 256 rfl rfl (by decide) (by decide) ?_
  conv => whnf
  refine Ar.mk ?_
  conv => whnf
  refine Ar.mk ?_
  conv => whnf
  rw [u8_mod, u8_mod, u8_mod, u8_mod]
  refine Rv.build ttOk tl23 tl5 rfl rfl (by simp [cellsL, u8]) (by decide) (by decide) fun w3 ho3 hg3 _ => ?_
  conv => whnf
  refine RunR ?_
  refine ⟨?_, below_of_grown0 hg3 (Nat.le_refl _)⟩
  simpa [putB, bv, cellsL, u8] using ho3

theorem ofB4 (a b c d : UInt8) : ofB [a, b, c, d] = ((a.toNat * 256 + b.toNat) * 256 + c.toNat) * 256 + d.toNat := by simp [ofB]
theorem or_add (x b n p : Nat) (hp : 2 ^ n = p) (hb : b < p) : x * p ||| b = x * p + b := by
  subst hp
  have := Nat.shiftLeft_add_eq_or_of_lt (i := n) (b := b) hb x
  rw [Nat.shiftLeft_eq] at this
  exact this.symm
theorem or4 (a b c d : Nat) (hb : b < 256) (hc : c < 256) (hd : d < 256) : ((a * 16777216 ||| b * 65536) ||| c * 256) ||| d = ((a * 256 + b) * 256 + c) * 256 + d := by
  rw [or_add a (b * 65536) 24 16777216 (by decide) (by omega)]
  have e1 : a * 16777216 + b * 65536 = (a * 256 + b) * 65536 := by rw [Nat.add_mul, Nat.mul_assoc]
  rw [e1, or_add (a * 256 + b) (c * 256) 16 65536 (by decide) (by omega)]
  have e2 : (a * 256 + b) * 65536 + c * 256 = ((a * 256 + b) * 256 + c) * 256 := by rw [Nat.add_mul (_ * 256) c 256, Nat.mul_assoc]
  rw [e2, or_add _ d 8 256 (by decide) hd]

theorem get32R_fn (v : Value) (l : List UInt8) (h4 : 4 ≤ l.length) (w : World) (hs : Sl w v (bv l)) :
    Fn Tryz.prog 116 #[v] w fun r w' => w' = w.drew ∧ r = .int .u32 (ofB (l.take 4)) := by
  have hle := hs.le
  obtain ⟨a, c, rfl⟩ := hs.shape
  simp only [bv_length] at *
  obtain ⟨b, o, rfl, hr⟩ := hs.addr (by omega)
  match l, h4, hs, hr, hle with
  | b0 :: b1 :: b2 :: b3 :: l, h4, hs, hr, hle =>
  have q0 := u8_lt b0
  have q1 := u8_lt b1
  have q2 := u8_lt b2
  have q3 := u8_lt b3
  refine Fn.mk Tryz.func116 rfl (by kernel_rfl) Tryz.ntmps116 rfl (by rw [Tryz.results116]) ?_
  refine RunR ?_
  refine V.quiet ttOk (fun x => x = w.drew) mixed (by kernel_rfl) rfl ?_
  conv => whnf
  refine RunR ?_
  intro o0 ho0
  conv => whnf
  refine Lq.one ttOk tl5 rfl (Sl.lq hr (i := 0) (x := u8 b0) rfl (by omega)) ?_
  conv => whnf
  refine RunR ?_
  refine Shl.u32 24 16777216 rfl (by decide) (by decide) ?_
  conv => whnf
  refine RunR ?_
  intro o1 ho1
  conv => whnf
  refine Lq.one ttOk tl5 rfl (Sl.lq hr (i := 1) (x := u8 b1) rfl (by omega)) ?_
  conv => whnf
  refine RunR ?_
  refine Shl.u32 16 65536 rfl (by decide) (by decide) ?_
  conv => whnf
  refine RunR ?_
  refine Bt.or32 (b0.toNat * 16777216) (b1.toNat * 65536) (by omega) (by omega) (by omega) (by omega) ?_
  conv => whnf
  refine RunR ?_
  intro o2 ho2
  conv => whnf
  refine Lq.one ttOk tl5 rfl (Sl.lq hr (i := 2) (x := u8 b2) rfl (by omega)) ?_
  conv => whnf
  refine RunR ?_
  refine Shl.u32 8 256 rfl (by decide) (by decide) ?_
  conv => whnf
  refine RunR ?_
  have p1 : b0.toNat * 16777216 ||| b1.toNat * 65536 < 4294967296 := by rw [or_add b0.toNat (b1.toNat * 65536) 24 16777216 (by decide) (by omega)]; omega
  refine Bt.or32 (b0.toNat * 16777216 ||| b1.toNat * 65536) (b2.toNat * 256) (by omega) (by omega) (by omega) (by omega) ?_
  conv => whnf
  refine RunR ?_
  intro o3 ho3
  conv => whnf
  refine Lq.one ttOk tl5 rfl (Sl.lq hr (i := 3) (x := u8 b3) rfl (by omega)) ?_
  conv => whnf
  refine RunR ?_
  have p2 : b0.toNat * 16777216 ||| b1.toNat * 65536 ||| b2.toNat * 256 < 4294967296 := by
    have := or4 b0.toNat b1.toNat b2.toNat 0 (by omega) (by omega) (by omega)
    simp only [Nat.or_zero] at this
    rw [this]; omega
  refine Bt.or32 (b0.toNat * 16777216 ||| b1.toNat * 65536 ||| b2.toNat * 256) b3.toNat rfl rfl p2 (by omega) ?_
  conv => whnf
  refine RunR ?_
  rintro w' rfl
  conv => whnf
  refine RunR ?_
  rw [or4 _ _ _ _ (by omega) (by omega) (by omega)]
  exact ⟨rfl, by simp only [List.take, ofB4]⟩

end Go.Proofs.YtjafamiaahabgaaGreatDoor
