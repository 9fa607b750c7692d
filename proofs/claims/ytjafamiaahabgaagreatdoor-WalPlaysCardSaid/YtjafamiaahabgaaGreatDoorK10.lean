/- Package bits, garnerref1: numbers as bytes, the sum. Windows of bytes; the sum tells one byte. Nothing is claimed here. -/
import Derived.Test.YtjafamiaahabgaaGreatDoorK09
namespace Go.Proofs.YtjafamiaahabgaaGreatDoor
open Go.RowKit
set_option linter.unusedVariables false
set_option linter.unusedSimpArgs false
set_option maxRecDepth 100000

theorem sumR_fn (v : Value) (l : List UInt8) (w : World) (hv : Sl w v (bv l)) : Fn Tryz.prog 117 #[v] w fun r w' => r = .int .u32 (crc l) ∧ Below w.heap.size w w' := by
  have hle := hv.le
  obtain ⟨a, c, rfl⟩ := hv.shape
  simp only [bv_length] at *
  refine Fn.mk Tryz.func117 rfl (by kernel_rfl) Tryz.ntmps117 rfl (by rw [Tryz.results117]) ?_
  refine RunR ?_
  refine Nw.cells (cs := tabAt 0) fun b w1 hb hB hg hlt => ?_
  conv => whnf
  refine RunR ?_
  refine V.loop (α := Nat) (fun k => [(0, .slice a l.length c), (3, .pointer (some ⟨b, 0, none⟩)), (4, .int .i64 k)]) (fun k w' => k ≤ 16 ∧ Blk w' b (tabAt k) 142 ∧ Below w.heap.size w w') (fun k => 16 - k) 0 ⟨rfl, rfl, rfl, trivial⟩
    ⟨by omega, hB, below_of_grown0 hg (Nat.le_refl _)⟩ ?_
  rintro k w2 ⟨hk, hB, hW⟩
  refine RunR ?_
  refine Br.dec (fun h => ?_) (fun h => ?_)
  · refine RunR ?_
    refine (digit_fn k (by omega) w2).mono fun r w3 ⟨hr, hw⟩ => ?_
    subst hr; subst hw
    conv => whnf
    refine RunR ?_
    intro o ho
    obtain rfl : o = k := by omega
    conv => whnf
    rw [ds_t16 o (by omega)]
    refine St.blk ttOk tl119 rfl hB (by rw [tabAt_len]; omega) rfl rfl fun w4 hB4 hg4 => ?_
    conv => whnf
    refine RunR ?_
    refine ⟨o + 1, ⟨rfl, rfl, rfl, trivial⟩, ⟨by omega, ?_, ?_⟩, (by first | omega | (dsimp only; omega))⟩
    · rw [← tabAt_set o (by omega)]; exact hB4
    · exact hW.grown hg4 hW.size (fun j hj => by injection hj with hj; omega)
  obtain rfl : k = 16 := by omega
  have hB3 := hB
  refine RunR ?_
  refine V.loop (α := Nat) (fun k => [(0, .slice a l.length c), (6, .int .i64 k), (5, .int .u32 (crcF (l.take k))), (3, .pointer (some ⟨b, 0, none⟩))])
    (fun k w' => k ≤ l.length ∧ w' = w2) (fun k => l.length - k) 0 ⟨rfl, rfl, rfl, rfl, trivial⟩ ⟨by omega, rfl⟩ ?_
  rintro k w4 ⟨hk, hw4⟩
  subst hw4
  refine RunR ?_
  refine Br.dec (fun h => ?_) (fun h => ?_)
  · have hkl : k < l.length := by omega
    obtain ⟨b', o, rfl, hr⟩ := (hv.below hW).addr (by omega)
    refine RunR ?_
    intro o' ho'
    conv => whnf
    refine Ld.one ttOk tl5 rfl (hr.at (bv_get (List.getElem?_eq_getElem hkl)) (by omega)) ?_
    conv => whnf
    have h0 := u8_lt l[k]
    have h1 := crcF_lt (l.take k)
    have h2 := crcX_lt _ l[k] h1
    have h3 := crcH_lt _ h2
    have h4 := crcH_lt _ h3
    have t1 := t16_lt ((crcF (l.take k) ^^^ l[k].toNat) % 16) (by omega)
    have t2 := t16_lt (crcH (crcF (l.take k) ^^^ l[k].toNat) % 16) (by omega)
    refine RunR ?_
    refine Bt.xor32 (crcF (l.take k)) l[k].toNat rfl rfl h1 (by omega) ?_
    conv => whnf
    refine RunR ?_
    refine Shr.u32 (crcF (l.take k) ^^^ l[k].toNat) 4 16 rfl rfl (by decide) (by decide) ?_
    conv => whnf
    refine Rem.at (crcF (l.take k) ^^^ l[k].toNat) 16 rfl rfl (by decide) ?_
    conv => whnf
    refine RunR ?_
    intro o1 ho1
    obtain rfl : o1 = (crcF (l.take k) ^^^ l[k].toNat) % 16 := by omega
    conv => whnf
    refine Ld.blk ttOk tl119 rfl hB3 (tabAt_get _ (by omega)) ?_
    conv => whnf
    refine Bt.xor32 ((crcF (l.take k) ^^^ l[k].toNat) / 16) (t16 ((crcF (l.take k) ^^^ l[k].toNat) % 16)) rfl rfl (by omega) t1 ?_
    conv => whnf
    refine RunR ?_
    refine Shr.u32 (crcH (crcF (l.take k) ^^^ l[k].toNat)) 4 16 rfl rfl (by decide) (by decide) ?_
    conv => whnf
    refine Rem.at (crcH (crcF (l.take k) ^^^ l[k].toNat)) 16 rfl rfl (by decide) ?_
    conv => whnf
    refine RunR ?_
    intro o2 ho2
    obtain rfl : o2 = crcH (crcF (l.take k) ^^^ l[k].toNat) % 16 := by omega
    conv => whnf
    refine Ld.blk ttOk tl119 rfl hB3 (tabAt_get _ (by omega)) ?_
    conv => whnf
    refine Bt.xor32 (crcH (crcF (l.take k) ^^^ l[k].toNat) / 16) (t16 (crcH (crcF (l.take k) ^^^ l[k].toNat) % 16)) rfl rfl (by omega) t2 ?_
    conv => whnf
    refine RunR ?_
    refine ⟨k + 1, ⟨rfl, rfl, ?_, rfl, trivial⟩, ⟨by omega, rfl⟩, (by first | omega | (dsimp only; omega))⟩
    rw [List.take_succ_eq_append_getElem hkl, crcF_snoc]
    rfl
  · obtain rfl : k = l.length := by omega
    refine RunR ?_
    rw [List.take_length]
    refine Bt.xor32 4294967295 (crcF l) rfl rfl (by decide) (crcF_lt l) ?_
    conv => whnf
    refine RunR ?_
    exact ⟨rfl, hW⟩

theorem get32_fn (v : Value) (l : List UInt8) (w : World) (hs : Sl w v (bv l)) :
    Fn Tryz.prog 89 #[v] w fun r w' => w' = w ∧ r = if l.length < 4 then .tuple #[.int .u32 0, .int .i64 2] else .tuple #[.int .u32 (ofB (l.take 4)), .int .i64 0] := by
  refine Fn.mk Tryz.func89 rfl (by kernel_rfl) Tryz.ntmps89 rfl (by rw [Tryz.results89]) ?_
  refine RunR ?_
  refine (get_fn v l 4 (by decide) (by decide) w hs).mono fun r w1 ⟨hw, hr⟩ => ?_
  subst hr; subst hw
  by_cases h : l.length < 4
  · rw [if_pos h, if_pos h]
    conv => whnf
    refine RunR ?_
    exact ⟨rfl, rfl⟩
  · rw [if_neg h, if_neg h]
    have h1 := ofB_lt (l.take 4)
    have h2 : (l.take 4).length = 4 := by simp; omega
    rw [h2] at h1
    conv => whnf
    refine RunR ?_
    exact ⟨rfl, rfl⟩

theorem u8_mod (x : Nat) : (.int .u8 (IntKind.u8.wrap (x : Int)) : Value) = u8 (UInt8.ofNat x) := by
  unfold u8
  rw [IntKind.wrap_u8, UInt8.toNat_ofNat']
  rfl

theorem put32R_fn (v : Nat) (hv : v < 4294967296) (w : World) :
    Fn Tryz.prog 118 #[.int .u32 v] w fun r w' => w'.ownsRow w.heap.size 5 1 r 4 (bv (putB v 4)) ∧ Below w.heap.size w w' := by
  refine Fn.mk Tryz.func118 rfl (by kernel_rfl) Tryz.ntmps118 rfl (by rw [Tryz.results118]) ?_
  refine RunR ?_
  refine Shr.u32 v 24 16777216 rfl rfl (by decide) (by decide) ?_
  conv => whnf
  refine Ar.mk ?_
  conv => whnf
  refine Shr.u32 v 16 65536 rfl rfl (by decide) (by decide) ?_
  conv => whnf
  refine Ar.mk ?_
  conv => whnf
  refine Shr.u32 v 8 256 rfl rfl (by decide) (by decide) ?_
  conv => whnf
  refine Ar.mk ?_
  conv => whnf
  refine Ar.mk ?_
  conv => whnf
  rw [u8_mod, u8_mod, u8_mod, u8_mod]
  refine Rv.build ttOk tl23 tl5 rfl rfl (by simp [cellsL, u8]) (by decide) (by decide) fun w3 ho3 hg3 _ => ?_
  conv => whnf
  refine RunR ?_
  refine ⟨?_, below_of_grown0 hg3 (Nat.le_refl _)⟩
  simpa [putB, bv, cellsL, u8] using ho3

theorem ofB4 (a b c d : UInt8) : ofB [a, b, c, d] = ((a.toNat * 256 + b.toNat) * 256 + c.toNat) * 256 + d.toNat := by simp [ofB]
theorem or_add (x b n p : Nat) (hp : 2 ^ n = p) (hb : b < p) : x * p ||| b = x * p + b := by
  subst hp
  have := Nat.shiftLeft_add_eq_or_of_lt (i := n) (b := b) hb x
  rw [Nat.shiftLeft_eq] at this
  exact this.symm
theorem or4 (a b c d : Nat) (hb : b < 256) (hc : c < 256) (hd : d < 256) : ((a * 16777216 ||| b * 65536) ||| c * 256) ||| d = ((a * 256 + b) * 256 + c) * 256 + d := by
  rw [or_add a (b * 65536) 24 16777216 (by decide) (by omega)]
  have e1 : a * 16777216 + b * 65536 = (a * 256 + b) * 65536 := by rw [Nat.add_mul, Nat.mul_assoc]
  rw [e1, or_add (a * 256 + b) (c * 256) 16 65536 (by decide) (by omega)]
  have e2 : (a * 256 + b) * 65536 + c * 256 = ((a * 256 + b) * 256 + c) * 256 := by rw [Nat.add_mul (_ * 256) c 256, Nat.mul_assoc]
  rw [e2, or_add _ d 8 256 (by decide) hd]

theorem get32R_fn (v : Value) (l : List UInt8) (h4 : 4 ≤ l.length) (w : World) (hs : Sl w v (bv l)) :
    Fn Tryz.prog 116 #[v] w fun r w' => w' = w.drew ∧ r = .int .u32 (ofB (l.take 4)) := by
  have hle := hs.le
  obtain ⟨a, c, rfl⟩ := hs.shape
  simp only [bv_length] at *
  obtain ⟨b, o, rfl, hr⟩ := hs.addr (by omega)
  match l, h4, hs, hr, hle with
  | b0 :: b1 :: b2 :: b3 :: l, h4, hs, hr, hle =>
  have q0 := u8_lt b0
  have q1 := u8_lt b1
  have q2 := u8_lt b2
  have q3 := u8_lt b3
  refine Fn.mk Tryz.func116 rfl (by kernel_rfl) Tryz.ntmps116 rfl (by rw [Tryz.results116]) ?_
  refine RunR ?_
  refine V.quiet ttOk (fun x => x = w.drew) mixed (by kernel_rfl) rfl ?_
  conv => whnf
  refine RunR ?_
  intro o0 ho0
  conv => whnf
  refine Lq.one ttOk tl5 rfl (Sl.lq hr (i := 0) (x := u8 b0) rfl (by omega)) ?_
  conv => whnf
  refine RunR ?_
  refine Shl.u32 24 16777216 rfl (by decide) (by decide) ?_
  conv => whnf
  refine RunR ?_
  intro o1 ho1
  conv => whnf
  refine Lq.one ttOk tl5 rfl (Sl.lq hr (i := 1) (x := u8 b1) rfl (by omega)) ?_
  conv => whnf
  refine RunR ?_
  refine Shl.u32 16 65536 rfl (by decide) (by decide) ?_
  conv => whnf
  refine RunR ?_
  refine Bt.or32 (b0.toNat * 16777216) (b1.toNat * 65536) (by omega) (by omega) (by omega) (by omega) ?_
  conv => whnf
  refine RunR ?_
  intro o2 ho2
  conv => whnf
  refine Lq.one ttOk tl5 rfl (Sl.lq hr (i := 2) (x := u8 b2) rfl (by omega)) ?_
  conv => whnf
  refine RunR ?_
  refine Shl.u32 8 256 rfl (by decide) (by decide) ?_
  conv => whnf
  refine RunR ?_
  have p1 : b0.toNat * 16777216 ||| b1.toNat * 65536 < 4294967296 := by rw [or_add b0.toNat (b1.toNat * 65536) 24 16777216 (by decide) (by omega)]; omega
  refine Bt.or32 (b0.toNat * 16777216 ||| b1.toNat * 65536) (b2.toNat * 256) (by omega) (by omega) (by omega) (by omega) ?_
  conv => whnf
  refine RunR ?_
  intro o3 ho3
  conv => whnf
  refine Lq.one ttOk tl5 rfl (Sl.lq hr (i := 3) (x := u8 b3) rfl (by omega)) ?_
  conv => whnf
  refine RunR ?_
  have p2 : b0.toNat * 16777216 ||| b1.toNat * 65536 ||| b2.toNat * 256 < 4294967296 := by
    have := or4 b0.toNat b1.toNat b2.toNat 0 (by omega) (by omega) (by omega)
    simp only [Nat.or_zero] at this
    rw [this]; omega
  refine Bt.or32 (b0.toNat * 16777216 ||| b1.toNat * 65536 ||| b2.toNat * 256) b3.toNat rfl rfl p2 (by omega) ?_
  conv => whnf
  refine RunR ?_
  rintro w' rfl
  conv => whnf
  refine RunR ?_
  rw [or4 _ _ _ _ (by omega) (by omega) (by omega)]
  exact ⟨rfl, by simp only [List.take, ofB4]⟩

end Go.Proofs.YtjafamiaahabgaaGreatDoor
namespace Go.Proofs.YtjafamiaahabgaaGreatDoor
open Go.RowKit
set_option linter.unusedVariables false
set_option linter.unusedSimpArgs false
set_option maxRecDepth 100000

/-- n bytes from a place on -/
def win (b : List UInt8) (a n : Nat) : List UInt8 := (b.drop a).take n
theorem win_len {b : List UInt8} {a n : Nat} (h : a + n ≤ b.length) : (win b a n).length = n := by simp [win]; omega
/-! the sum tells one byte -/
theorem t16_top : ∀ i, i < 16 → ∀ j, j < 16 → t16 i / 268435456 = t16 j / 268435456 → i = j := by decide
theorem crcH_inj {v w : Nat} (hv : v < 4294967296) (hw : w < 4294967296) (h : crcH v = crcH w) : v = w := by
  have key : ∀ x, x < 4294967296 → crcH x / 268435456 = t16 (x % 16) / 268435456 := fun x hx => by
    unfold crcH
    have h1 : ∀ y, y / 268435456 = y >>> 28 := fun y => (Nat.shiftRight_eq_div_pow y 28).symm
    rw [h1, h1, Nat.shiftRight_xor_distrib, ← h1, Nat.div_eq_of_lt (by omega), Nat.zero_xor]
  have h1 : v % 16 = w % 16 := t16_top _ (Nat.mod_lt _ (by decide)) _ (Nat.mod_lt _ (by decide)) (by rw [← key v hv, ← key w hw, h])
  unfold crcH at h
  rw [h1] at h
  have h2 : v / 16 = w / 16 := by
    have := congrArg (· ^^^ t16 (w % 16)) h
    simpa [Nat.xor_assoc] using this
  omega
theorem crcB_inj {v w : Nat} {b c : UInt8} (hv : v < 4294967296) (hw : w < 4294967296) (h : crcB v b = crcB w c) : v ^^^ b.toNat = w ^^^ c.toNat :=
  crcH_inj (crcX_lt v b hv) (crcX_lt w c hw) (crcH_inj (crcH_lt _ (crcX_lt v b hv)) (crcH_lt _ (crcX_lt w c hw)) h)
theorem xor_left {a b c : Nat} (h : a ^^^ b = a ^^^ c) : b = c := by
  have := congrArg (a ^^^ ·) h
  simpa [← Nat.xor_assoc] using this
theorem xor_right {a b c : Nat} (h : b ^^^ a = c ^^^ a) : b = c := by
  rw [Nat.xor_comm b, Nat.xor_comm c] at h; exact xor_left h
theorem fold_inj : ∀ (l : List UInt8) (v w : Nat), v < 4294967296 → w < 4294967296 → l.foldl crcB v = l.foldl crcB w → v = w
  | [], v, w, _, _, h => h
  | b :: l, v, w, hv, hw, h => xor_right (crcB_inj hv hw (fold_inj l _ _ (crcB_lt v b hv) (crcB_lt w b hw) h))
theorem fold_lt : ∀ (l : List UInt8) (a : Nat), a < 4294967296 → l.foldl crcB a < 4294967296
  | [], _, h => h
  | b :: l, a, h => fold_lt l _ (crcB_lt a b h)
theorem crc_set {l : List UInt8} {i : Nat} {z : UInt8} (hi : i < l.length) (hz : z ≠ l[i]) : crc (l.set i z) ≠ crc l := by
  intro h
  have h1 : crcF (l.set i z) = crcF l := xor_left h
  have hs : l = l.take i ++ l[i] :: l.drop (i + 1) := by rw [← List.drop_eq_getElem_cons hi, List.take_append_drop]
  have hs' : l.set i z = l.take i ++ z :: l.drop (i + 1) := List.set_eq_take_append_cons_drop.trans (if_pos hi)
  rw [hs'] at h1
  have h2 : crcF (l.take i ++ z :: l.drop (i + 1)) = crcF (l.take i ++ l[i] :: l.drop (i + 1)) := by rw [h1]; exact congrArg crcF hs
  unfold crcF at h2
  rw [List.foldl_append, List.foldl_append, List.foldl_cons, List.foldl_cons] at h2
  have hv := fold_lt (l.take i) 4294967295 (by decide)
  have h3 := xor_left (crcB_inj hv hv (fold_inj _ _ _ (crcB_lt _ _ hv) (crcB_lt _ _ hv) h2))
  exact hz (UInt8.toNat_inj.1 h3)
theorem ofB_inj : ∀ (n : Nat) (l m : List UInt8), l.length = n → m.length = n → ofB l = ofB m → l = m
  | 0, l, m, hl, hm, _ => by rw [List.length_eq_zero_iff.1 hl, List.length_eq_zero_iff.1 hm]
  | n + 1, l, m, hl, hm, h => by
    have hl' : l ≠ [] := fun h => by rw [h] at hl; cases hl
    have hm' : m ≠ [] := fun h => by rw [h] at hm; cases hm
    rw [← List.dropLast_concat_getLast hl', ← List.dropLast_concat_getLast hm', ofB_snoc, ofB_snoc] at h
    have h1 := (l.getLast hl').toNat_lt
    have h2 := (m.getLast hm').toNat_lt
    have h3 := ofB_inj n l.dropLast m.dropLast (by simp [hl]) (by simp [hm]) (by omega)
    have h4 : (l.getLast hl') = m.getLast hm' := UInt8.toNat_inj.1 (by omega)
    rw [← List.dropLast_concat_getLast hl', ← List.dropLast_concat_getLast hm', h3, h4]
theorem ofB_set {l : List UInt8} {i : Nat} {z : UInt8} (hi : i < l.length) (hz : z ≠ l[i]) : ofB (l.set i z) ≠ ofB l := fun h => by
  have := ofB_inj l.length _ _ (by simp) rfl h
  have h1 := congrArg (fun x => x[i]?) this
  simp [hi] at h1
  exact hz h1
theorem ofB_put4 (v : Nat) (h : v < 4294967296) : ofB (putB v 4) = v := by
  simp only [putB, ofB, List.foldl_cons, List.foldl_nil, UInt8.toNat_ofNat']
  omega

/-! the windows of a file -/
theorem win_set {b : List UInt8} {k a n : Nat} {z : UInt8} : win (b.set k z) a n = if a ≤ k ∧ k < a + n then (win b a n).set (k - a) z else win b a n := by
  unfold win
  rw [List.drop_set]
  split
  · rw [if_neg (by omega)]
  · rw [List.take_set]
    split
    · rfl
    · refine List.set_eq_of_length_le ?_
      simp; omega
theorem win_app {A B C : List UInt8} {n : Nat} (h : B.length = n) : win (A ++ B ++ C) A.length n = B := by
  unfold win
  rw [List.append_assoc, List.drop_left, List.take_left' h]
theorem win_app' {A B C : List UInt8} {a n : Nat} (ha : A.length = a) (h : B.length = n) : win (A ++ B ++ C) a n = B := by subst ha; exact win_app h
end Go.Proofs.YtjafamiaahabgaaGreatDoor
