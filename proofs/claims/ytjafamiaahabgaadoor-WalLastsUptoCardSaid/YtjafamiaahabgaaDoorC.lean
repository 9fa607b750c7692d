/- The sum of a row: package bits and garnerref1. Nothing is claimed here. -/
import Derived.Test.YtjafamiaahabgaaDoorB
namespace Go.Proofs.YtjafamiaahabgaaDoor
open Go.RowKit
set_option linter.unusedVariables false
set_option linter.unusedSimpArgs false
set_option maxRecDepth 100000

/-- what one digit of half a byte makes of a sum -/
def hs (n : Nat) : Nat := (n / 2) ^^^ (3988292384 &&& ((4294967296 - (n &&& 1)) % 4294967296))
def ds (n : Nat) : Nat := if n % 2 = 1 then (n / 2) ^^^ 3988292384 else n / 2
def itN (f : Nat → Nat) : Nat → Nat → Nat
  | 0, n => n
  | k + 1, n => f (itN f k n)
def t16 (i : Nat) : Nat := itN hs 4 i
theorem hs_lt (n : Nat) (h : n < 4294967296) : hs n < 4294967296 := Nat.xor_lt_two_pow (n := 32) (by omega) (Nat.lt_of_le_of_lt Nat.and_le_left (by decide))
theorem itN_lt {f : Nat → Nat} (hf : ∀ n, n < 4294967296 → f n < 4294967296) (k n : Nat) (h : n < 4294967296) : itN f k n < 4294967296 := by
  induction k with
  | zero => exact h
  | succ k ih => exact hf _ ih
theorem ds_lt (n : Nat) (h : n < 4294967296) : ds n < 4294967296 := by
  unfold ds
  split
  · exact Nat.xor_lt_two_pow (n := 32) (by omega) (by decide)
  · omega
theorem t16_lt (i : Nat) (h : i < 16) : t16 i < 4294967296 := itN_lt hs_lt 4 i (by omega)
theorem ds_t16 : ∀ i, i < 16 → itN ds 4 i = t16 i := by decide

theorem half_fn (i : Nat) (hi : i < 4294967296) (w : World) : Fn Tryd.prog 69 #[.int .u32 i] w fun r w' => r = .int .u32 (itN hs 4 i) ∧ w' = w := by
  refine Fn.mk Tryd.func69 rfl (by kernel_rfl) Tryd.ntmps69 rfl (by rw [Tryd.results69]) ?_
  refine RunR ?_
  refine V.loop (α := Nat) (fun k => [(0, .int .u32 (itN hs k i)), (3, .int .i64 k)]) (fun k w' => k ≤ 4 ∧ w' = w) (fun k => 4 - k) 0 ⟨rfl, rfl, trivial⟩ ⟨by omega, rfl⟩ ?_
  rintro k _ ⟨hk, rfl⟩
  refine RunR ?_
  refine Br.dec (fun h => ?_) (fun h => ?_)
  · have hlt := itN_lt hs_lt k i hi
    have hd : itN hs k i / 2 < 4294967296 := by omega
    refine RunR ?_
    refine Shr.u32 (itN hs k i) 1 2 rfl rfl (by decide) rfl ?_
    conv => whnf
    refine Bt.and32 (itN hs k i) 1 rfl rfl hlt (by decide) ?_
    conv => whnf
    refine Ar.mk ?_
    conv => whnf
    have e1 : IntKind.u32.wrap (0 - ((itN hs k i &&& 1 : Nat) : Int)) = (((4294967296 - (itN hs k i &&& 1)) % 4294967296 : Nat) : Int) := by
      have : itN hs k i &&& 1 ≤ 1 := Nat.and_le_right
      rw [IntKind.wrap_u32]
      omega
    refine Bt.and32 3988292384 _ rfl e1 (by decide) (Nat.mod_lt _ (by decide)) ?_
    conv => whnf
    refine Bt.xor32 _ _ rfl rfl hd (Nat.lt_of_le_of_lt Nat.and_le_left (by decide)) ?_
    conv => whnf
    refine RunR ?_
    exact ⟨k + 1, ⟨rfl, rfl, trivial⟩, ⟨by omega, rfl⟩, (by first | omega | (dsimp only; omega))⟩
  · obtain rfl : k = 4 := by omega
    refine RunR ?_
    exact ⟨rfl, rfl⟩

/-- the table, its first k places laid -/
def tabAt (k : Nat) : List Value := (List.range 16).map fun j => if j < k then .int .u32 (t16 j : Int) else .int .u32 0
theorem tabAt_len (k : Nat) : (tabAt k).length = 16 := by simp [tabAt]
theorem tabAt_set (k : Nat) (hk : k < 16) : (tabAt k).set k (.int .u32 (t16 k : Int)) = tabAt (k + 1) := by
  apply List.ext_getElem
  · simp [tabAt]
  · intro j h1 h2
    simp only [List.getElem_set, tabAt, List.getElem_map, List.getElem_range]
    by_cases hkj : k = j
    · subst hkj; simp
    · rw [if_neg hkj]
      by_cases hj : j < k
      · rw [if_pos hj, if_pos (by omega)]
      · rw [if_neg hj, if_neg (by omega)]
theorem tabAt_get (j : Nat) (hj : j < 16) : (tabAt 16)[j]? = some (.int .u32 (t16 j : Int)) := by
  simp [tabAt, hj]
theorem tabAt_one (k : Nat) : ∀ u ∈ tabAt k, u.oneCell' = true := by
  intro u hu
  obtain ⟨j, _, rfl⟩ := List.mem_map.1 hu
  split <;> rfl

theorem halves_fn (w : World) : Fn Tryd.prog 57 #[] w fun r w' => r = .agg (tabAt 16).toArray ∧ Below w.heap.size w w' := by
  refine Fn.mk Tryd.func57 rfl (by kernel_rfl) Tryd.ntmps57 rfl (by rw [Tryd.results57]) ?_
  refine RunR ?_
  refine Nw.cells (cs := tabAt 0) fun b w1 hb hB hg hlt => ?_
  conv => whnf
  refine RunR ?_
  refine V.loop (α := Nat) (fun k => [(0, .pointer (some ⟨b, 0, none⟩)), (2, .int .i64 k)]) (fun k w' => k ≤ 16 ∧ Blk w' b (tabAt k) 108 ∧ Below w.heap.size w w') (fun k => 16 - k) 0 ⟨rfl, rfl, trivial⟩
    ⟨by omega, hB, below_of_grown0 hg (Nat.le_refl _)⟩ ?_
  rintro k w2 ⟨hk, hB, hW⟩
  refine RunR ?_
  refine Br.dec (fun h => ?_) (fun h => ?_)
  · refine RunR ?_
    refine (half_fn k (by omega) w2).mono fun r w3 ⟨hr, hw⟩ => ?_
    subst hr; subst hw
    conv => whnf
    refine RunR ?_
    intro o ho
    obtain rfl : o = k := by omega
    conv => whnf
    refine St.blk ttOk tl86 rfl hB (by rw [tabAt_len]; omega) rfl rfl fun w4 hB4 hg4 => ?_
    conv => whnf
    refine RunR ?_
    refine ⟨o + 1, ⟨rfl, rfl, trivial⟩, ⟨by omega, ?_, ?_⟩, (by first | omega | (dsimp only; omega))⟩
    · rw [← tabAt_set o (by omega)]; exact hB4
    · exact hW.grown hg4 hW.size (fun j hj => by injection hj with hj; omega)
  · obtain rfl : k = 16 := by omega
    refine RunR ?_
    refine Ld.blks ttOk (tabAt 16) tl108 rfl hB rfl (fun j x hx => by simpa using hx) ?_
    conv => whnf
    refine St.blks ttOk tl108 rfl hB (by rw [tabAt_len]; omega) (tabAt_one 16) fun w4 hB4 hg4 => ?_
    conv => whnf
    refine RunR ?_
    refine Ld.blks ttOk (tabAt 16) tl108 rfl (cs := tabAt 16) (by simpa using hB4) rfl (fun j x hx => by simpa using hx) ?_
    conv => whnf
    exact ⟨rfl, hW.grown hg4 hW.size (fun j hj => by injection hj with hj; omega)⟩

def crcH (v : Nat) : Nat := (v / 16) ^^^ t16 (v % 16)
def crcB (v : Nat) (b : UInt8) : Nat := crcH (crcH (v ^^^ b.toNat))
def crcF (l : List UInt8) : Nat := l.foldl crcB 4294967295
/-- the CRC-32 of a row -/
def crc (l : List UInt8) : Nat := 4294967295 ^^^ crcF l
theorem crcH_lt (v : Nat) (h : v < 4294967296) : crcH v < 4294967296 := Nat.xor_lt_two_pow (n := 32) (by omega) (t16_lt _ (by omega))
theorem crcX_lt (v : Nat) (b : UInt8) (h : v < 4294967296) : v ^^^ b.toNat < 4294967296 := Nat.xor_lt_two_pow (n := 32) h (by have := b.toNat_lt; omega)
theorem crcB_lt (v : Nat) (b : UInt8) (h : v < 4294967296) : crcB v b < 4294967296 := crcH_lt _ (crcH_lt _ (crcX_lt v b h))
theorem crcF_lt (l : List UInt8) : crcF l < 4294967296 := by
  have key : ∀ (l : List UInt8) (a : Nat), a < 4294967296 → l.foldl crcB a < 4294967296 := by
    intro l
    induction l with
    | nil => intro a h; exact h
    | cons b l ih => intro a h; exact ih _ (crcB_lt a b h)
  exact key l _ (by decide)
theorem crc_lt (l : List UInt8) : crc l < 4294967296 := Nat.xor_lt_two_pow (n := 32) (by decide) (crcF_lt l)
theorem crcF_snoc (l : List UInt8) (b : UInt8) : crcF (l ++ [b]) = crcB (crcF l) b := by simp [crcF]

theorem sum_fn (v : Value) (l : List UInt8) (w : World) (hv : Sl w v (bv l)) : Fn Tryd.prog 39 #[v] w fun r w' => r = .int .u32 (crc l) ∧ Below w.heap.size w w' := by
  have hle := hv.le
  obtain ⟨a, c, rfl⟩ := hv.shape
  simp only [bv_length] at *
  refine Fn.mk Tryd.func39 rfl (by kernel_rfl) Tryd.ntmps39 rfl (by rw [Tryd.results39]) ?_
  refine RunR ?_
  refine (halves_fn w).mono fun r w1 ⟨hr, hw1⟩ => ?_
  subst hr
  conv => whnf
  refine Nw.cells (cs := List.replicate 16 (.int .u32 0)) fun b w2 hb hB hg hlt => ?_
  conv => whnf
  refine St.blks ttOk tl108 rfl hB (by rw [tabAt_len]; decide) (tabAt_one 16) fun w3 hB3 hg3 => ?_
  conv => whnf
  have hB3 : Blk w3 b (tabAt 16) 108 := by simpa [tabAt_len] using hB3
  have hW : Below w.heap.size w w3 := (hw1.trans (below_of_grown0 hg hw1.size)).grown hg3 (by have := hw1.size; have := hg.size; omega) (fun j hj => by injection hj with hj; have := hw1.size; omega)
  refine RunR ?_
  refine V.loop (α := Nat) (fun k => [(8, .slice a l.length c), (9, .int .i64 l.length), (10, .int .i64 k), (4, .int .u32 (crcF (l.take k))), (3, .pointer (some ⟨b, 0, none⟩))])
    (fun k w' => k ≤ l.length ∧ w' = w3) (fun k => l.length - k) 0 ⟨rfl, rfl, rfl, rfl, rfl, trivial⟩ ⟨by omega, rfl⟩ ?_
  rintro k w4 ⟨hk, hw4⟩
  subst hw4
  refine RunR ?_
  refine Br.dec (fun h => ?_) (fun h => ?_)
  · have hkl : k < l.length := by omega
    obtain ⟨b', o, rfl, hr⟩ := (hv.below hW).addr (by omega)
    refine RunR ?_
    intro o' ho'
    conv => whnf
    refine Ld.one ttOk tl5 rfl (hr.at (bv_get (List.getElem?_eq_getElem hkl)) (by omega)) ?_
    conv => whnf
    have h0 := u8_lt l[k]
    have h1 := crcF_lt (l.take k)
    have h2 := crcX_lt _ l[k] h1
    have h3 := crcH_lt _ h2
    have h4 := crcH_lt _ h3
    have t1 := t16_lt ((crcF (l.take k) ^^^ l[k].toNat) % 16) (by omega)
    have t2 := t16_lt (crcH (crcF (l.take k) ^^^ l[k].toNat) % 16) (by omega)
    refine RunR ?_
    refine Bt.xor32 (crcF (l.take k)) l[k].toNat rfl rfl h1 (by omega) ?_
    conv => whnf
    refine RunR ?_
    refine Shr.u32 (crcF (l.take k) ^^^ l[k].toNat) 4 16 rfl rfl (by decide) rfl ?_
    conv => whnf
    refine Bt.and32 (crcF (l.take k) ^^^ l[k].toNat) 15 rfl rfl h2 (by decide) ?_
    conv => whnf
    rw [and15]
    refine RunR ?_
    intro o1 ho1
    obtain rfl : o1 = (crcF (l.take k) ^^^ l[k].toNat) % 16 := by omega
    conv => whnf
    refine Ld.blk ttOk tl86 rfl hB3 (tabAt_get _ (by omega)) ?_
    conv => whnf
    refine Bt.xor32 ((crcF (l.take k) ^^^ l[k].toNat) / 16) (t16 ((crcF (l.take k) ^^^ l[k].toNat) % 16)) rfl rfl (by omega) t1 ?_
    conv => whnf
    refine RunR ?_
    refine Shr.u32 (crcH (crcF (l.take k) ^^^ l[k].toNat)) 4 16 rfl rfl (by decide) rfl ?_
    conv => whnf
    refine Bt.and32 (crcH (crcF (l.take k) ^^^ l[k].toNat)) 15 rfl rfl h3 (by decide) ?_
    conv => whnf
    rw [and15]
    refine RunR ?_
    intro o2 ho2
    obtain rfl : o2 = crcH (crcF (l.take k) ^^^ l[k].toNat) % 16 := by omega
    conv => whnf
    refine Ld.blk ttOk tl86 rfl hB3 (tabAt_get _ (by omega)) ?_
    conv => whnf
    refine Bt.xor32 (crcH (crcF (l.take k) ^^^ l[k].toNat) / 16) (t16 (crcH (crcF (l.take k) ^^^ l[k].toNat) % 16)) rfl rfl (by omega) t2 ?_
    conv => whnf
    refine RunR ?_
    refine ⟨k + 1, ⟨rfl, rfl, rfl, ?_, rfl, trivial⟩, ⟨by omega, rfl⟩, (by first | omega | (dsimp only; omega))⟩
    rw [List.take_succ_eq_append_getElem hkl, crcF_snoc]
    rfl
  · obtain rfl : k = l.length := by omega
    refine RunR ?_
    rw [List.take_length]
    refine Bt.xor32 4294967295 (crcF l) rfl rfl (by decide) (crcF_lt l) ?_
    conv => whnf
    refine RunR ?_
    exact ⟨rfl, hW⟩

end Go.Proofs.YtjafamiaahabgaaDoor
