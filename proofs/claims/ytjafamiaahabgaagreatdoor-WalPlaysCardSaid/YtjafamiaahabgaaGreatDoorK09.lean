/- Contracts of package bits and of garnerref1. The sum of a row: package bits and garnerref1. Nothing is claimed here. -/
import Derived.Test.YtjafamiaahabgaaGreatDoorK02
import Derived.Test.YtjafamiaahabgaaGreatDoorK01
namespace Go.Proofs.YtjafamiaahabgaaGreatDoor
open Go.RowKit
set_option linter.unusedVariables false
set_option linter.unusedSimpArgs false
set_option maxRecDepth 100000

/-- the bytes of a number, the highest first -/
def putB (v : Nat) : Nat → List UInt8
  | 0 => []
  | n + 1 => UInt8.ofNat (v / 256 ^ n) :: putB v n
theorem putB_len (v n : Nat) : (putB v n).length = n := by induction n <;> simp [putB, *]

theorem putB_take (v n k : Nat) (h : k < n) : (putB v n).take (n - k) = (putB v n).take (n - (k + 1)) ++ [UInt8.ofNat (v / 256 ^ k)] := by
  induction n with
  | zero => omega
  | succ n ih =>
    rw [putB, show n + 1 - k = (n - k) + 1 from by omega, List.take_succ_cons]
    by_cases hk : k < n
    · rw [ih hk, show n + 1 - (k + 1) = (n - (k + 1)) + 1 from by omega, List.take_succ_cons, List.cons_append]
    · obtain rfl : k = n := by omega
      simp

theorem u8_shr (v k : Nat) : (.int .u8 (IntKind.u8.wrap ((v / 2 ^ (8 * k) : Nat) : Int)) : Value) = u8 (UInt8.ofNat (v / 256 ^ k)) := by
  unfold u8
  congr 1
  rw [IntKind.wrap_u8, Nat.pow_mul, show 2 ^ 8 = 256 from rfl]
  simp only [UInt8.toNat_ofNat']
  omega

theorem put_fn (v n : Nat) (hv : v < 18446744073709551616) (hn : n ≤ 8) (w : World) :
    Fn Tryz.prog 90 #[.int .u64 v, .int .u64 n] w fun r w' => w'.ownsRow w.heap.size 5 1 r n (bv (putB v n)) ∧ Below w.heap.size w w' := by
  refine Fn.mk Tryz.func90 rfl (by kernel_rfl) Tryz.ntmps90 rfl (by rw [Tryz.results90]) ?_
  refine RunR ?_
  refine Rv.make ttOk 0 n tl23 tl5 rfl rfl rfl (Nat.zero_le _) (by omega) (by simp only [maxLen]; omega) fun w1 ho hg => ?_
  conv => whnf
  refine RunR ?_
  refine V.loop (α := Value × Nat) (fun z => [(0, .int .u64 v), (5, z.1), (6, .int .u64 (z.2 * 8 : Nat))])
    (fun z w' => z.2 ≤ n ∧ w'.ownsRow w.heap.size 5 1 z.1 (n - z.2) (bv ((putB v n).take (n - z.2))) ∧ Below w.heap.size w w') (fun z => z.2) (_, n)
    ⟨rfl, rfl, rfl, trivial⟩ ⟨Nat.le_refl _, by simpa using ho, below_of_grown0 hg (Nat.le_refl _)⟩ ?_
  rintro ⟨s, k⟩ w2 ⟨hk, ho, hb⟩
  dsimp only at *
  have hsz := hb.size
  refine RunR ?_
  refine Br.dec (fun h => ?_) (fun h => ?_)
  · obtain ⟨k, rfl⟩ : ∃ j, k = j + 1 := ⟨k - 1, by omega⟩
    refine RunR ?_
    refine Shr.u64 v (8 * k) _ rfl (by omega) (by omega) rfl ?_
    conv => whnf
    refine Ar.mk ?_
    conv => whnf
    rw [u8_shr]
    refine Rv.build ttOk tl23 tl5 rfl rfl (by simp [cellsL, u8]) (by decide) (by decide) fun w3 ho3 hg3 _ => ?_
    conv => whnf
    refine Rv.append ttOk tl23 tl5 rfl (by decide) (own_keep0 ho hg3) (SlN.of_own ho3) (by simp [cellsL, u8, Value.oneCell']) (by simp only [maxLen]; omega) (by omega) (by have := hg3.size; omega) fun s' w4 ho4 hg4 _ => ?_
    conv => whnf
    refine ⟨(s', k), ⟨rfl, rfl, ?_, trivial⟩, ⟨by omega, ?_, ?_⟩, by simp⟩
    · show some (Value.int .u64 _) = some (.int .u64 _)
      congr 2
      omega
    · have e := putB_take v n k (by omega)
      simp only [show n - (k + 1) + 1 = n - k from by omega] at ho4
      rw [e, bv_append]
      exact ho4
    · exact (hb.trans (below_of_grown0 hg3 hsz)).trans (below_of_own (own_keep0 ho hg3) hg4 (by have := hg3.size; omega) (Nat.le_refl _))
  · obtain rfl : k = 0 := by omega
    refine RunR ?_
    simp only [Nat.sub_zero, List.take_of_length_le (Nat.le_of_eq (putB_len v n))] at ho
    exact ⟨ho, hb⟩

theorem put32_fn (v : Nat) (hv : v < 4294967296) (w : World) :
    Fn Tryz.prog 68 #[.int .u32 v] w fun r w' => w'.ownsRow w.heap.size 5 1 r 4 (bv (putB v 4)) ∧ Below w.heap.size w w' := by
  refine Fn.mk Tryz.func68 rfl (by kernel_rfl) Tryz.ntmps68 rfl (by rw [Tryz.results68]) ?_
  refine RunR ?_
  refine (put_fn v 4 (by omega) (by omega) w).mono fun r w' ⟨ho, hb⟩ => ?_
  conv => whnf
  refine RunR ?_
  exact ⟨ho, hb⟩

theorem put64_any (v : Nat) (hv : v < 18446744073709551616) (w : World) : True := trivial

/-- the number that bytes are -/
def ofB (l : List UInt8) : Nat := l.foldl (fun v c => v * 256 + c.toNat) 0
theorem ofB_snoc (l : List UInt8) (c : UInt8) : ofB (l ++ [c]) = ofB l * 256 + c.toNat := by simp [ofB]
theorem ofB_lt (l : List UInt8) : ofB l < 256 ^ l.length := by
  have key : ∀ (l : List UInt8) (a : Nat), l.foldl (fun v c => v * 256 + c.toNat) a < (a + 1) * 256 ^ l.length := by
    intro l
    induction l with
    | nil => intro a; simp
    | cons c l ih =>
      intro a
      have h1 := c.toNat_lt
      refine Nat.lt_of_lt_of_le (ih _) ?_
      rw [List.length_cons, Nat.pow_succ, Nat.mul_comm (256 ^ l.length) 256, ← Nat.mul_assoc]
      exact Nat.mul_le_mul_right _ (show a * 256 + c.toNat + 1 ≤ (a + 1) * 256 by omega)
  have := key l 0
  simpa [ofB] using this
theorem or_shl8 (a c : Nat) (hc : c < 256) : a * 256 ||| c = a * 256 + c := by
  have := Nat.shiftLeft_add_eq_or_of_lt (i := 8) (b := c) hc a
  rw [Nat.shiftLeft_eq] at this
  exact this.symm

theorem get_fn (v : Value) (l : List UInt8) (n : Nat) (h0 : 0 < n) (hn : n ≤ 8) (w : World) (hs : Sl w v (bv l)) :
    Fn Tryz.prog 109 #[v, .int .i64 n] w fun r w' => w' = w ∧ r = if l.length < n then .tuple #[.int .u64 0, .int .i64 2] else .tuple #[.int .u64 (ofB (l.take n)), .int .i64 0] := by
  have hle := hs.le
  obtain ⟨a, c, rfl⟩ := hs.shape
  simp only [bv_length] at *
  refine Fn.mk Tryz.func109 rfl (by kernel_rfl) Tryz.ntmps109 rfl (by rw [Tryz.results109]) ?_
  refine RunR ?_
  refine Br.dec (fun h => ?_) (fun h => ?_)
  · refine RunR ?_
    exact ⟨rfl, by rw [if_pos (by omega)]⟩
  · rw [if_neg (by omega)]
    obtain ⟨b, o, rfl, hr⟩ := hs.addr (by omega)
    have hl := hs.len
    refine RunR ?_
    intro n' c' hn' _
    obtain rfl : n' = n := by omega
    conv => whnf
    refine RunR ?_
    refine V.loop (α := Nat) (fun k => [(15, .slice (some ⟨b, o, none⟩) n' c'), (16, .int .i64 n'), (17, .int .i64 k), (6, .int .u64 (ofB (l.take k)))])
      (fun k w' => k ≤ n' ∧ w' = w) (fun k => n' - k) 0 ⟨rfl, rfl, rfl, rfl, trivial⟩ ⟨by omega, rfl⟩ ?_
    rintro k _ ⟨hk, rfl⟩
    refine RunR ?_
    refine Br.dec (fun h => ?_) (fun h => ?_)
    · refine RunR ?_
      intro o' ho'
      conv => whnf
      have hkl : k < l.length := by omega
      refine Ld.one ttOk tl5 rfl (hr.at (bv_get (List.getElem?_eq_getElem hkl)) (by omega)) ?_
      conv => whnf
      have h1 := ofB_lt (l.take k)
      have h2 := u8_lt l[k]
      have h3 : (l.take k).length = k := by simp; omega
      have h4 : 256 ^ (l.take k).length ≤ 256 ^ 7 := Nat.pow_le_pow_right (by omega) (by omega)
      have h5 : (256 : Nat) ^ 7 = 72057594037927936 := by decide
      refine RunR ?_
      refine Shl.u64 8 256 rfl (by decide) rfl ?_
      refine RunR ?_
      refine Bt.or64 (ofB (l.take k) * 256) l[k].toNat (by omega) rfl (by omega) (by omega) ?_
      conv => whnf
      refine RunR ?_
      refine ⟨k + 1, ⟨rfl, rfl, rfl, ?_, trivial⟩, ⟨by omega, rfl⟩, (by first | omega | (dsimp only; omega))⟩
      show some (Value.int .u64 _) = some (.int .u64 _)
      rw [or_shl8 _ _ (by omega), List.take_succ_eq_append_getElem hkl, ofB_snoc]
    · obtain rfl : k = n' := by omega
      refine RunR ?_
      exact ⟨rfl, rfl⟩

end Go.Proofs.YtjafamiaahabgaaGreatDoor
namespace Go.Proofs.YtjafamiaahabgaaGreatDoor
open Go.RowKit
set_option linter.unusedVariables false
set_option linter.unusedSimpArgs false
set_option maxRecDepth 100000

/-- what one digit of half a byte makes of a sum -/
def hs (n : Nat) : Nat := (n / 2) ^^^ (3988292384 &&& ((4294967296 - (n &&& 1)) % 4294967296))
def ds (n : Nat) : Nat := if n % 2 = 1 then (n / 2) ^^^ 3988292384 else n / 2
def itN (f : Nat → Nat) : Nat → Nat → Nat
  | 0, n => n
  | k + 1, n => f (itN f k n)
def t16 (i : Nat) : Nat := itN hs 4 i
theorem hs_lt (n : Nat) (h : n < 4294967296) : hs n < 4294967296 := Nat.xor_lt_two_pow (n := 32) (by omega) (Nat.lt_of_le_of_lt Nat.and_le_left (by decide))
theorem itN_lt {f : Nat → Nat} (hf : ∀ n, n < 4294967296 → f n < 4294967296) (k n : Nat) (h : n < 4294967296) : itN f k n < 4294967296 := by
  induction k with
  | zero => exact h
  | succ k ih => exact hf _ ih
theorem ds_lt (n : Nat) (h : n < 4294967296) : ds n < 4294967296 := by
  unfold ds
  split
  · exact Nat.xor_lt_two_pow (n := 32) (by omega) (by decide)
  · omega
theorem t16_lt (i : Nat) (h : i < 16) : t16 i < 4294967296 := itN_lt hs_lt 4 i (by omega)
theorem ds_t16 : ∀ i, i < 16 → itN ds 4 i = t16 i := by decide

theorem half_fn (i : Nat) (hi : i < 4294967296) (w : World) : Fn Tryz.prog 110 #[.int .u32 i] w fun r w' => r = .int .u32 (itN hs 4 i) ∧ w' = w := by
  refine Fn.mk Tryz.func110 rfl (by kernel_rfl) Tryz.ntmps110 rfl (by rw [Tryz.results110]) ?_
  refine RunR ?_
  refine V.loop (α := Nat) (fun k => [(0, .int .u32 (itN hs k i)), (3, .int .i64 k)]) (fun k w' => k ≤ 4 ∧ w' = w) (fun k => 4 - k) 0 ⟨rfl, rfl, trivial⟩ ⟨by omega, rfl⟩ ?_
  rintro k _ ⟨hk, rfl⟩
  refine RunR ?_
  refine Br.dec (fun h => ?_) (fun h => ?_)
  · have hlt := itN_lt hs_lt k i hi
    have hd : itN hs k i / 2 < 4294967296 := by omega
    refine RunR ?_
    refine Shr.u32 (itN hs k i) 1 2 rfl rfl (by decide) rfl ?_
    conv => whnf
    refine Bt.and32 (itN hs k i) 1 rfl rfl hlt (by decide) ?_
    conv => whnf
    refine Ar.mk ?_
    conv => whnf
    have e1 : IntKind.u32.wrap (0 - ((itN hs k i &&& 1 : Nat) : Int)) = (((4294967296 - (itN hs k i &&& 1)) % 4294967296 : Nat) : Int) := by
      have : itN hs k i &&& 1 ≤ 1 := Nat.and_le_right
      rw [IntKind.wrap_u32]
      omega
    refine Bt.and32 3988292384 _ rfl e1 (by decide) (Nat.mod_lt _ (by decide)) ?_
    conv => whnf
    refine Bt.xor32 _ _ rfl rfl hd (Nat.lt_of_le_of_lt Nat.and_le_left (by decide)) ?_
    conv => whnf
    refine RunR ?_
    exact ⟨k + 1, ⟨rfl, rfl, trivial⟩, ⟨by omega, rfl⟩, (by first | omega | (dsimp only; omega))⟩
  · obtain rfl : k = 4 := by omega
    refine RunR ?_
    exact ⟨rfl, rfl⟩

theorem digit_fn (i : Nat) (hi : i < 4294967296) (w : World) : Fn Tryz.prog 136 #[.int .u32 i] w fun r w' => r = .int .u32 (itN ds 4 i) ∧ w' = w := by
  refine Fn.mk Tryz.func136 rfl (by kernel_rfl) Tryz.ntmps136 rfl (by rw [Tryz.results136]) ?_
  refine RunR ?_
  refine V.loop (α := Nat) (fun k => [(0, .int .u32 (itN ds k i)), (3, .int .i64 k)]) (fun k w' => k ≤ 4 ∧ w' = w) (fun k => 4 - k) 0 ⟨rfl, rfl, trivial⟩ ⟨by omega, rfl⟩ ?_
  rintro k _ ⟨hk, rfl⟩
  refine RunR ?_
  refine Br.dec (fun h => ?_) (fun h => ?_)
  · have hlt := itN_lt ds_lt k i hi
    have hd : itN ds k i / 2 < 4294967296 := by omega
    refine RunR ?_
    refine Rem.at (itN ds k i) 2 rfl rfl (by decide) ?_
    conv => whnf
    refine RunR ?_
    refine Br.dec (fun h1 => ?_) (fun h1 => ?_)
    · refine RunR ?_
      refine Quo.at (itN ds k i) 2 rfl rfl (by decide) ?_
      refine RunR ?_
      refine Bt.xor32 _ 3988292384 rfl rfl hd (by decide) ?_
      conv => whnf
      refine RunR ?_
      refine ⟨k + 1, ⟨?_, rfl, trivial⟩, ⟨by omega, rfl⟩, (by first | omega | (dsimp only; omega))⟩
      simp only [itN, ds]
      rw [if_pos (by omega)]
      rfl
    · refine RunR ?_
      refine Quo.at (itN ds k i) 2 rfl rfl (by decide) ?_
      refine RunR ?_
      refine ⟨k + 1, ⟨?_, rfl, trivial⟩, ⟨by omega, rfl⟩, (by first | omega | (dsimp only; omega))⟩
      simp only [itN, ds]
      rw [if_neg (by omega)]
      rfl
  · obtain rfl : k = 4 := by omega
    refine RunR ?_
    exact ⟨rfl, rfl⟩

/-- the table, its first k places laid -/
def tabAt (k : Nat) : List Value := (List.range 16).map fun j => if j < k then .int .u32 (t16 j : Int) else .int .u32 0
theorem tabAt_len (k : Nat) : (tabAt k).length = 16 := by simp [tabAt]
theorem tabAt_set (k : Nat) (hk : k < 16) : (tabAt k).set k (.int .u32 (t16 k : Int)) = tabAt (k + 1) := by
  apply List.ext_getElem
  · simp [tabAt]
  · intro j h1 h2
    simp only [List.getElem_set, tabAt, List.getElem_map, List.getElem_range]
    by_cases hkj : k = j
    · subst hkj; simp
    · rw [if_neg hkj]
      by_cases hj : j < k
      · rw [if_pos hj, if_pos (by omega)]
      · rw [if_neg hj, if_neg (by omega)]
theorem tabAt_get (j : Nat) (hj : j < 16) : (tabAt 16)[j]? = some (.int .u32 (t16 j : Int)) := by
  simp [tabAt, hj]
theorem tabAt_one (k : Nat) : ∀ u ∈ tabAt k, u.oneCell' = true := by
  intro u hu
  obtain ⟨j, _, rfl⟩ := List.mem_map.1 hu
  split <;> rfl

theorem halves_fn (w : World) : Fn Tryz.prog 91 #[] w fun r w' => r = .agg (tabAt 16).toArray ∧ Below w.heap.size w w' := by
  refine Fn.mk Tryz.func91 rfl (by kernel_rfl) Tryz.ntmps91 rfl (by rw [Tryz.results91]) ?_
  refine RunR ?_
  refine Nw.cells (cs := tabAt 0) fun b w1 hb hB hg hlt => ?_
  conv => whnf
  refine RunR ?_
  refine V.loop (α := Nat) (fun k => [(0, .pointer (some ⟨b, 0, none⟩)), (2, .int .i64 k)]) (fun k w' => k ≤ 16 ∧ Blk w' b (tabAt k) 142 ∧ Below w.heap.size w w') (fun k => 16 - k) 0 ⟨rfl, rfl, trivial⟩
    ⟨by omega, hB, below_of_grown0 hg (Nat.le_refl _)⟩ ?_
  rintro k w2 ⟨hk, hB, hW⟩
  refine RunR ?_
  refine Br.dec (fun h => ?_) (fun h => ?_)
  · refine RunR ?_
    refine (half_fn k (by omega) w2).mono fun r w3 ⟨hr, hw⟩ => ?_
    subst hr; subst hw
    conv => whnf
    refine RunR ?_
    intro o ho
    obtain rfl : o = k := by omega
    conv => whnf
    refine St.blk ttOk tl119 rfl hB (by rw [tabAt_len]; omega) rfl rfl fun w4 hB4 hg4 => ?_
    conv => whnf
    refine RunR ?_
    refine ⟨o + 1, ⟨rfl, rfl, trivial⟩, ⟨by omega, ?_, ?_⟩, (by first | omega | (dsimp only; omega))⟩
    · rw [← tabAt_set o (by omega)]; exact hB4
    · exact hW.grown hg4 hW.size (fun j hj => by injection hj with hj; omega)
  · obtain rfl : k = 16 := by omega
    refine RunR ?_
    refine Ld.blks ttOk (tabAt 16) tl142 rfl hB rfl (fun j x hx => by simpa using hx) ?_
    conv => whnf
    refine St.blks ttOk tl142 rfl hB (by rw [tabAt_len]; omega) (tabAt_one 16) fun w4 hB4 hg4 => ?_
    conv => whnf
    refine RunR ?_
    refine Ld.blks ttOk (tabAt 16) tl142 rfl (cs := tabAt 16) (by simpa using hB4) rfl (fun j x hx => by simpa using hx) ?_
    conv => whnf
    exact ⟨rfl, hW.grown hg4 hW.size (fun j hj => by injection hj with hj; omega)⟩

def crcH (v : Nat) : Nat := (v / 16) ^^^ t16 (v % 16)
def crcB (v : Nat) (b : UInt8) : Nat := crcH (crcH (v ^^^ b.toNat))
def crcF (l : List UInt8) : Nat := l.foldl crcB 4294967295
/-- the CRC-32 of a row -/
def crc (l : List UInt8) : Nat := 4294967295 ^^^ crcF l
theorem crcH_lt (v : Nat) (h : v < 4294967296) : crcH v < 4294967296 := Nat.xor_lt_two_pow (n := 32) (by omega) (t16_lt _ (by omega))
theorem crcX_lt (v : Nat) (b : UInt8) (h : v < 4294967296) : v ^^^ b.toNat < 4294967296 := Nat.xor_lt_two_pow (n := 32) h (by have := b.toNat_lt; omega)
theorem crcB_lt (v : Nat) (b : UInt8) (h : v < 4294967296) : crcB v b < 4294967296 := crcH_lt _ (crcH_lt _ (crcX_lt v b h))
theorem crcF_lt (l : List UInt8) : crcF l < 4294967296 := by
  have key : ∀ (l : List UInt8) (a : Nat), a < 4294967296 → l.foldl crcB a < 4294967296 := by
    intro l
    induction l with
    | nil => intro a h; exact h
    | cons b l ih => intro a h; exact ih _ (crcB_lt a b h)
  exact key l _ (by decide)
theorem crc_lt (l : List UInt8) : crc l < 4294967296 := Nat.xor_lt_two_pow (n := 32) (by decide) (crcF_lt l)
theorem crcF_snoc (l : List UInt8) (b : UInt8) : crcF (l ++ [b]) = crcB (crcF l) b := by simp [crcF]

theorem sum_fn (v : Value) (l : List UInt8) (w : World) (hv : Sl w v (bv l)) : Fn Tryz.prog 69 #[v] w fun r w' => r = .int .u32 (crc l) ∧ Below w.heap.size w w' := by
  have hle := hv.le
  obtain ⟨a, c, rfl⟩ := hv.shape
  simp only [bv_length] at *
  refine Fn.mk Tryz.func69 rfl (by kernel_rfl) Tryz.ntmps69 rfl (by rw [Tryz.results69]) ?_
  refine RunR ?_
  refine (halves_fn w).mono fun r w1 ⟨hr, hw1⟩ => ?_
  subst hr
  conv => whnf
  refine Nw.cells (cs := List.replicate 16 (.int .u32 0)) fun b w2 hb hB hg hlt => ?_
  conv => whnf
  refine St.blks ttOk tl142 rfl hB (by rw [tabAt_len]; decide) (tabAt_one 16) fun w3 hB3 hg3 => ?_
  conv => whnf
  have hB3 : Blk w3 b (tabAt 16) 142 := by simpa [tabAt_len] using hB3
  have hW : Below w.heap.size w w3 := (hw1.trans (below_of_grown0 hg hw1.size)).grown hg3 (by have := hw1.size; have := hg.size; omega) (fun j hj => by injection hj with hj; have := hw1.size; omega)
  refine RunR ?_
  refine V.loop (α := Nat) (fun k => [(8, .slice a l.length c), (9, .int .i64 l.length), (10, .int .i64 k), (4, .int .u32 (crcF (l.take k))), (3, .pointer (some ⟨b, 0, none⟩))])
    (fun k w' => k ≤ l.length ∧ w' = w3) (fun k => l.length - k) 0 ⟨rfl, rfl, rfl, rfl, rfl, trivial⟩ ⟨by omega, rfl⟩ ?_
  rintro k w4 ⟨hk, hw4⟩
  subst hw4
  refine RunR ?_
  refine Br.dec (fun h => ?_) (fun h => ?_)
  · have hkl : k < l.length := by omega
    obtain ⟨b', o, rfl, hr⟩ := (hv.below hW).addr (by omega)
    refine RunR ?_
    intro o' ho'
    conv => whnf
    refine Ld.one ttOk tl5 rfl (hr.at (bv_get (List.getElem?_eq_getElem hkl)) (by omega)) ?_
    conv => whnf
    have h0 := u8_lt l[k]
    have h1 := crcF_lt (l.take k)
    have h2 := crcX_lt _ l[k] h1
    have h3 := crcH_lt _ h2
    have h4 := crcH_lt _ h3
    have t1 := t16_lt ((crcF (l.take k) ^^^ l[k].toNat) % 16) (by omega)
    have t2 := t16_lt (crcH (crcF (l.take k) ^^^ l[k].toNat) % 16) (by omega)
    refine RunR ?_
    refine Bt.xor32 (crcF (l.take k)) l[k].toNat rfl rfl h1 (by omega) ?_
    conv => whnf
    refine RunR ?_
    refine Shr.u32 (crcF (l.take k) ^^^ l[k].toNat) 4 16 rfl rfl (by decide) rfl ?_
    conv => whnf
    refine Bt.and32 (crcF (l.take k) ^^^ l[k].toNat) 15 rfl rfl h2 (by decide) ?_
    conv => whnf
    rw [and15]
    refine RunR ?_
    intro o1 ho1
    obtain rfl : o1 = (crcF (l.take k) ^^^ l[k].toNat) % 16 := by omega
    conv => whnf
    refine Ld.blk ttOk tl119 rfl hB3 (tabAt_get _ (by omega)) ?_
    conv => whnf
    refine Bt.xor32 ((crcF (l.take k) ^^^ l[k].toNat) / 16) (t16 ((crcF (l.take k) ^^^ l[k].toNat) % 16)) rfl rfl (by omega) t1 ?_
    conv => whnf
    refine RunR ?_
    refine Shr.u32 (crcH (crcF (l.take k) ^^^ l[k].toNat)) 4 16 rfl rfl (by decide) rfl ?_
    conv => whnf
    refine Bt.and32 (crcH (crcF (l.take k) ^^^ l[k].toNat)) 15 rfl rfl h3 (by decide) ?_
    conv => whnf
    rw [and15]
    refine RunR ?_
    intro o2 ho2
    obtain rfl : o2 = crcH (crcF (l.take k) ^^^ l[k].toNat) % 16 := by omega
    conv => whnf
    refine Ld.blk ttOk tl119 rfl hB3 (tabAt_get _ (by omega)) ?_
    conv => whnf
    refine Bt.xor32 (crcH (crcF (l.take k) ^^^ l[k].toNat) / 16) (t16 (crcH (crcF (l.take k) ^^^ l[k].toNat) % 16)) rfl rfl (by omega) t2 ?_
    conv => whnf
    refine RunR ?_
    refine ⟨k + 1, ⟨rfl, rfl, rfl, ?_, rfl, trivial⟩, ⟨by omega, rfl⟩, (by first | omega | (dsimp only; omega))⟩
    rw [List.take_succ_eq_append_getElem hkl, crcF_snoc]
    rfl
  · obtain rfl : k = l.length := by omega
    refine RunR ?_
    rw [List.take_length]
    refine Bt.xor32 4294967295 (crcF l) rfl rfl (by decide) (crcF_lt l) ?_
    conv => whnf
    refine RunR ?_
    exact ⟨rfl, hW⟩

end Go.Proofs.YtjafamiaahabgaaGreatDoor
