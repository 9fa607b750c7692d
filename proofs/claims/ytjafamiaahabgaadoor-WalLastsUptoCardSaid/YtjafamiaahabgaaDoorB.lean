/- Contracts of package bits and of garnerref1. Nothing is claimed here. -/
import Derived.Test.YtjafamiaahabgaaDoorTy
import Derived.Test.YtjafamiaahabgaaDoorHH
import Derived.Test.YtjafamiaahabgaaDoorVV
namespace Go.Proofs.YtjafamiaahabgaaDoor
open Go.RowKit
set_option linter.unusedVariables false
set_option linter.unusedSimpArgs false
set_option maxRecDepth 100000

/-- the bytes of a number, the highest first -/
def putB (v : Nat) : Nat → List UInt8
  | 0 => []
  | n + 1 => UInt8.ofNat (v / 256 ^ n) :: putB v n
theorem putB_len (v n : Nat) : (putB v n).length = n := by induction n <;> simp [putB, *]

theorem putB_take (v n k : Nat) (h : k < n) : (putB v n).take (n - k) = (putB v n).take (n - (k + 1)) ++ [UInt8.ofNat (v / 256 ^ k)] := by
  induction n with
  | zero => omega
  | succ n ih =>
    rw [putB, show n + 1 - k = (n - k) + 1 from by omega, List.take_succ_cons]
    by_cases hk : k < n
    · rw [ih hk, show n + 1 - (k + 1) = (n - (k + 1)) + 1 from by omega, List.take_succ_cons, List.cons_append]
    · obtain rfl : k = n := by omega
      simp

theorem u8_shr (v k : Nat) : (.int .u8 (IntKind.u8.wrap ((v / 2 ^ (8 * k) : Nat) : Int)) : Value) = u8 (UInt8.ofNat (v / 256 ^ k)) := by
  unfold u8
  congr 1
  rw [IntKind.wrap_u8, Nat.pow_mul, show 2 ^ 8 = 256 from rfl]
  simp only [UInt8.toNat_ofNat']
  omega

theorem put_fn (v n : Nat) (hv : v < 18446744073709551616) (hn : n ≤ 8) (w : World) :
    Fn Tryd.prog 56 #[.int .u64 v, .int .u64 n] w fun r w' => w'.ownsRow w.heap.size 5 1 r n (bv (putB v n)) ∧ Below w.heap.size w w' := by
  refine Fn.mk Tryd.func56 rfl (by kernel_rfl) Tryd.ntmps56 rfl (by rw [Tryd.results56]) ?_
  refine RunR ?_
  refine Rv.make ttOk 0 n tl23 tl5 rfl rfl rfl (Nat.zero_le _) (by omega) (by simp only [maxLen]; omega) fun w1 ho hg => ?_
  conv => whnf
  refine RunR ?_
  refine V.loop (α := Value × Nat) (fun z => [(0, .int .u64 v), (5, z.1), (6, .int .u64 (z.2 * 8 : Nat))])
    (fun z w' => z.2 ≤ n ∧ w'.ownsRow w.heap.size 5 1 z.1 (n - z.2) (bv ((putB v n).take (n - z.2))) ∧ Below w.heap.size w w') (fun z => z.2) (_, n)
    ⟨rfl, rfl, rfl, trivial⟩ ⟨Nat.le_refl _, by simpa using ho, below_of_grown0 hg (Nat.le_refl _)⟩ ?_
  rintro ⟨s, k⟩ w2 ⟨hk, ho, hb⟩
  dsimp only at *
  have hsz := hb.size
  refine RunR ?_
  refine Br.dec (fun h => ?_) (fun h => ?_)
  · obtain ⟨k, rfl⟩ : ∃ j, k = j + 1 := ⟨k - 1, by omega⟩
    refine RunR ?_
    refine Shr.u64 v (8 * k) _ rfl (by omega) (by omega) rfl ?_
    conv => whnf
    refine Ar.mk ?_
    conv => whnf
    rw [u8_shr]
    refine Rv.build ttOk tl23 tl5 rfl rfl (by simp [cellsL, u8]) (by decide) (by decide) fun w3 ho3 hg3 _ => ?_
    conv => whnf
    refine Rv.append ttOk tl23 tl5 rfl (by decide) (own_keep0 ho hg3) (SlN.of_own ho3) (by simp [cellsL, u8, Value.oneCell']) (by simp only [maxLen]; omega) (by omega) (by have := hg3.size; omega) fun s' w4 ho4 hg4 _ => ?_
    conv => whnf
    refine ⟨(s', k), ⟨rfl, rfl, ?_, trivial⟩, ⟨by omega, ?_, ?_⟩, by simp⟩
    · show some (Value.int .u64 _) = some (.int .u64 _)
      congr 2
      omega
    · have e := putB_take v n k (by omega)
      simp only [show n - (k + 1) + 1 = n - k from by omega] at ho4
      rw [e, bv_append]
      exact ho4
    · exact (hb.trans (below_of_grown0 hg3 hsz)).trans (below_of_own (own_keep0 ho hg3) hg4 (by have := hg3.size; omega) (Nat.le_refl _))
  · obtain rfl : k = 0 := by omega
    refine RunR ?_
    simp only [Nat.sub_zero, List.take_of_length_le (Nat.le_of_eq (putB_len v n))] at ho
    exact ⟨ho, hb⟩

theorem put32_fn (v : Nat) (hv : v < 4294967296) (w : World) :
    Fn Tryd.prog 38 #[.int .u32 v] w fun r w' => w'.ownsRow w.heap.size 5 1 r 4 (bv (putB v 4)) ∧ Below w.heap.size w w' := by
  refine Fn.mk Tryd.func38 rfl (by kernel_rfl) Tryd.ntmps38 rfl (by rw [Tryd.results38]) ?_
  refine RunR ?_
  refine (put_fn v 4 (by omega) (by omega) w).mono fun r w' ⟨ho, hb⟩ => ?_
  conv => whnf
  refine RunR ?_
  exact ⟨ho, hb⟩

theorem put64_any (v : Nat) (hv : v < 18446744073709551616) (w : World) : True := trivial

/-- the number that bytes are -/
def ofB (l : List UInt8) : Nat := l.foldl (fun v c => v * 256 + c.toNat) 0
theorem ofB_snoc (l : List UInt8) (c : UInt8) : ofB (l ++ [c]) = ofB l * 256 + c.toNat := by simp [ofB]
theorem ofB_lt (l : List UInt8) : ofB l < 256 ^ l.length := by
  have key : ∀ (l : List UInt8) (a : Nat), l.foldl (fun v c => v * 256 + c.toNat) a < (a + 1) * 256 ^ l.length := by
    intro l
    induction l with
    | nil => intro a; simp
    | cons c l ih =>
      intro a
      have h1 := c.toNat_lt
      refine Nat.lt_of_lt_of_le (ih _) ?_
      rw [List.length_cons, Nat.pow_succ, Nat.mul_comm (256 ^ l.length) 256, ← Nat.mul_assoc]
      exact Nat.mul_le_mul_right _ (show a * 256 + c.toNat + 1 ≤ (a + 1) * 256 by omega)
  have := key l 0
  simpa [ofB] using this
theorem or_shl8 (a c : Nat) (hc : c < 256) : a * 256 ||| c = a * 256 + c := by
  have := Nat.shiftLeft_add_eq_or_of_lt (i := 8) (b := c) hc a
  rw [Nat.shiftLeft_eq] at this
  exact this.symm

theorem get_fn (v : Value) (l : List UInt8) (n : Nat) (h0 : 0 < n) (hn : n ≤ 8) (w : World) (hs : Sl w v (bv l)) :
    Fn Tryd.prog 63 #[v, .int .i64 n] w fun r w' => w' = w ∧ r = if l.length < n then .tuple #[.int .u64 0, .int .i64 2] else .tuple #[.int .u64 (ofB (l.take n)), .int .i64 0] := by
  have hle := hs.le
  obtain ⟨a, c, rfl⟩ := hs.shape
  simp only [bv_length] at *
  refine Fn.mk Tryd.func63 rfl (by kernel_rfl) Tryd.ntmps63 rfl (by rw [Tryd.results63]) ?_
  refine RunR ?_
  refine Br.dec (fun h => ?_) (fun h => ?_)
  · refine RunR ?_
    exact ⟨rfl, by rw [if_pos (by omega)]⟩
  · rw [if_neg (by omega)]
    obtain ⟨b, o, rfl, hr⟩ := hs.addr (by omega)
    have hl := hs.len
    refine RunR ?_
    intro n' c' hn' _
    obtain rfl : n' = n := by omega
    conv => whnf
    refine RunR ?_
    refine V.loop (α := Nat) (fun k => [(15, .slice (some ⟨b, o, none⟩) n' c'), (16, .int .i64 n'), (17, .int .i64 k), (6, .int .u64 (ofB (l.take k)))])
      (fun k w' => k ≤ n' ∧ w' = w) (fun k => n' - k) 0 ⟨rfl, rfl, rfl, rfl, trivial⟩ ⟨by omega, rfl⟩ ?_
    rintro k _ ⟨hk, rfl⟩
    refine RunR ?_
    refine Br.dec (fun h => ?_) (fun h => ?_)
    · refine RunR ?_
      intro o' ho'
      conv => whnf
      have hkl : k < l.length := by omega
      refine Ld.one ttOk tl5 rfl (hr.at (bv_get (List.getElem?_eq_getElem hkl)) (by omega)) ?_
      conv => whnf
      have h1 := ofB_lt (l.take k)
      have h2 := u8_lt l[k]
      have h3 : (l.take k).length = k := by simp; omega
      have h4 : 256 ^ (l.take k).length ≤ 256 ^ 7 := Nat.pow_le_pow_right (by omega) (by omega)
      have h5 : (256 : Nat) ^ 7 = 72057594037927936 := by decide
      refine RunR ?_
      refine Shl.u64 8 256 rfl (by decide) rfl ?_
      refine RunR ?_
      refine Bt.or64 (ofB (l.take k) * 256) l[k].toNat (by omega) rfl (by omega) (by omega) ?_
      conv => whnf
      refine RunR ?_
      refine ⟨k + 1, ⟨rfl, rfl, rfl, ?_, trivial⟩, ⟨by omega, rfl⟩, (by first | omega | (dsimp only; omega))⟩
      show some (Value.int .u64 _) = some (.int .u64 _)
      rw [or_shl8 _ _ (by omega), List.take_succ_eq_append_getElem hkl, ofB_snoc]
    · obtain rfl : k = n' := by omega
      refine RunR ?_
      exact ⟨rfl, rfl⟩

end Go.Proofs.YtjafamiaahabgaaDoor
