/- Numbers of varying length and records, made. Nothing is claimed here. -/
import Derived.Test.YtlldgodjfpgbcaaEb
namespace Go.Proofs.Ytlldgodjfpgbcaa
open Go.RowKit
set_option linter.unusedVariables false
set_option linter.unusedSimpArgs false
set_option maxRecDepth 100000

def encG : Nat → Nat → List UInt8
  | 0, _ => []
  | f + 1, v => if v < 128 then [UInt8.ofNat v] else UInt8.ofNat (v % 128 + 128) :: encG f (v / 128)
/-- a number's bytes -/
def encU (v : Nat) : List UInt8 := encG 10 v
theorem encG_len : ∀ (f v : Nat), (encG f v).length ≤ f
  | 0, v => by simp [encG]
  | f + 1, v => by
    unfold encG
    split
    · simp
    · have := encG_len f (v / 128); simp; omega
theorem encU_len (v : Nat) : (encU v).length ≤ 10 := encG_len 10 v
theorem encG_pos {f v : Nat} (h : 0 < f) : 0 < (encG f v).length := by
  match f, h with
  | f + 1, _ => unfold encG; split <;> simp
theorem or8b : ∀ x, x < 256 → x ||| 128 = x % 128 + 128 := by decide

set_option maxHeartbeats 4000000 in
theorem uvarint_fn (v : Nat) (hv : v < 18446744073709551616) (w0 : World) : Fn Try.prog 52 #[.int .u64 (v : Int)] w0 fun r w' => w'.ownsRow w0.heap.size 5 1 r (encU v).length (bv (encU v)) ∧ Below w0.heap.size w0 w' := by
  have hL := Sep.start Try.prog w0
  have hB := Nat.le_refl w0.heap.size
  refine Fn.mk Try.func52 rfl (by kernel_rfl) Try.ntmps52 rfl (by rw [Try.results52]) ?_
  replace hL := hL.nilRow 5 1
  repeat (first | (refine RunH ?_; intro w hL hB; try clear w) | (refine Both.mk ?_ ?_ <;> conv => whnf) | fail)
  refine V.loop (α := Nat × Nat × Value × List UInt8) (fun z => [(0, .int .u64 (z.2.1 : Int)), (3, z.2.2.1)])
    (fun z w' => z.1 ≤ 9 ∧ z.2.1 * 128 ^ (9 - z.1) < 18446744073709551616 ∧ encU v = z.2.2.2 ++ encG (z.1 + 1) z.2.1 ∧ z.2.2.2.length + z.1 = 9 ∧ w0.heap.size ≤ w'.heap.size ∧ Sep Try.prog w0.heap.size w0 w' [.row 5 1 z.2.2.1 z.2.2.2.length (bv z.2.2.2)])
    (fun z => z.1) (9, v, .slice none 0 0, []) ⟨rfl, rfl, trivial⟩ ⟨by simp, by simpa using hv, rfl, rfl, hB, hL⟩ ?_
  clear hL hB
  rintro ⟨f, x, u, acc⟩ w ⟨hf, hx, he, hfl, hB, hL⟩
  dsimp only at *
  obtain ⟨ua, uc, rfl⟩ := (show SlN w 1 u acc.length _ from hL.rowN (i := 0) rfl).shape
  have hx64 : x < 18446744073709551616 := Nat.lt_of_le_of_lt (Nat.le_mul_of_pos_right x (Nat.pow_pos (by decide))) hx
  repeat (first | (refine RunH ?_; intro w hL hB; try clear w) | (refine Both.mk ?_ ?_ <;> conv => whnf) | fail)
  by_cases h128 : x < 128
  · repeat (first | (refine RunH ?_; intro w hL hB; try clear w) | (refine Both.mk ?_ ?_ <;> conv => whnf) | fail)
    refine Rv.buildS (len := 1) (vs := [.int .u8 (x : Int)]) ttOk hL tl22 tl5 rfl rfl (by intro u hu; simp only [List.mem_singleton] at hu; subst hu; rfl) (by decide) (by decide) hB fun bo w hL hB => ?_
    conv => whnf
    refine Rv.appendS ttOk hL tl22 tl5 rfl (by decide) 1 rfl (hL.rowN (i := 0) rfl) (allOne_mem rfl) (by simp only [maxLen]; omega) (by omega) hB fun vo w hL hB => ?_
    dsimp only [List.set] at hL
    conv => whnf
    repeat (first | (refine RunH ?_; intro w hL hB; try clear w) | (refine Both.mk ?_ ?_ <;> conv => whnf) | fail)
    refine ⟨?_, hL.below⟩
    have e : encU v = acc ++ [UInt8.ofNat x] := by rw [he, encG, if_pos h128]
    have hr := hL.ownR (i := 1) rfl
    rw [e]
    have e2 : bv (acc ++ [UInt8.ofNat x]) = bv acc ++ List.flatMap cellsL [Value.int IntKind.u8 (x : Int)] := by
      have : ((UInt8.ofNat x).toNat : Int) = x := by simp; omega
      simp [bv, u8, cellsL]; omega
    rw [e2, List.length_append]
    exact hr
  · have hf0 : f ≠ 0 := by
      rintro rfl
      simp only [Nat.sub_zero] at hx
      omega
    repeat (first | (refine RunH ?_; intro w hL hB; try clear w) | (refine Both.mk ?_ ?_ <;> conv => whnf) | fail)
    refine Ar.m8 x rfl ?_
    refine Bt.or8 (x % 256) 128 rfl rfl (by omega) (by decide) ?_
    rw [or8b _ (by omega), show x % 256 % 128 = x % 128 by omega]
    conv => whnf
    repeat (first | (refine RunH ?_; intro w hL hB; try clear w) | (refine Both.mk ?_ ?_ <;> conv => whnf) | fail)
    refine Rv.buildS (len := 1) (vs := [.int .u8 ((x % 128 + 128 : Nat) : Int)]) ttOk hL tl22 tl5 rfl rfl (by intro u hu; simp only [List.mem_singleton] at hu; subst hu; rfl) (by decide) (by decide) hB fun bo w hL hB => ?_
    conv => whnf
    refine Rv.appendS ttOk hL tl22 tl5 rfl (by decide) 1 rfl (hL.rowN (i := 0) rfl) (allOne_mem rfl) (by simp only [maxLen]; omega) (by omega) hB fun vo w hL hB => ?_
    dsimp only [List.set] at hL
    conv => whnf
    repeat (first | (refine RunH ?_; intro w hL hB; try clear w) | (refine Both.mk ?_ ?_ <;> conv => whnf) | fail)
    refine Shr.u64 x 7 128 rfl rfl (by decide) (by decide) ?_
    conv => whnf
    repeat (first | (refine RunH ?_; intro w hL hB; try clear w) | (refine Both.mk ?_ ?_ <;> conv => whnf) | fail)
    refine ⟨(f - 1, x / 128, vo, acc ++ [UInt8.ofNat (x % 128 + 128)]), ⟨rfl, rfl, trivial⟩, ⟨by dsimp only; omega, ?_, ?_, by simp; omega, hB, ?_⟩, (by first | omega | (dsimp only; omega))⟩
    · dsimp only
      rw [show 9 - (f - 1) = (9 - f) + 1 by omega, Nat.pow_succ, Nat.mul_comm (128 ^ (9 - f)), ← Nat.mul_assoc]
      exact Nat.lt_of_le_of_lt (Nat.mul_le_mul_right _ (Nat.div_mul_le_self x 128)) hx
    · dsimp only
      obtain ⟨g, rfl⟩ : ∃ g, f = g + 1 := ⟨f - 1, by omega⟩
      rw [he, encG, if_neg h128]
      simp
    · have e2 : bv (acc ++ [UInt8.ofNat (x % 128 + 128)]) = bv acc ++ List.flatMap cellsL [Value.int IntKind.u8 ((x % 128 + 128 : Nat) : Int)] := by
        simp [bv, u8, cellsL]; omega
      dsimp only
      rw [e2, List.length_append]
      exact hL.tl

set_option maxHeartbeats 4000000 in
theorem uvarintR_fn (v : Nat) (hv : v < 18446744073709551616) (w0 : World) : Fn Try.prog 54 #[.int .u64 (v : Int)] w0 fun r w' => w'.ownsRow w0.heap.size 5 1 r (encU v).length (bv (encU v)) ∧ Below w0.heap.size w0 w' := by
  have hL := Sep.start Try.prog w0
  have hB := Nat.le_refl w0.heap.size
  refine Fn.mk Try.func54 rfl (by kernel_rfl) Try.ntmps54 rfl (by rw [Try.results54]) ?_
  replace hL := hL.nilRow 5 1
  repeat (first | (refine RunH ?_; intro w hL hB; try clear w) | (refine Both.mk ?_ ?_ <;> conv => whnf) | fail)
  refine V.loop (α := Nat × Nat × Value × List UInt8) (fun z => [(0, .int .u64 (z.2.1 : Int)), (3, z.2.2.1)])
    (fun z w' => z.1 ≤ 9 ∧ z.2.1 * 128 ^ (9 - z.1) < 18446744073709551616 ∧ encU v = z.2.2.2 ++ encG (z.1 + 1) z.2.1 ∧ z.2.2.2.length + z.1 = 9 ∧ w0.heap.size ≤ w'.heap.size ∧ Sep Try.prog w0.heap.size w0 w' [.row 5 1 z.2.2.1 z.2.2.2.length (bv z.2.2.2)])
    (fun z => z.1) (9, v, .slice none 0 0, []) ⟨rfl, rfl, trivial⟩ ⟨by simp, by simpa using hv, rfl, rfl, hB, hL⟩ ?_
  clear hL hB
  rintro ⟨f, x, u, acc⟩ w ⟨hf, hx, he, hfl, hB, hL⟩
  dsimp only at *
  obtain ⟨ua, uc, rfl⟩ := (show SlN w 1 u acc.length _ from hL.rowN (i := 0) rfl).shape
  have hx64 : x < 18446744073709551616 := Nat.lt_of_le_of_lt (Nat.le_mul_of_pos_right x (Nat.pow_pos (by decide))) hx
  repeat (first | (refine RunH ?_; intro w hL hB; try clear w) | (refine Both.mk ?_ ?_ <;> conv => whnf) | fail)
  by_cases h128 : x < 128
  · repeat (first | (refine RunH ?_; intro w hL hB; try clear w) | (refine Both.mk ?_ ?_ <;> conv => whnf) | fail)
    refine Rv.buildS (len := 1) (vs := [.int .u8 (x : Int)]) ttOk hL tl22 tl5 rfl rfl (by intro u hu; simp only [List.mem_singleton] at hu; subst hu; rfl) (by decide) (by decide) hB fun bo w hL hB => ?_
    conv => whnf
    refine Rv.appendS ttOk hL tl22 tl5 rfl (by decide) 1 rfl (hL.rowN (i := 0) rfl) (allOne_mem rfl) (by simp only [maxLen]; omega) (by omega) hB fun vo w hL hB => ?_
    dsimp only [List.set] at hL
    conv => whnf
    repeat (first | (refine RunH ?_; intro w hL hB; try clear w) | (refine Both.mk ?_ ?_ <;> conv => whnf) | fail)
    refine ⟨?_, hL.below⟩
    have e : encU v = acc ++ [UInt8.ofNat x] := by rw [he, encG, if_pos h128]
    have hr := hL.ownR (i := 1) rfl
    rw [e]
    have e2 : bv (acc ++ [UInt8.ofNat x]) = bv acc ++ List.flatMap cellsL [Value.int IntKind.u8 (x : Int)] := by
      have : ((UInt8.ofNat x).toNat : Int) = x := by simp; omega
      simp [bv, u8, cellsL]; omega
    rw [e2, List.length_append]
    exact hr
  · have hf0 : f ≠ 0 := by
      rintro rfl
      simp only [Nat.sub_zero] at hx
      omega
    repeat (first | (refine RunH ?_; intro w hL hB; try clear w) | (refine Both.mk ?_ ?_ <;> conv => whnf) | fail)
    refine Ar.m8 x rfl ?_
    refine Bt.or8 (x % 256) 128 rfl rfl (by omega) (by decide) ?_
    rw [or8b _ (by omega), show x % 256 % 128 = x % 128 by omega]
    conv => whnf
    repeat (first | (refine RunH ?_; intro w hL hB; try clear w) | (refine Both.mk ?_ ?_ <;> conv => whnf) | fail)
    refine Rv.buildS (len := 1) (vs := [.int .u8 ((x % 128 + 128 : Nat) : Int)]) ttOk hL tl22 tl5 rfl rfl (by intro u hu; simp only [List.mem_singleton] at hu; subst hu; rfl) (by decide) (by decide) hB fun bo w hL hB => ?_
    conv => whnf
    refine Rv.appendS ttOk hL tl22 tl5 rfl (by decide) 1 rfl (hL.rowN (i := 0) rfl) (allOne_mem rfl) (by simp only [maxLen]; omega) (by omega) hB fun vo w hL hB => ?_
    dsimp only [List.set] at hL
    conv => whnf
    repeat (first | (refine RunH ?_; intro w hL hB; try clear w) | (refine Both.mk ?_ ?_ <;> conv => whnf) | fail)
    refine Quo.at x 128 rfl rfl (by decide) ?_
    conv => whnf
    repeat (first | (refine RunH ?_; intro w hL hB; try clear w) | (refine Both.mk ?_ ?_ <;> conv => whnf) | fail)
    refine ⟨(f - 1, x / 128, vo, acc ++ [UInt8.ofNat (x % 128 + 128)]), ⟨rfl, rfl, trivial⟩, ⟨by dsimp only; omega, ?_, ?_, by simp; omega, hB, ?_⟩, (by first | omega | (dsimp only; omega))⟩
    · dsimp only
      rw [show 9 - (f - 1) = (9 - f) + 1 by omega, Nat.pow_succ, Nat.mul_comm (128 ^ (9 - f)), ← Nat.mul_assoc]
      exact Nat.lt_of_le_of_lt (Nat.mul_le_mul_right _ (Nat.div_mul_le_self x 128)) hx
    · dsimp only
      obtain ⟨g, rfl⟩ : ∃ g, f = g + 1 := ⟨f - 1, by omega⟩
      rw [he, encG, if_neg h128]
      simp
    · have e2 : bv (acc ++ [UInt8.ofNat (x % 128 + 128)]) = bv acc ++ List.flatMap cellsL [Value.int IntKind.u8 ((x % 128 + 128 : Nat) : Int)] := by
        simp [bv, u8, cellsL]; omega
      dsimp only
      rw [e2, List.length_append]
      exact hL.tl

theorem put32n (v : Nat) (hv : v < 4294967296) (w : World) : Fn Try.prog 36 #[.int .u32 v] w fun r w' => w'.ownsRow w.heap.size 5 1 r (putB v 4).length (bv (putB v 4)) ∧ Below w.heap.size w w' :=
  (put32_fn v hv w).mono fun r w' ⟨h1, h2⟩ => ⟨by rw [putB_len]; exact h1, h2⟩
theorem put32Rn (v : Nat) (hv : v < 4294967296) (w : World) : Fn Try.prog 38 #[.int .u32 v] w fun r w' => w'.ownsRow w.heap.size 5 1 r (putB v 4).length (bv (putB v 4)) ∧ Below w.heap.size w w' :=
  (put32R_fn v hv w).mono fun r w' ⟨h1, h2⟩ => ⟨by rw [putB_len]; exact h1, h2⟩
/-- a record -/
def encF (p : List UInt8) : List UInt8 := putB p.length 4 ++ putB (crc (putB p.length 4 ++ p)) 4 ++ p
theorem encF_len (p : List UInt8) : (encF p).length = 8 + p.length := by simp [encF, putB_len]; omega

set_option maxHeartbeats 4000000 in
theorem encode_fn (v : Value) (p : List UInt8) (hp : p.length ≤ 1048576) (w0 : World) (hs : Sl w0 v (bv p)) : Fn Try.prog 53 #[v] w0 fun r w' => ∃ u, r = .tuple #[u, .int .i64 0] ∧ w'.ownsRow w0.heap.size 5 1 u (encF p).length (bv (encF p)) ∧ Below w0.heap.size w0 w' := by
  obtain ⟨a, c, rfl⟩ := hs.shape
  simp only [bv_length] at *
  have hL := Sep.start Try.prog w0
  have hB := Nat.le_refl w0.heap.size
  refine Fn.mk Try.func53 rfl (by kernel_rfl) Try.ntmps53 rfl (by rw [Try.results53]) ?_
  repeat (first | (refine RunH ?_; intro w hL hB; try clear w) | (refine Both.mk ?_ ?_ <;> conv => whnf) | fail)
  refine (put32n p.length (by omega) _).mono fun r w ⟨ho, hw⟩ => ?_
  replace hL := hL.addRow hB hw ho
  replace hB := Nat.le_trans hB hw.size
  clear ho hw
  generalize hA : putB p.length 4 = A at *
  have hAl : A.length = 4 := by rw [← hA]; exact putB_len _ _
  obtain ⟨ra, rc, rfl⟩ := (show SlN w 1 r A.length _ from hL.rowN (i := 0) rfl).shape
  conv => whnf
  repeat (first | (refine RunH ?_; intro w hL hB; try clear w) | (refine Both.mk ?_ ?_ <;> conv => whnf) | fail)
  refine (clone_fn _ A _ (hL.row (i := 0) rfl) (by omega)).mono fun r w ⟨ho, hw⟩ => ?_
  replace hL := hL.addRow hB hw ho
  replace hB := Nat.le_trans hB hw.size
  clear ho hw
  obtain ⟨ra2, rc2, rfl⟩ := (show SlN w 1 r A.length _ from hL.rowN (i := 0) rfl).shape
  conv => whnf
  repeat (first | (refine RunH ?_; intro w hL hB; try clear w) | (refine Both.mk ?_ ?_ <;> conv => whnf) | fail)
  refine Rv.appendS ttOk hL tl22 tl5 rfl (by decide) 0 rfl (Sl.toN (hs.below hL.below)) (bv_one _) (by simp only [maxLen, bv_length]; omega) (by rw [bv_length]; omega) hB fun vo w hL hB => ?_
  dsimp only [List.set] at hL
  rw [← bv_append, bv_length, ← List.length_append] at hL
  conv => whnf
  repeat (first | (refine RunH ?_; intro w hL hB; try clear w) | (refine Both.mk ?_ ?_ <;> conv => whnf) | fail)
  refine (sumw (hL.row (i := 0) rfl)).mono fun r2 w ⟨hr, hw⟩ => ?_
  subst hr
  replace hL := (hL.call hB (Turns.of_below hw)).tl
  replace hB := Nat.le_trans hB hw.size
  have hcl := crc_lt (A ++ p)
  conv => whnf
  repeat (first | (refine RunH ?_; intro w hL hB; try clear w) | (refine Both.mk ?_ ?_ <;> conv => whnf) | fail)
  refine (put32n (crc (A ++ p)) hcl _).mono fun r w ⟨ho, hw⟩ => ?_
  replace hL := hL.addRow hB hw ho
  replace hB := Nat.le_trans hB hw.size
  clear ho hw
  have hQl : (putB (crc (A ++ p)) 4).length = 4 := putB_len _ _
  conv => whnf
  repeat (first | (refine RunH ?_; intro w hL hB; try clear w) | (refine Both.mk ?_ ?_ <;> conv => whnf) | fail)
  refine Rv.appendS ttOk hL tl22 tl5 rfl (by decide) 1 rfl (hL.rowN (i := 0) rfl) (bv_one _) (by simp only [maxLen]; omega) (by omega) hB fun vo w hL hB => ?_
  dsimp only [List.set] at hL
  rw [← bv_append, ← List.length_append] at hL
  have h8 : (A ++ putB (crc (A ++ p)) 4).length = 8 := by simp [hAl, putB_len]
  obtain ⟨ra3, rc3, rfl⟩ := (show SlN w 1 vo (A ++ putB (crc (A ++ p)) 4).length _ from hL.rowN (i := 1) rfl).shape
  conv => whnf
  repeat (first | (refine RunH ?_; intro w hL hB; try clear w) | (refine Both.mk ?_ ?_ <;> conv => whnf) | fail)
  refine Rv.appendS ttOk hL tl22 tl5 rfl (by decide) 1 rfl (Sl.toN (hs.below hL.below)) (bv_one _) (by simp only [maxLen, bv_length]; omega) (by rw [bv_length]; omega) hB fun vo w hL hB => ?_
  dsimp only [List.set] at hL
  rw [← bv_append, bv_length, ← List.length_append] at hL
  conv => whnf
  repeat (first | (refine RunH ?_; intro w hL hB; try clear w) | (refine Both.mk ?_ ?_ <;> conv => whnf) | fail)
  refine ⟨_, rfl, ?_, hL.below⟩
  have hr := hL.ownR (i := 1) rfl
  unfold encF
  rw [hA]
  exact hr

set_option maxHeartbeats 4000000 in
theorem encodeR_fn (v : Value) (p : List UInt8) (hp : p.length ≤ 1048576) (w0 : World) (hs : Sl w0 v (bv p)) : Fn Try.prog 55 #[v] w0 fun r w' => ∃ u, r = .tuple #[u, .int .i64 0] ∧ w'.ownsRow w0.heap.size 5 1 u (encF p).length (bv (encF p)) ∧ Below w0.heap.size w0 w' := by
  obtain ⟨a, c, rfl⟩ := hs.shape
  simp only [bv_length] at *
  have hL := Sep.start Try.prog w0
  have hB := Nat.le_refl w0.heap.size
  refine Fn.mk Try.func55 rfl (by kernel_rfl) Try.ntmps55 rfl (by rw [Try.results55]) ?_
  repeat (first | (refine RunH ?_; intro w hL hB; try clear w) | (refine Both.mk ?_ ?_ <;> conv => whnf) | fail)
  refine (put32Rn p.length (by omega) _).mono fun r w ⟨ho, hw⟩ => ?_
  replace hL := hL.addRow hB hw ho
  replace hB := Nat.le_trans hB hw.size
  clear ho hw
  generalize hA : putB p.length 4 = A at *
  have hAl : A.length = 4 := by rw [← hA]; exact putB_len _ _
  obtain ⟨ra, rc, rfl⟩ := (show SlN w 1 r A.length _ from hL.rowN (i := 0) rfl).shape
  conv => whnf
  repeat (first | (refine RunH ?_; intro w hL hB; try clear w) | (refine Both.mk ?_ ?_ <;> conv => whnf) | fail)
  refine Rv.buildS (len := 0) (vs := []) ttOk hL tl22 tl5 rfl rfl (by intro u hu; cases hu) (by decide) (by decide) hB fun bo w hL hB => ?_
  conv => whnf
  repeat (first | (refine RunH ?_; intro w hL hB; try clear w) | (refine Both.mk ?_ ?_ <;> conv => whnf) | fail)
  refine Rv.appendS ttOk hL tl22 tl5 rfl (by decide) 0 rfl (hL.rowN (i := 1) rfl) (bv_one _) (by simp only [maxLen]; omega) (by omega) hB fun vo w hL hB => ?_
  dsimp only [List.set] at hL
  rw [show List.flatMap cellsL [] ++ bv A = bv A from rfl, Nat.zero_add] at hL
  obtain ⟨ra2, rc2, rfl⟩ := (show SlN w 1 vo A.length _ from hL.rowN (i := 0) rfl).shape
  conv => whnf
  repeat (first | (refine RunH ?_; intro w hL hB; try clear w) | (refine Both.mk ?_ ?_ <;> conv => whnf) | fail)
  refine Rv.appendS ttOk hL tl22 tl5 rfl (by decide) 0 rfl (Sl.toN (hs.below hL.below)) (bv_one _) (by simp only [maxLen, bv_length]; omega) (by rw [bv_length]; omega) hB fun vo w hL hB => ?_
  dsimp only [List.set] at hL
  rw [← bv_append, bv_length, ← List.length_append] at hL
  conv => whnf
  repeat (first | (refine RunH ?_; intro w hL hB; try clear w) | (refine Both.mk ?_ ?_ <;> conv => whnf) | fail)
  refine (sumRw (hL.row (i := 0) rfl)).mono fun r2 w ⟨hr, hw⟩ => ?_
  subst hr
  replace hL := (hL.call hB (Turns.of_below hw)).tl
  replace hB := Nat.le_trans hB hw.size
  have hcl := crc_lt (A ++ p)
  conv => whnf
  repeat (first | (refine RunH ?_; intro w hL hB; try clear w) | (refine Both.mk ?_ ?_ <;> conv => whnf) | fail)
  refine (put32Rn (crc (A ++ p)) hcl _).mono fun r w ⟨ho, hw⟩ => ?_
  replace hL := hL.addRow hB hw ho
  replace hB := Nat.le_trans hB hw.size
  clear ho hw
  have hQl : (putB (crc (A ++ p)) 4).length = 4 := putB_len _ _
  conv => whnf
  repeat (first | (refine RunH ?_; intro w hL hB; try clear w) | (refine Both.mk ?_ ?_ <;> conv => whnf) | fail)
  refine Rv.appendS ttOk hL tl22 tl5 rfl (by decide) 1 rfl (hL.rowN (i := 0) rfl) (bv_one _) (by simp only [maxLen]; omega) (by omega) hB fun vo w hL hB => ?_
  dsimp only [List.set] at hL
  rw [← bv_append, ← List.length_append] at hL
  have h8 : (A ++ putB (crc (A ++ p)) 4).length = 8 := by simp [hAl, putB_len]
  obtain ⟨ra3, rc3, rfl⟩ := (show SlN w 1 vo (A ++ putB (crc (A ++ p)) 4).length _ from hL.rowN (i := 1) rfl).shape
  conv => whnf
  repeat (first | (refine RunH ?_; intro w hL hB; try clear w) | (refine Both.mk ?_ ?_ <;> conv => whnf) | fail)
  refine Rv.appendS ttOk hL tl22 tl5 rfl (by decide) 1 rfl (Sl.toN (hs.below hL.below)) (bv_one _) (by simp only [maxLen, bv_length]; omega) (by rw [bv_length]; omega) hB fun vo w hL hB => ?_
  dsimp only [List.set] at hL
  rw [← bv_append, bv_length, ← List.length_append] at hL
  conv => whnf
  repeat (first | (refine RunH ?_; intro w hL hB; try clear w) | (refine Both.mk ?_ ?_ <;> conv => whnf) | fail)
  refine ⟨_, rfl, ?_, hL.below⟩
  have hr := hL.ownR (i := 1) rfl
  unfold encF
  rw [hA]
  exact hr
end Go.Proofs.Ytlldgodjfpgbcaa
