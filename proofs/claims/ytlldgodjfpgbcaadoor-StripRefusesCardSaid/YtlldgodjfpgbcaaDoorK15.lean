/- shard.Mend. strip.Cut, garnerref14.Cut. Nothing is claimed here. -/
import Derived.Test.YtlldgodjfpgbcaaDoorK14
import Derived.Test.YtlldgodjfpgbcaaDoorK07
import Derived.Test.YtlldgodjfpgbcaaDoorK02
namespace Go.Proofs.YtlldgodjfpgbcaaDoor
open Go.RowKit
open Go.Maps (Keyed)
set_option linter.unusedVariables false
set_option linter.unusedSimpArgs false
set_option maxRecDepth 100000

theorem selS_len {k : Nat} {rows : List (List UInt8)} {n : Nat} (hr : rows.length = n) : (selS k rows).length = min k (cnt_ rows n) := by rw [← selP_all hr, selP_len]
/-- what shard.Mend gives -/
def MendGot (k m N : Nat) (rows : List (List UInt8)) (w0 : World) (r : Value) (w' : World) : Prop :=
  if (selS k rows).length < k then r = .tuple #[.slice none 0 0, .int .i64 15] else ∃ u out, MendR k m N rows out ∧ Mat w' w0.heap.size u out ∧ r = .tuple #[u, .int .i64 0]
set_option maxHeartbeats 8000000 in
theorem smend_fn (k m N : Nat) (v : Value) (rows : List (List UInt8)) (h1 : 1 ≤ k) (h2 : k + m ≤ 14) (hr : rows.length = k + m) (hN : ∀ l ∈ rows, l ≠ [] → l.length = N) (hN0 : N ≤ 1000000) (w0 : World) (hT : TabAt 0 Go.Lib.deBruijn64tab w0) (hv : SS w0 v rows) :
    Fn Tryd.prog 19 #[v, .int .i64 (k : Int), .int .i64 (m : Int)] w0 fun r w' => MendGot k m N rows w0 r w' ∧ Below w0.heap.size w0 w' := by
  have hsl := selS_len (k := k) hr
  have hcl := cnt_le rows (k + m)
  unfold MendGot
  refine Fn.mk Tryd.func19 rfl (by kernel_rfl) Tryd.ntmps19 rfl (by rw [Tryd.results19]) ?_
  refine RunR ?_
  refine (begins_fn v rows k m N h1 h2 hr hN w0 hv).mono fun r w2 ⟨w1, b, mb, cv, hru, hbl, hcode, hL⟩ => ?_
  subst hru
  have hbt := bits_lt rows (k + m)
  generalize hcn : cnt_ rows (k + m) = cn at *
  by_cases hk : cn < k
  · conv => whnf
    refine RunR ?_
    exact ⟨by rw [if_pos (by omega)], hbl.trans (hL.below.mono hbl.size)⟩
  · conv => whnf
    refine RunR ?_
    refine (mend_fn b mb k m N cv v rows h1 h2 hr (by omega) hN hN0 w1 _ (tabAt_below hT hbl) hcode (hv.below hbl) hL hL.below.size).mono fun r w' ⟨out, hm, hmat, hbl2⟩ => ?_
    conv => whnf
    refine RunR ?_
    exact ⟨by rw [if_neg (by omega)]; exact ⟨_, out, hm, hmat.mono hbl.size, rfl⟩, hbl.trans (hbl2.mono hbl.size)⟩
end Go.Proofs.YtlldgodjfpgbcaaDoor
namespace Go.Proofs.YtlldgodjfpgbcaaDoor
open Go.RowKit
set_option linter.unusedVariables false
set_option linter.unusedSimpArgs false
set_option maxRecDepth 100000

def hgt (s k : Nat) : Nat := (s + k * 16 - 1) / (k * 16)
def wholeB (b : List UInt8) (k : Nat) : List UInt8 := b ++ List.replicate (hgt b.length k * k * 16 - b.length) 0
def chunk (W : List UInt8) (t : Nat) : List UInt8 := (W.drop (16 * t)).take 16
def col (W : List UInt8) (k j : Nat) : Nat → List UInt8
  | 0 => []
  | t + 1 => if t % k = j then col W k j t ++ chunk W t else col W k j t
def colsB (W : List UInt8) (k t : Nat) : List (List UInt8) := (List.range k).map fun j => col W k j t
def cutD (b : List UInt8) (k : Nat) : List (List UInt8) := colsB (wholeB b k) k (hgt b.length k * k)
def cutB (b : List UInt8) (k m : Nat) : List (List UInt8) := cutD b k ++ sumsB (16 * hgt b.length k) m (cutD b k)

theorem hgt_le (s k : Nat) : hgt s k * k * 16 ≤ s + k * 16 - 1 := by
  have := Nat.div_mul_le_self (s + k * 16 - 1) (k * 16)
  unfold hgt
  rwa [Nat.mul_assoc]
theorem hgt_ge (s k : Nat) (hk : 0 < k) (hs : 0 < s) : s ≤ hgt s k * k * 16 := by
  have h1 := Nat.lt_mul_div_succ (s + k * 16 - 1) (by omega : 0 < k * 16)
  have h2 : k * 16 * ((s + k * 16 - 1) / (k * 16) + 1) = hgt s k * k * 16 + k * 16 := by
    unfold hgt
    rw [Nat.mul_add, Nat.mul_one, Nat.mul_comm (k * 16), Nat.mul_assoc]
  omega
theorem hgt_pos (s k : Nat) (hk : 0 < k) (hs : 0 < s) : 0 < hgt s k := by
  have := hgt_ge s k hk hs
  rcases Nat.eq_zero_or_pos (hgt s k) with h | h
  · rw [h] at this; omega
  · exact h
theorem chunk_len (W : List UInt8) (t : Nat) (h : 16 * t + 16 ≤ W.length) : (chunk W t).length = 16 := by simp [chunk]; omega
theorem colsB_len (W : List UInt8) (k t : Nat) : (colsB W k t).length = k := by simp [colsB]
theorem colsB_get (W : List UInt8) (k t j : Nat) (h : j < k) : (colsB W k t)[j]? = some (col W k j t) := by simp [colsB, h]
theorem colsB_succ (W : List UInt8) (k t : Nat) (hk : 0 < k) : colsB W k (t + 1) = (colsB W k t).set (t % k) (col W k (t % k) t ++ chunk W t) := by
  have hm := Nat.mod_lt t hk
  apply List.ext_getElem?
  intro j
  by_cases hj : j < k
  · rw [colsB_get _ _ _ _ hj, List.getElem?_set, colsB_len, colsB_get _ _ _ _ hj]
    by_cases e : t % k = j
    · subst e; simp [hm, col]
    · simp [e, col]
  · rw [List.getElem?_eq_none (by rw [colsB_len]; omega), List.getElem?_eq_none (by rw [List.length_set, colsB_len]; omega)]
theorem col_le (W : List UInt8) (k j : Nat) : ∀ t, (col W k j t).length ≤ 16 * t
  | 0 => by simp [col]
  | t + 1 => by
    have := col_le W k j t
    rw [col]
    split
    · simp [chunk]; omega
    · omega
theorem col_eq (W : List UInt8) (k j : Nat) (hj : j < k) : ∀ h i, i ≤ k → col W k j (h * k + i) = (List.range h).flatMap (fun r => chunk W (r * k + j)) ++ (if j < i then chunk W (h * k + j) else []) := by
  intro h
  induction h with
  | zero =>
    intro i
    induction i with
    | zero => intro _; simp [col]
    | succ i ih =>
      intro hi
      have := ih (by omega)
      simp only [Nat.zero_mul, Nat.zero_add] at this ⊢
      rw [col, this, Nat.mod_eq_of_lt (by omega)]
      by_cases e : i = j
      · subst e; simp
      · rw [if_neg e]
        by_cases e2 : j < i
        · simp [e2, (by omega : j < i + 1)]
        · rw [if_neg e2, if_neg (by omega : ¬ j < i + 1)]
  | succ h ihh =>
    intro i
    induction i with
    | zero =>
      intro _
      have := ihh k (Nat.le_refl _)
      rw [Nat.succ_mul, Nat.add_zero, this, if_pos hj, List.range_succ, List.flatMap_append]
      simp
    | succ i ih =>
      intro hi
      have := ih (by omega)
      have em : ((h + 1) * k + i) % k = i := by rw [Nat.mul_comm, Nat.mul_add_mod, Nat.mod_eq_of_lt (by omega)]
      rw [← Nat.add_assoc, col, this, em]
      by_cases e : i = j
      · subst e; simp
      · rw [if_neg e]
        by_cases e2 : j < i
        · simp [e2, (by omega : j < i + 1)]
        · rw [if_neg e2, if_neg (by omega : ¬ j < i + 1)]
theorem col_full (W : List UInt8) (k j h : Nat) (hj : j < k) : col W k j (h * k) = (List.range h).flatMap (fun r => chunk W (r * k + j)) := by
  have := col_eq W k j hj h 0 (Nat.zero_le _)
  simpa using this
theorem rows_len (W : List UInt8) (k j : Nat) (hj : j < k) : ∀ h, h * k * 16 ≤ W.length → ((List.range h).flatMap (fun r => chunk W (r * k + j))).length = 16 * h
  | 0, _ => by simp
  | h + 1, hW => by
    rw [Nat.add_mul, Nat.one_mul, Nat.add_mul] at hW
    rw [List.range_succ, List.flatMap_append, List.length_append, rows_len W k j hj h (by omega)]
    simp only [List.flatMap_cons, List.flatMap_nil, List.append_nil]
    rw [chunk_len _ _ (by omega)]
    omega
theorem wholeB_len (b : List UInt8) (k : Nat) (hk : 0 < k) (hb : 0 < b.length) : (wholeB b k).length = hgt b.length k * k * 16 := by
  have := hgt_ge b.length k hk hb
  simp [wholeB]; omega
theorem cutD_len (b : List UInt8) (k : Nat) (hk : 0 < k) (hb : 0 < b.length) : ∀ l ∈ cutD b k, l.length = 16 * hgt b.length k := by
  intro l hl
  obtain ⟨j, hj, rfl⟩ := List.mem_map.1 hl
  have hj' : j < k := by simpa using hj
  rw [col_full _ _ _ _ hj', rows_len _ _ _ hj' _ (by rw [wholeB_len b k hk hb]; exact Nat.le_refl _)]

theorem height_fn (s k : Nat) (hs : s ≤ 1000000) (h0 : 0 < k) (hk : k ≤ 1000) (w : World) : Fn Tryd.prog 21 #[.int .i64 s, .int .i64 k] w fun r w' => w' = w ∧ r = .int .i64 (hgt s k) := by
  refine Fn.mk Tryd.func21 rfl (by kernel_rfl) Tryd.ntmps21 rfl (by rw [Tryd.results21]) ?_
  refine RunR ?_
  refine Quo.at (s + k * 16 - 1) (k * 16) (by omega) (by simp) (by omega) ?_
  have : (s + k * 16 - 1) / (k * 16) ≤ s + k * 16 - 1 := Nat.div_le_self _ _
  refine Ar.mi _ rfl (by omega) ?_
  conv => whnf
  refine RunR ?_
  exact ⟨rfl, rfl⟩
theorem heightR_fn (s k : Nat) (hs : s ≤ 1000000) (h0 : 0 < k) (hk : k ≤ 1000) (w : World) : Fn Tryd.prog 27 #[.int .i64 s, .int .i64 k] w fun r w' => w' = w ∧ r = .int .i64 (hgt s k) := by
  refine Fn.mk Tryd.func27 rfl (by kernel_rfl) Tryd.ntmps27 rfl (by rw [Tryd.results27]) ?_
  refine RunR ?_
  refine Quo.at (s + k * 16 - 1) (k * 16) (by omega) (by simp) (by omega) ?_
  have : (s + k * 16 - 1) / (k * 16) ≤ s + k * 16 - 1 := Nat.div_le_self _ _
  refine Ar.mi _ rfl (by omega) ?_
  conv => whnf
  refine RunR ?_
  exact ⟨rfl, rfl⟩

end Go.Proofs.YtlldgodjfpgbcaaDoor
