/- What Part tells of torn shards is the bytes, in plain Lean. Nothing is claimed here. -/
import Derived.Test.YtlldgodjfpgbcaaDoorGp
namespace Go.Proofs.YtlldgodjfpgbcaaDoor
set_option linter.unusedVariables false
set_option linter.unusedSimpArgs false

theorem flat_congr {α β : Type} {f g : α → List β} : ∀ {l : List α}, (∀ x ∈ l, f x = g x) → l.flatMap f = l.flatMap g
  | [], _ => rfl
  | x :: l, h => by rw [List.flatMap_cons, List.flatMap_cons, h x (List.mem_cons_self ..), flat_congr fun y hy => h y (List.mem_cons_of_mem _ hy)]
theorem chunk_flat (g : Nat → List UInt8) (hg : ∀ r, (g r).length = 16) : ∀ H r, r < H → chunk ((List.range H).flatMap g) r = g r
  | 0, r, h => by omega
  | H + 1, r, h => by
    have hlen : ∀ H, ((List.range H).flatMap g).length = 16 * H := fun H => by
      induction H with
      | zero => rfl
      | succ H ih => rw [List.range_succ, List.flatMap_append, List.length_append, ih, List.flatMap_singleton, hg]; omega
    rw [List.range_succ, List.flatMap_append, List.flatMap_singleton]
    by_cases e : r = H
    · subst e
      unfold chunk
      rw [List.drop_append_of_le_length (by rw [hlen]; exact Nat.le_refl _), List.drop_of_length_le (by rw [hlen]; exact Nat.le_refl _), List.nil_append, List.take_of_length_le (by rw [hg]; exact Nat.le_refl _)]
    · rw [← chunk_flat g hg H r (by omega)]
      unfold chunk
      rw [List.drop_append_of_le_length (by rw [hlen]; omega), List.take_append_of_le_length (by rw [List.length_drop, hlen]; omega)]
theorem cut_chunk {b : List UInt8} {k m r q : Nat} (hk : 0 < k) (hb : 0 < b.length) (hq : q < k) (hr : r < hgt b.length k) : chunk (rw_ (cutB b k m) q) r = chunk (wholeB b k) (r * k + q) := by
  have hW := wholeB_len b k hk hb
  have e : rw_ (cutB b k m) q = col (wholeB b k) k q (hgt b.length k * k) := by
    show (cutB b k m).getD q [] = _
    refine getD_get ?_
    unfold cutB cutD
    rw [List.getElem?_append_left (by rw [colsB_len]; exact hq)]
    exact colsB_get _ _ _ _ hq
  rw [e, col_full _ _ _ _ hq]
  have hin : ∀ r, r < hgt b.length k → 16 * (r * k + q) + 16 ≤ (wholeB b k).length := fun r hr => by
    rw [hW]
    have : (r + 1) * k ≤ hgt b.length k * k := Nat.mul_le_mul_right _ hr
    rw [Nat.succ_mul] at this
    omega
  have key := chunk_flat (fun r => if r < hgt b.length k then chunk (wholeB b k) (r * k + q) else List.replicate 16 0) (fun r => by
    split
    · exact chunk_len _ _ (hin r ‹_›)
    · simp) (hgt b.length k) r hr
  rw [if_pos hr] at key
  rw [← key]
  congr 1
  refine flat_congr fun x hx => ?_
  rw [if_pos (List.mem_range.1 hx)]
/-- each row is told as it was -/
theorem Torn.rowJ {b : List UInt8} {ls : List (List (List UInt8))} {k m j : Nat} (hk : 0 < k) (hb : 0 < b.length) (h : Torn (cutB b k m) ls (k + m) m (hgt b.length k)) (hj : j < hgt b.length k * k)
    (hx : rw_ (rowsAt ls (j / k)) (j % k) = [] → MendR k m 16 (rowsAt ls (j / k)) (mendV k m (rowsAt ls (j / k)))) : rowJ ls k m j = chunk (wholeB b k) j := by
  have hr : j / k < hgt b.length k := Nat.div_lt_of_lt_mul (by rw [Nat.mul_comm]; exact hj)
  have hq := Nat.mod_lt j hk
  have hjq : j / k * k + j % k = j := Nat.div_add_mod' j k
  have hWl := (cutB_rows b k m hk hb).1
  unfold Go.Proofs.YtlldgodjfpgbcaaDoor.rowJ
  by_cases he : rw_ (rowsAt ls (j / k)) (j % k) = []
  · rw [if_pos he, h.all hk (colsB_len ..) (cutD_len b k hk hb) (cutB_blends b k m hk hb) (j / k) hr _ (hx he)]
    rw [rw_map _ _ (by rw [hWl]; omega), cut_chunk hk hb hq hr, hjq]
  · rw [if_neg he]
    obtain ⟨lost, _, h2⟩ := h.2 (j / k) hr
    rw [rowsAt_rw] at he ⊢
    rcases h2 (j % k) (by omega) with h3 | h3
    · exact absurd h3.2 he
    · rw [h3, cut_chunk hk hb hq hr, hjq]
theorem chunks_whole (W : List UInt8) (a : Nat) : ∀ c, (List.range c).flatMap (fun i => chunk W (a + i)) = (W.drop (16 * a)).take (16 * c)
  | 0 => by simp
  | c + 1 => by
    rw [List.range_succ, List.flatMap_append, List.flatMap_singleton, chunks_whole W a c, show 16 * (c + 1) = 16 * c + 16 by omega, List.take_add]
    unfold chunk
    rw [List.drop_drop, show 16 * (a + c) = 16 * a + 16 * c by omega]
/-- the part is the bytes -/
theorem Torn.part {b : List UInt8} {ls : List (List (List UInt8))} {k m at_ n : Nat} (hk : 0 < k) (hb : 0 < b.length) (h : Torn (cutB b k m) ls (k + m) m (hgt b.length k)) (hn : 1 ≤ n) (hfit : at_ + n ≤ b.length)
    (hx : ∀ i, i < (at_ + n - 1) / 16 - at_ / 16 + 1 → rw_ (rowsAt ls ((at_ / 16 + i) / k)) ((at_ / 16 + i) % k) = [] → MendR k m 16 (rowsAt ls ((at_ / 16 + i) / k)) (mendV k m (rowsAt ls ((at_ / 16 + i) / k)))) :
    ((dataJ ls k m (at_ / 16) ((at_ + n - 1) / 16 - at_ / 16 + 1)).drop (at_ % 16)).take n = (b.drop at_).take n := by
  have hW := wholeB_len b k hk hb
  have hge := hgt_ge b.length k hk hb
  have hd4 : at_ / 16 ≤ (at_ + n - 1) / 16 := Nat.div_le_div_right (by omega)
  generalize hc : (at_ + n - 1) / 16 - at_ / 16 + 1 = c at *
  have e : dataJ ls k m (at_ / 16) c = (List.range c).flatMap fun i => chunk (wholeB b k) (at_ / 16 + i) := by
    unfold dataJ
    refine flat_congr fun i hi => ?_
    have hi' := List.mem_range.1 hi
    exact h.rowJ hk hb (by omega) (hx i hi')
  rw [e, chunks_whole, List.drop_take, List.drop_drop, List.take_take, show 16 * (at_ / 16) + at_ % 16 = at_ by omega, Nat.min_eq_left (by omega)]
  unfold wholeB
  rw [List.drop_append_of_le_length (by omega), List.take_append_of_le_length (by rw [List.length_drop]; omega)]
end Go.Proofs.YtlldgodjfpgbcaaDoor
