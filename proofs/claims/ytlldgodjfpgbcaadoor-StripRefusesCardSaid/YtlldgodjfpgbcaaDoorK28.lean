/- strip.Part, Mend and the reference's, where they refuse. StripRefuses, walked. Nothing is claimed here. -/
import Derived.Test.YtlldgodjfpgbcaaDoorK27
namespace Go.Proofs.YtlldgodjfpgbcaaDoor
open Go.RowKit
set_option linter.unusedVariables false
set_option linter.unusedSimpArgs false
set_option maxRecDepth 100000

def partOk (ls : List (List (List UInt8))) (k m size at_ n : Int) : Prop := goodP ls k m size ∧ 0 ≤ at_ ∧ 0 ≤ n ∧ at_ + n ≤ size
theorem part_bad (v : Value) (ls : List (List (List UInt8))) (k m size at_ n : Int) (hk : -1000 < k ∧ k < 1000) (hm : -1000 < m ∧ m < 1000) (hsz : size ≤ 1000000) (hb : ¬ partOk ls k m size at_ n) (w0 : World) (hs : S3 w0 v ls) :
    Fn Tryd.prog 9 #[v, .int .i64 k, .int .i64 m, .int .i64 size, .int .i64 at_, .int .i64 n] w0 fun r w' => r = .tuple #[.slice none 0 0, .int .i64 1] ∧ Below w0.heap.size w0 w' := by
  have hG := good_fn v ls k m size hk hm hsz w0 hs
  unfold partOk at hb
  refine Fn.mk Tryd.func9 rfl (by kernel_rfl) Tryd.ntmps9 rfl (by rw [Tryd.results9]) ?_
  refine RunR ?_
  refine hG.mono fun r w ⟨hr', hbl⟩ => ?_
  subst hr'
  by_cases hg : goodP ls k m size
  case neg =>
    rw [decide_eq_false hg]
    conv => whnf
    refine RunR ?_
    exact ⟨rfl, hbl⟩
  rw [decide_eq_true hg]
  have h1 := hg.2.1
  by_cases h2 : at_ < 0
  · conv => whnf
    refine RunR ?_
    exact ⟨rfl, hbl⟩
  by_cases h3 : n < 0
  · conv => whnf
    refine RunR ?_
    exact ⟨rfl, hbl⟩
  by_cases h4 : size < n
  · conv => whnf
    refine RunR ?_
    exact ⟨rfl, hbl⟩
  have h5 : size - n < at_ := by
    refine Classical.byContradiction fun h => hb ⟨hg, by omega, by omega, by omega⟩
  conv => whnf
  refine RunR ?_
  exact ⟨rfl, hbl⟩
theorem partR_bad (v : Value) (ls : List (List (List UInt8))) (k m size at_ n : Int) (hk : -1000 < k ∧ k < 1000) (hm : -1000 < m ∧ m < 1000) (hsz : size ≤ 1000000) (hb : ¬ partOk ls k m size at_ n) (w0 : World) (hs : S3 w0 v ls) :
    Fn Tryd.prog 14 #[v, .int .i64 k, .int .i64 m, .int .i64 size, .int .i64 at_, .int .i64 n] w0 fun r w' => r = .tuple #[.slice none 0 0, .int .i64 1] ∧ Below w0.heap.size w0 w' := by
  have hG := mayR_fn v ls k m size hk hm hsz w0 hs
  unfold partOk at hb
  refine Fn.mk Tryd.func14 rfl (by kernel_rfl) Tryd.ntmps14 rfl (by rw [Tryd.results14]) ?_
  refine RunR ?_
  refine hG.mono fun r w ⟨hr', hbl⟩ => ?_
  subst hr'
  by_cases hg : goodP ls k m size
  case neg =>
    rw [decide_eq_false hg]
    conv => whnf
    refine RunR ?_
    exact ⟨rfl, hbl⟩
  rw [decide_eq_true hg]
  have h1 := hg.2.1
  by_cases h2 : at_ < 0
  · conv => whnf
    refine RunR ?_
    exact ⟨rfl, hbl⟩
  by_cases h3 : n < 0
  · conv => whnf
    refine RunR ?_
    exact ⟨rfl, hbl⟩
  by_cases h4 : size < at_
  · conv => whnf
    refine RunR ?_
    exact ⟨rfl, hbl⟩
  have h5 : size - at_ < n := by
    refine Classical.byContradiction fun h => hb ⟨hg, by omega, by omega, by omega⟩
  conv => whnf
  refine RunR ?_
  exact ⟨rfl, hbl⟩
theorem mend_bad (v : Value) (ls : List (List (List UInt8))) (k m size : Int) (hk : -1000 < k ∧ k < 1000) (hm : -1000 < m ∧ m < 1000) (hsz : size ≤ 1000000) (hb : ¬ goodP ls k m size) (w0 : World) (hs : S3 w0 v ls) :
    Fn Tryd.prog 10 #[v, .int .i64 k, .int .i64 m, .int .i64 size] w0 fun r w' => r = .tuple #[.slice none 0 0, .int .i64 1] ∧ Below w0.heap.size w0 w' := by
  have hG := good_fn v ls k m size hk hm hsz w0 hs
  rw [decide_eq_false hb] at hG
  refine Fn.mk Tryd.func10 rfl (by kernel_rfl) Tryd.ntmps10 rfl (by rw [Tryd.results10]) ?_
  refine RunR ?_
  refine hG.mono fun r w ⟨hr', hbl⟩ => ?_
  subst hr'
  conv => whnf
  refine RunR ?_
  exact ⟨rfl, hbl⟩
theorem mendR_bad (v : Value) (ls : List (List (List UInt8))) (k m size : Int) (hk : -1000 < k ∧ k < 1000) (hm : -1000 < m ∧ m < 1000) (hsz : size ≤ 1000000) (hb : ¬ goodP ls k m size) (w0 : World) (hs : S3 w0 v ls) :
    Fn Tryd.prog 15 #[v, .int .i64 k, .int .i64 m, .int .i64 size] w0 fun r w' => r = .tuple #[.slice none 0 0, .int .i64 1] ∧ Below w0.heap.size w0 w' := by
  have hG := mayR_fn v ls k m size hk hm hsz w0 hs
  rw [decide_eq_false hb] at hG
  refine Fn.mk Tryd.func15 rfl (by kernel_rfl) Tryd.ntmps15 rfl (by rw [Tryd.results15]) ?_
  refine RunR ?_
  refine hG.mono fun r w ⟨hr', hbl⟩ => ?_
  subst hr'
  conv => whnf
  refine RunR ?_
  exact ⟨rfl, hbl⟩

/-! ### both, in one -/
/-- what Part answers -/
def PartAns (ls : List (List (List UInt8))) (k m size at_ n : Int) (b : List UInt8) (e : Int) : Prop :=
  (¬ partOk ls k m size at_ n ∧ b = [] ∧ e = 1) ∨ (partOk ls k m size at_ n ∧ ((¬ ∀ x : Nat, at_ ≤ x → (x : Int) < at_ + n → canJ ls k.toNat (x / 16)) ∧ b = [] ∧ e = 15)) ∨
  (partOk ls k m size at_ n ∧ ((∀ x : Nat, at_ ≤ x → (x : Int) < at_ + n → canJ ls k.toNat (x / 16)) ∧ b = ((List.range n.toNat).map fun i => byteJ ls k.toNat m.toNat (at_.toNat + i)) ∧ e = 0))
theorem PartAns.uniq {ls : List (List (List UInt8))} {k m size at_ n : Int} {b b' : List UInt8} {e e' : Int} (h : PartAns ls k m size at_ n b e) (h' : PartAns ls k m size at_ n b' e') : b = b' ∧ e = e' := by
  rcases h with ⟨h1, h2, h3⟩ | ⟨h1, h2, h3, h4⟩ | ⟨h1, h2, h3, h4⟩ <;> rcases h' with ⟨g1, g2, g3⟩ | ⟨g1, g2, g3, g4⟩ | ⟨g1, g2, g3, g4⟩
  all_goals first
    | exact absurd h1 g1
    | exact absurd g1 h1
    | exact absurd h2 g2
    | exact absurd g2 h2
    | exact ⟨h2.trans g2.symm, h3.trans g3.symm⟩
    | exact ⟨h3.trans g3.symm, h4.trans g4.symm⟩
/-- the row of each block is whole -/
theorem rowJ_len {ls : List (List (List UInt8))} {k m j : Nat} {H : Int} (hfl : ∀ l ∈ ls, fitL H l) (hk : 1 ≤ k) (hl : ls.length = k + m) (hc : canJ ls k j) (hm : rw_ (rowsAt ls (j / k)) (j % k) = [] → MendR k m 16 (rowsAt ls (j / k)) (mendV k m (rowsAt ls (j / k)))) : (rowJ ls k m j).length = 16 := by
  have hq : j % k < k := Nat.mod_lt _ hk
  have hrows := rowsAt_mem (r := j / k) hfl
  have hrl : (rowsAt ls (j / k)).length = k + m := by rw [rowsAt_len, hl]
  unfold rowJ
  split
  · rename_i h
    have h2 := hm h
    exact h2.row (hc h) (fun i hi hne => hrows _ (rw_mem hi) hne) _ (rw_mem (by rw [h2.len]; omega))
  · rename_i h
    exact hrows _ (rw_mem (by omega)) h
theorem partA_fn (v : Value) (ls : List (List (List UInt8))) (k m size at_ n : Int) (hk : -1000 < k ∧ k < 1000) (hm : -1000 < m ∧ m < 1000) (hsz : size ≤ 1000000) (w0 : World) (hT : TabAt 0 Go.Lib.deBruijn64tab w0) (hs : S3 w0 v ls) :
    Fn Tryd.prog 9 #[v, .int .i64 k, .int .i64 m, .int .i64 size, .int .i64 at_, .int .i64 n] w0 fun r w' => (∃ u b e, r = .tuple #[u, .int .i64 e] ∧ Sl w' u (bv b) ∧ PartAns ls k m size at_ n b e) ∧ Below w0.heap.size w0 w' := by
  by_cases hp : partOk ls k m size at_ n
  case neg => exact (part_bad v ls k m size at_ n hk hm hsz hp w0 hs).mono fun r w ⟨hr, hb⟩ => ⟨⟨_, [], 1, hr, Sl.nil w, .inl ⟨hp, rfl, rfl⟩⟩, hb⟩
  have hp' := hp
  obtain ⟨hg, h1, h2, h3⟩ := hp'
  have hc' : 1 ≤ k ∧ 0 ≤ m := by have := hg.1; unfold codeOk at this; omega
  have hs1 := hg.2.1
  obtain ⟨k, rfl⟩ := Int.eq_ofNat_of_zero_le (show 0 ≤ k by omega)
  obtain ⟨m, rfl⟩ := Int.eq_ofNat_of_zero_le hc'.2
  obtain ⟨size, rfl⟩ := Int.eq_ofNat_of_zero_le (show 0 ≤ size by omega)
  obtain ⟨at_, rfl⟩ := Int.eq_ofNat_of_zero_le h1
  obtain ⟨n, rfl⟩ := Int.eq_ofNat_of_zero_le h2
  by_cases hn : n = 0
  · subst hn
    exact (part_zero v ls k m size at_ hg (by omega) (by omega) w0 hs).mono fun r w ⟨hr, hb⟩ => ⟨⟨_, [], 0, hr, Sl.nil w, .inr (.inr ⟨hp, fun x h4 h5 => by omega, rfl, rfl⟩)⟩, hb⟩
  refine (part_fn v ls k m size at_ n hg (by omega) (by omega) (by omega) w0 hT hs).mono fun r w ⟨hr, hb⟩ => ⟨?_, hb⟩
  have hiff : (∀ i, i < (at_ + n - 1) / 16 - at_ / 16 + 1 → canJ ls k (at_ / 16 + i)) ↔ ∀ x : Nat, (at_ : Int) ≤ x → (x : Int) < at_ + n → canJ ls (k : Int).toNat (x / 16) := by
    rw [Int.toNat_natCast]
    constructor
    · intro h x h4 h5
      have := h (x / 16 - at_ / 16) (by omega)
      rwa [show at_ / 16 + (x / 16 - at_ / 16) = x / 16 by omega] at this
    · intro h i hi
      have := h (max at_ (16 * (at_ / 16 + i))) (by omega) (by omega)
      rwa [show max at_ (16 * (at_ / 16 + i)) / 16 = at_ / 16 + i by omega] at this
  rcases hr with ⟨g1, g2, u, g3, g4⟩ | ⟨g1, g2⟩
  · have hl := part_bytes (ls := ls) (k := k) (m := m) (at_ := at_) (n := n) (by omega) fun i hi => rowJ_len hg.2.2.2.2 (by omega) (by have := hg.2.2.2.1; omega) (g1 i hi) (g2 i hi)
    rw [hl] at g4
    exact ⟨u, _, 0, g3, g4, .inr (.inr ⟨hp, hiff.1 g1, rfl, rfl⟩)⟩
  · exact ⟨_, [], 15, g2, Sl.nil w, .inr (.inl ⟨hp, fun h => g1 (hiff.2 h), rfl, rfl⟩)⟩
theorem partRA_fn (v : Value) (ls : List (List (List UInt8))) (k m size at_ n : Int) (hk : -1000 < k ∧ k < 1000) (hm : -1000 < m ∧ m < 1000) (hsz : size ≤ 1000000) (w0 : World) (hs : S3 w0 v ls) :
    Fn Tryd.prog 14 #[v, .int .i64 k, .int .i64 m, .int .i64 size, .int .i64 at_, .int .i64 n] w0 fun r w' => (∃ u b e, r = .tuple #[u, .int .i64 e] ∧ Sl w' u (bv b) ∧ PartAns ls k m size at_ n b e) ∧ Below w0.heap.size w0 w' := by
  by_cases hp : partOk ls k m size at_ n
  case neg => exact (partR_bad v ls k m size at_ n hk hm hsz hp w0 hs).mono fun r w ⟨hr, hb⟩ => ⟨⟨_, [], 1, hr, Sl.nil w, .inl ⟨hp, rfl, rfl⟩⟩, hb⟩
  have hp' := hp
  obtain ⟨hg, h1, h2, h3⟩ := hp'
  have hc' : 1 ≤ k ∧ 0 ≤ m := by have := hg.1; unfold codeOk at this; omega
  have hs1 := hg.2.1
  obtain ⟨k, rfl⟩ := Int.eq_ofNat_of_zero_le (show 0 ≤ k by omega)
  obtain ⟨m, rfl⟩ := Int.eq_ofNat_of_zero_le hc'.2
  obtain ⟨size, rfl⟩ := Int.eq_ofNat_of_zero_le (show 0 ≤ size by omega)
  obtain ⟨at_, rfl⟩ := Int.eq_ofNat_of_zero_le h1
  obtain ⟨n, rfl⟩ := Int.eq_ofNat_of_zero_le h2
  refine (partR_fn v ls k m size at_ n hg (by omega) (by omega) w0 hs).mono fun r w ⟨hr, hb⟩ => ⟨?_, hb⟩
  have hiff : (∀ x, at_ ≤ x → x < at_ + n → canJ ls k (x / 16)) ↔ ∀ x : Nat, (at_ : Int) ≤ x → (x : Int) < at_ + n → canJ ls (k : Int).toNat (x / 16) := by
    rw [Int.toNat_natCast]
    exact ⟨fun h x h4 h5 => h x (by omega) (by omega), fun h x h4 h5 => h x (by omega) (by omega)⟩
  rcases hr with ⟨g1, u, g3, g4⟩ | ⟨g1, g2⟩
  · exact ⟨u, _, 0, g3, g4, .inr (.inr ⟨hp, hiff.1 g1, rfl, rfl⟩)⟩
  · exact ⟨_, [], 15, g2, Sl.nil w, .inr (.inl ⟨hp, fun h => g1 (hiff.2 h), rfl, rfl⟩)⟩
/-- what Mend answers -/
def MendAns (ls : List (List (List UInt8))) (k m size : Int) (B : List (List UInt8)) (e : Int) : Prop :=
  (¬ goodP ls k m size ∧ B = [] ∧ e = 1) ∨ (goodP ls k m size ∧ (¬ tells ls k.toNat (hgt size.toNat k.toNat) ∧ B = [] ∧ e = 15)) ∨ (goodP ls k m size ∧ (tells ls k.toNat (hgt size.toNat k.toNat) ∧ B = accM k.toNat m.toNat ls (hgt size.toNat k.toNat) ∧ e = 0))
theorem MendAns.uniq {ls : List (List (List UInt8))} {k m size : Int} {b b' : List (List UInt8)} {e e' : Int} (h : MendAns ls k m size b e) (h' : MendAns ls k m size b' e') : b = b' ∧ e = e' := by
  rcases h with ⟨h1, h2, h3⟩ | ⟨h1, h2, h3, h4⟩ | ⟨h1, h2, h3, h4⟩ <;> rcases h' with ⟨g1, g2, g3⟩ | ⟨g1, g2, g3, g4⟩ | ⟨g1, g2, g3, g4⟩
  all_goals first
    | exact absurd h1 g1
    | exact absurd g1 h1
    | exact absurd h2 g2
    | exact absurd g2 h2
    | exact ⟨h2.trans g2.symm, h3.trans g3.symm⟩
    | exact ⟨h3.trans g3.symm, h4.trans g4.symm⟩
theorem mendAA_fn (v : Value) (ls : List (List (List UInt8))) (k m size : Int) (hk : -1000 < k ∧ k < 1000) (hm : -1000 < m ∧ m < 1000) (hsz : size ≤ 1000000) (w0 : World) (hT : TabAt 0 Go.Lib.deBruijn64tab w0) (hs : S3 w0 v ls) :
    Fn Tryd.prog 10 #[v, .int .i64 k, .int .i64 m, .int .i64 size] w0 fun r w' => (∃ u B e, r = .tuple #[u, .int .i64 e] ∧ SS w' u B ∧ MendAns ls k m size B e) ∧ Below w0.heap.size w0 w' := by
  by_cases hg : goodP ls k m size
  case neg => exact (mend_bad v ls k m size hk hm hsz hg w0 hs).mono fun r w ⟨hr, hb⟩ => ⟨⟨_, [], 1, hr, ⟨[], Sl.nil w, Ins.nil w⟩, .inl ⟨hg, rfl, rfl⟩⟩, hb⟩
  have hc' : 1 ≤ k ∧ 0 ≤ m := by have := hg.1; unfold codeOk at this; omega
  have hs1 := hg.2.1
  obtain ⟨k, rfl⟩ := Int.eq_ofNat_of_zero_le (show 0 ≤ k by omega)
  obtain ⟨m, rfl⟩ := Int.eq_ofNat_of_zero_le hc'.2
  obtain ⟨size, rfl⟩ := Int.eq_ofNat_of_zero_le (show 0 ≤ size by omega)
  refine (mendA_fn v ls k m size hg (by omega) w0 hT hs).mono fun r w ⟨hr, hb⟩ => ⟨?_, hb⟩
  rcases hr with ⟨g1, g2, u, g3, g4⟩ | ⟨g1, g2⟩
  · exact ⟨u, _, 0, g3, g4, .inr (.inr ⟨hg, g1, rfl, rfl⟩)⟩
  · exact ⟨_, [], 15, g2, ⟨[], Sl.nil w, Ins.nil w⟩, .inr (.inl ⟨hg, g1, rfl, rfl⟩)⟩
theorem mendRAA_fn (v : Value) (ls : List (List (List UInt8))) (k m size : Int) (hk : -1000 < k ∧ k < 1000) (hm : -1000 < m ∧ m < 1000) (hsz : size ≤ 1000000) (w0 : World) (hs : S3 w0 v ls) :
    Fn Tryd.prog 15 #[v, .int .i64 k, .int .i64 m, .int .i64 size] w0 fun r w' => (∃ u B e, r = .tuple #[u, .int .i64 e] ∧ SS w' u B ∧ MendAns ls k m size B e) ∧ Below w0.heap.size w0 w' := by
  by_cases hg : goodP ls k m size
  case neg => exact (mendR_bad v ls k m size hk hm hsz hg w0 hs).mono fun r w ⟨hr, hb⟩ => ⟨⟨_, [], 1, hr, ⟨[], Sl.nil w, Ins.nil w⟩, .inl ⟨hg, rfl, rfl⟩⟩, hb⟩
  have hc' : 1 ≤ k ∧ 0 ≤ m := by have := hg.1; unfold codeOk at this; omega
  have hs1 := hg.2.1
  obtain ⟨k, rfl⟩ := Int.eq_ofNat_of_zero_le (show 0 ≤ k by omega)
  obtain ⟨m, rfl⟩ := Int.eq_ofNat_of_zero_le hc'.2
  obtain ⟨size, rfl⟩ := Int.eq_ofNat_of_zero_le (show 0 ≤ size by omega)
  refine (mendRA_fn v ls k m size hg (by omega) w0 hs).mono fun r w ⟨hr, hb⟩ => ⟨?_, hb⟩
  rcases hr with ⟨g1, g2, u, g3, g4⟩ | ⟨g1, g2⟩
  · exact ⟨u, _, 0, g3, g4, .inr (.inr ⟨hg, g1, rfl, rfl⟩)⟩
  · exact ⟨_, [], 15, g2, ⟨[], Sl.nil w, Ins.nil w⟩, .inr (.inl ⟨hg, g1, rfl, rfl⟩)⟩
end Go.Proofs.YtlldgodjfpgbcaaDoor
namespace Go.Proofs.YtlldgodjfpgbcaaDoor
open Go.RowKit
set_option linter.unusedVariables false
set_option linter.unusedSimpArgs false
set_option maxRecDepth 100000

set_option maxHeartbeats 16000000 in
theorem stripRefuses_fn (v : Value) (ls : List (List (List UInt8))) (k m size at_ n : Int) (w0 : World) (hT : TabAt 0 Go.Lib.deBruijn64tab w0) (hs : S3 w0 v ls) (hb : ∀ l ∈ ls, ∀ r ∈ l, r.length ≤ 140737488355328) :
    Fn Tryd.prog 4 #[v, .int .i64 k, .int .i64 m, .int .i64 size, .int .i64 at_, .int .i64 n] w0 fun r w' => r = .bool true ∧ Below w0.heap.size w0 w' := by
  obtain ⟨us, hus, hul, hin⟩ := hs.of
  have hle := hus.le
  obtain ⟨a, cp, rfl⟩ := hus.shape
  rw [hul] at hus hle hs ⊢
  refine Fn.mk Tryd.func4 rfl (by kernel_rfl) Tryd.ntmps4 rfl (by rw [Tryd.results4]) ?_
  refine RunR ?_
  refine V.loop (α := Nat × Nat) (fun z => [(0, .slice a ls.length cp), (1, .int .i64 k), (2, .int .i64 m), (3, .int .i64 size), (4, .int .i64 at_), (5, .int .i64 n), (13, .int .i64 (z.2 : Int)), (14, .int .i64 (z.1 : Int))])
    (fun z w' => z.1 ≤ ls.length ∧ z.2 ≤ 140737488360000 ∧ w' = w0) (fun z => ls.length - z.1) (0, 0) ⟨rfl, rfl, rfl, rfl, rfl, rfl, rfl, rfl, trivial⟩ ⟨Nat.zero_le _, Nat.zero_le _, rfl⟩ ?_
  rintro ⟨i, c⟩ w ⟨hi, hc, hww⟩
  subst hww
  dsimp only at hi hc
  rcases (show (i < ls.length ∧ c ≤ 3000) ∨ (i < ls.length ∧ 3000 < c) ∨ (i = ls.length ∧ 3000 < c) ∨ (i = ls.length ∧ c ≤ 3000) by omega) with ⟨hil, hc3⟩ | ⟨hil, hc3⟩ | ⟨hil, hc3⟩ | ⟨hil, hc3⟩
  · have hgi : ls[i]? = some ls[i] := List.getElem?_eq_getElem hil
    have hmem := List.getElem_mem hil
    have hui : us[i]? = some us[i] := List.getElem?_eq_getElem (by omega)
    have hsi := hin i _ _ hui hgi
    generalize ls[i] = l at *
    generalize us[i] = u at *
    obtain ⟨ul, huls, huli⟩ := hsi.of
    have hull := huli.len
    obtain ⟨ua, uc, rfl⟩ := huls.shape
    rw [hull] at hui huls
    have hule := huls.le
    obtain ⟨vb, vo, rfl, hvr⟩ := hus.addr (by omega)
    refine RunR ?_
    refine V.loop (α := Nat × Nat) (fun z => [(0, .slice (some ⟨vb, vo, none⟩) ls.length cp), (1, .int .i64 k), (2, .int .i64 m), (3, .int .i64 size), (4, .int .i64 at_), (5, .int .i64 n), (13, .int .i64 (z.2 : Int)), (14, .int .i64 (i : Int)), (15, .int .i64 (z.1 : Int))])
      (fun z w' => z.1 ≤ l.length ∧ z.2 ≤ 140737488360000 ∧ w' = w) (fun z => l.length - z.1) (0, c) ⟨rfl, rfl, rfl, rfl, rfl, rfl, rfl, rfl, rfl, trivial⟩ ⟨Nat.zero_le _, hc, rfl⟩ ?_
    rintro ⟨r, c⟩ w2 ⟨hr, hc, hww⟩
    replace hww := hww.symm
    subst hww
    dsimp only at hr hc
    refine RunR ?_
    intro o3 ho3
    conv => whnf
    refine RunR ?_
    refine Ld.row1 ttOk hvr rfl rfl (k := i) hui (by omega) ?_
    conv => whnf
    rcases (show (r < l.length ∧ c ≤ 3000) ∨ (r < l.length ∧ 3000 < c) ∨ (r = l.length) by omega) with ⟨hrl, hc3⟩ | ⟨hrl, hc3⟩ | hrl
    · have hgr : l[r]? = some l[r] := List.getElem?_eq_getElem hrl
      have hmr := hb l hmem _ (List.getElem_mem hrl)
      obtain ⟨x, hx, hsx⟩ := huli.get hgr
      generalize l[r] = row at *
      obtain ⟨xa, xc, rfl⟩ := hsx.shape
      rw [bv_length] at hx
      obtain ⟨ub, uo, rfl, hur⟩ := huls.addr (by omega)
      refine RunR ?_
      intro o4 ho4
      conv => whnf
      refine RunR ?_
      refine Ld.row1 ttOk hvr rfl rfl (k := i) hui (by omega) ?_
      conv => whnf
      refine RunR ?_
      intro o5 ho5
      conv => whnf
      refine RunR ?_
      refine Ld.row1 ttOk hur rfl rfl (k := r) hx (by omega) ?_
      conv => whnf
      refine RunR ?_
      refine ⟨(r + 1, c + 1 + row.length), ⟨rfl, rfl, rfl, rfl, rfl, rfl, rfl, rfl, rfl, trivial⟩, ⟨by dsimp only; omega, by dsimp only; omega, rfl⟩, (by first | omega | (dsimp only; omega))⟩
    · refine RunR ?_
      refine ⟨(i + 1, c), ⟨rfl, rfl, rfl, rfl, rfl, rfl, rfl, rfl, trivial⟩, ⟨by dsimp only; omega, hc, rfl⟩, (by first | omega | (dsimp only; omega))⟩
    · refine RunR ?_
      refine ⟨(i + 1, c), ⟨rfl, rfl, rfl, rfl, rfl, rfl, rfl, rfl, trivial⟩, ⟨by dsimp only; omega, hc, rfl⟩, (by first | omega | (dsimp only; omega))⟩
  · refine RunR ?_
    exact ⟨rfl, Below.refl _ _⟩
  · refine RunR ?_
    exact ⟨rfl, Below.refl _ _⟩
  subst hil
  refine RunR ?_
  refine (small_fn k m _).mono fun r w1 ⟨hr, hw⟩ => ?_
  subst hr
  replace hw := hw.symm
  subst hw
  by_cases hsm : k < 20 ∧ m < 20 ∧ -20 < k ∧ -20 < m
  case neg =>
    rw [decide_eq_false hsm]
    conv => whnf
    refine RunR ?_
    exact ⟨rfl, Below.refl _ _⟩
  rw [decide_eq_true hsm]
  by_cases hsz : 100000 < size
  · conv => whnf
    refine RunR ?_
    exact ⟨rfl, Below.refl _ _⟩
  have hk : -1000 < k ∧ k < 1000 := by omega
  have hm : -1000 < m ∧ m < 1000 := by omega
  conv => whnf
  refine RunR ?_
  refine (partA_fn _ ls k m size at_ n hk hm (by omega) _ hT hs).mono fun r w1 ⟨⟨u1, b1, e1, hr, hs1, ha1⟩, hb1⟩ => ?_
  subst hr
  have hsw := hs.below hb1
  conv => whnf
  refine RunR ?_
  refine (partRA_fn _ ls k m size at_ n hk hm (by omega) _ hsw).mono fun r w2 ⟨⟨u2, b2, e2, hr, hs2, ha2⟩, hb2⟩ => ?_
  subst hr
  obtain ⟨rfl, rfl⟩ := ha1.uniq ha2
  replace hsw := hsw.below hb2
  replace hs1 := hs1.below hb2
  have hW2 := hb1.trans (hb2.mono hb1.size)
  conv => whnf
  refine RunR ?_
  refine (mendAA_fn _ ls k m size hk hm (by omega) _ (tabAt_below hT hW2) hsw).mono fun r w3 ⟨⟨u3, b3, e3, hr, hs3, ha3⟩, hb3⟩ => ?_
  subst hr
  have hW3 := hW2.trans (hb3.mono hW2.size)
  replace hsw := hsw.below hb3
  conv => whnf
  refine RunR ?_
  refine (mendRAA_fn _ ls k m size hk hm (by omega) _ hsw).mono fun r w4 ⟨⟨u4, b4, e4, hr, hs4, ha4⟩, hb4⟩ => ?_
  subst hr
  obtain ⟨rfl, rfl⟩ := ha3.uniq ha4
  have hW4 := hW3.trans (hb4.mono hW3.size)
  replace hs1 := hs1.below (hb3.trans (hb4.mono hb3.size))
  replace hs2 := hs2.below (hb3.trans (hb4.mono hb3.size))
  replace hs3 := hs3.below hb4
  conv => whnf
  refine RunR ?_
  refine (same_fn _ _ _ _ _ hs1 hs2).mono fun r w5 ⟨hr, hb5⟩ => ?_
  subst hr
  rw [decide_eq_true rfl]
  have hW5 := hW4.trans (hb5.mono hW4.size)
  replace hs3 := hs3.below hb5
  replace hs4 := hs4.below hb5
  conv => whnf
  refine RunR ?_
  refine (rows_fn _ _ _ _ _ hs3 hs4).mono fun r w6 ⟨hr, hb6⟩ => ?_
  subst hr
  rw [decide_eq_true rfl]
  have hW6 := hW5.trans (hb6.mono hW5.size)
  conv => whnf
  refine RunR ?_
  refine (known_fn _).mono fun r w7 ⟨hr, hb7⟩ => ?_
  subst hr
  conv => whnf
  refine RunR ?_
  exact ⟨rfl, hW6.trans (hb7.mono hW6.size)⟩
end Go.Proofs.YtlldgodjfpgbcaaDoor
