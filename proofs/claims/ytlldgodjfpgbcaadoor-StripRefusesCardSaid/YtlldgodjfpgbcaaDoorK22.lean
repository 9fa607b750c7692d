/- strip.File, garnerref14.File. garnerref14.File. Nothing is claimed here. -/
import Derived.Test.YtlldgodjfpgbcaaDoorK17
import Derived.Test.YtlldgodjfpgbcaaDoorK02
namespace Go.Proofs.YtlldgodjfpgbcaaDoor
open Go.RowKit
set_option linter.unusedVariables false
set_option linter.unusedSimpArgs false
set_option maxRecDepth 100000

/-- append of bytes to a row of one's own -/
theorem Rv.appB {w : World} {K : Value → World → Prop} {ty : TypeId} {base B : Nat} {v x : Value} {A L : List UInt8} (ho : w.ownsRow base 5 1 v A.length (bv A)) (hx : Sl w x (bv L)) (hlen : A.length + L.length ≤ 140737488355328) (hb : base ≤ w.heap.size) (hB : B ≤ base)
    (hk : ∀ v' w', w'.ownsRow base 5 1 v' (A ++ L).length (bv (A ++ L)) → Below B w w' → w.grownBy w' v.ownBlock → K v' w') : Rv Tryd.prog (Builtin.append_ #[22, 22] ty #[v, x]) w K := by
  refine Rv.append' ttOk tl22 tl5 rfl (by decide) ho (Sl.toN hx) (bv_one _) (by simp only [maxLen, bv_length]; omega) (by simp; omega) hb fun v' w' h1 h2 _ => ?_
  refine hk v' w' ?_ ((Below.refl _ w).grown h2 (Nat.le_trans hB hb) fun q hq => Nat.le_trans hB (ho.lt q hq).1) h2
  rw [bv_append, List.length_append]
  simpa using h1

def markB : List UInt8 := [103, 115, 1, 0]
def blockB (rows : List UInt8) (t : Nat) : List UInt8 := chunk rows t ++ putB (crc (chunk rows t)) 4
def blocksB (rows : List UInt8) : Nat → List UInt8
  | 0 => []
  | t + 1 => blocksB rows t ++ blockB rows t
def headB (id i size : Nat) : List UInt8 := markB ++ putB id 4 ++ putB i 4 ++ putB size 4
def fileB (id i size : Nat) (rows : List UInt8) : List UInt8 := headB id i size ++ putB (crc (headB id i size)) 4 ++ blocksB rows (rows.length / 16)
theorem headB_len (id i size : Nat) : (headB id i size).length = 16 := by simp [headB, markB, putB_len]
theorem blockB_len (rows : List UInt8) (t : Nat) (h : 16 * t + 16 ≤ rows.length) : (blockB rows t).length = 20 := by simp [blockB, putB_len, chunk_len rows t h]
theorem blocksB_len (rows : List UInt8) : ∀ t, 16 * t ≤ rows.length → (blocksB rows t).length = 20 * t
  | 0, _ => rfl
  | t + 1, h => by rw [blocksB, List.length_append, blocksB_len rows t (by omega), blockB_len rows t (by omega)]; omega

def okF (id i size : Int) (n : Nat) : Prop := (0 ≤ id ∧ id ≤ 2147483647) ∧ (0 ≤ i ∧ i ≤ 2147483647) ∧ 1 ≤ size ∧ size ≤ 4194304 ∧ n ≠ 0 ∧ n % 16 = 0

theorem mark_fn (w : World) : Fn Tryd.prog 29 #[] w fun r w' => w'.ownsRow w.heap.size 5 1 r markB.length (bv markB) ∧ Below w.heap.size w w' := by
  refine Fn.mk Tryd.func29 rfl (by kernel_rfl) Tryd.ntmps29 rfl (by rw [Tryd.results29]) ?_
  refine RunR ?_
  refine Rv.build ttOk tl22 tl5 rfl rfl (by simp [cellsL]) (by decide) (by decide) fun w1 ho1 hg1 _ => ?_
  conv => whnf
  refine RunR ?_
  exact ⟨by simpa [markB, bv, u8, cellsL] using ho1, below_of_grown0 hg1 (Nat.le_refl _)⟩

theorem num_fn (n : Int) (w : World) : Fn Tryd.prog 41 #[.int .i64 n] w fun r w' => r = .bool (decide (0 ≤ n ∧ n ≤ 2147483647)) ∧ w' = w := by
  refine Fn.mk Tryd.func41 rfl (by kernel_rfl) Tryd.ntmps41 rfl (by rw [Tryd.results41]) ?_
  by_cases h1 : 0 ≤ n
  · by_cases h2 : n ≤ 2147483647
    · refine RunR ?_
      exact ⟨by simp [h1, h2], rfl⟩
    · refine RunR ?_
      exact ⟨by simp [h1, h2], rfl⟩
  · refine RunR ?_
    exact ⟨by simp [h1], rfl⟩

theorem may_fn (id i size : Int) (w : World) : Fn Tryd.prog 28 #[.int .i64 id, .int .i64 i, .int .i64 size] w fun r w' => r = .bool (decide ((0 ≤ id ∧ id ≤ 2147483647) ∧ (0 ≤ i ∧ i ≤ 2147483647) ∧ 1 ≤ size ∧ size ≤ 4194304)) ∧ w' = w := by
  refine Fn.mk Tryd.func28 rfl (by kernel_rfl) Tryd.ntmps28 rfl (by rw [Tryd.results28]) ?_
  refine RunR ?_
  refine (num_fn id w).mono fun r w1 ⟨hr, hw⟩ => ?_
  subst hr; subst hw
  by_cases h1 : 0 ≤ id ∧ id ≤ 2147483647
  case neg =>
    rw [decide_eq_false h1]
    conv => whnf
    refine RunR ?_
    exact ⟨by simp [h1], rfl⟩
  rw [decide_eq_true h1]
  conv => whnf
  refine RunR ?_
  refine (num_fn i w1).mono fun r w2 ⟨hr, hw⟩ => ?_
  subst hr; subst hw
  by_cases h2 : 0 ≤ i ∧ i ≤ 2147483647
  case neg =>
    rw [decide_eq_false h2]
    conv => whnf
    refine RunR ?_
    exact ⟨by simp [h2], rfl⟩
  rw [decide_eq_true h2]
  by_cases h3 : 1 ≤ size
  · by_cases h4 : size ≤ 4194304
    · conv => whnf
      refine RunR ?_
      exact ⟨by simp [h1, h2, h3, h4], rfl⟩
    · conv => whnf
      refine RunR ?_
      exact ⟨by simp [h4], rfl⟩
  · conv => whnf
    refine RunR ?_
    exact ⟨by simp [h3], rfl⟩

theorem file_bad (id i size : Int) (v : Value) (l : List UInt8) (h : ¬ okF id i size l.length) (w : World) (hs : Sl w v (bv l)) :
    Fn Tryd.prog 16 #[.int .i64 id, .int .i64 i, .int .i64 size, v] w fun r w' => r = .tuple #[.slice none 0 0, .int .i64 1] ∧ w' = w := by
  obtain ⟨a, cp, rfl⟩ := hs.shape
  simp only [bv_length] at *
  refine Fn.mk Tryd.func16 rfl (by kernel_rfl) Tryd.ntmps16 rfl (by rw [Tryd.results16]) ?_
  refine RunR ?_
  refine (may_fn id i size w).mono fun r w1 ⟨hr, hw⟩ => ?_
  subst hr; subst hw
  by_cases h1 : (0 ≤ id ∧ id ≤ 2147483647) ∧ (0 ≤ i ∧ i ≤ 2147483647) ∧ 1 ≤ size ∧ size ≤ 4194304
  case neg =>
    rw [decide_eq_false h1]
    conv => whnf
    refine RunR ?_
    exact ⟨rfl, rfl⟩
  rw [decide_eq_true h1]
  by_cases h2 : l.length = 0
  · conv => whnf
    refine RunR ?_
    exact ⟨rfl, rfl⟩
  · have h3 : l.length % 16 ≠ 0 := fun h3 => h ⟨h1.1, h1.2.1, h1.2.2.1, h1.2.2.2, h2, h3⟩
    conv => whnf
    refine RunR ?_
    refine Rem.at l.length 16 rfl rfl (by decide) ?_
    conv => whnf
    refine RunR ?_
    exact ⟨rfl, rfl⟩

def numsB (id i size : Nat) : Nat → List UInt8
  | 0 => markB
  | 1 => markB ++ putB id 4
  | 2 => markB ++ putB id 4 ++ putB i 4
  | _ => headB id i size

theorem file_fn (id i size : Nat) (v : Value) (l : List UInt8) (h : okF id i size l.length) (hl : l.length ≤ 1000000) (w : World) (hs : Sl w v (bv l)) :
    Fn Tryd.prog 16 #[.int .i64 id, .int .i64 i, .int .i64 size, v] w fun r w' => ∃ u, r = .tuple #[u, .int .i64 0] ∧ w'.ownsRow w.heap.size 5 1 u (fileB id i size l).length (bv (fileB id i size l)) ∧ Below w.heap.size w w' := by
  obtain ⟨hid, hi, hz1, hz2, hl0, hl16⟩ := h
  have hlen : l.length = 16 * (l.length / 16) := by omega
  obtain ⟨a, cp, rfl⟩ := hs.shape
  simp only [bv_length] at *
  generalize hN : l.length / 16 = N at *
  refine Fn.mk Tryd.func16 rfl (by kernel_rfl) Tryd.ntmps16 rfl (by rw [Tryd.results16]) ?_
  refine RunR ?_
  refine (may_fn id i size w).mono fun r w1 ⟨hr, hw⟩ => ?_
  subst hr; subst hw
  rw [decide_eq_true ⟨hid, hi, hz1, hz2⟩]
  conv => whnf
  refine RunR ?_
  refine Rem.at l.length 16 rfl rfl (by decide) ?_
  conv => whnf
  refine RunR ?_
  refine (mark_fn w1).mono fun r w2 ⟨hm, hB2⟩ => ?_
  conv => whnf
  refine RunR ?_
  refine Qv.arr (cells := #[.int .i64 id, .int .i64 i, .int .i64 size]) ttOk tl56 tl3 rfl ?_
  conv => whnf
  refine RunR ?_
  refine V.loop (α := Nat × Value) (fun (k, x) => [(3, .slice a l.length cp), (10, x), (35, .agg #[.int .i64 id, .int .i64 i, .int .i64 size]), (36, .int .i64 k)])
    (fun (k, x) w' => k ≤ 3 ∧ w'.ownsRow w1.heap.size 5 1 x (numsB id i size k).length (bv (numsB id i size k)) ∧ Below w1.heap.size w1 w')
    (fun (k, _) => 3 - k) (0, r) ⟨rfl, rfl, rfl, rfl, trivial⟩ ⟨by omega, hm, hB2⟩ ?_
  rintro ⟨k, x⟩ w3 ⟨hk, ho3, hB3⟩
  dsimp only at *
  rcases (by omega : k = 0 ∨ k = 1 ∨ k = 2 ∨ k = 3) with rfl | rfl | rfl | rfl
  · refine RunR ?_
    refine (put32_fn id (by omega) w3).mono fun r w4 ⟨ho4, hB4⟩ => ?_
    conv => whnf
    refine Rv.appB (own_below ho3 hB4 (Nat.le_refl _)) (Sl.of_own ho4) (by simp [numsB, putB_len, markB]) (Nat.le_trans hB3.size hB4.size) (Nat.le_refl _) fun v5 w5 ho5 hB5 hg5 => ?_
    conv => whnf
    refine RunR ?_
    have b4 := hB3.trans (hB4.mono hB3.size)
    exact ⟨(1, v5), ⟨rfl, rfl, rfl, rfl, trivial⟩, ⟨by omega, ho5, b4.trans hB5⟩, (by first | omega | (dsimp only; omega))⟩
  · refine RunR ?_
    refine (put32_fn i (by omega) w3).mono fun r w4 ⟨ho4, hB4⟩ => ?_
    conv => whnf
    refine Rv.appB (own_below ho3 hB4 (Nat.le_refl _)) (Sl.of_own ho4) (by simp [numsB, putB_len, markB]) (Nat.le_trans hB3.size hB4.size) (Nat.le_refl _) fun v5 w5 ho5 hB5 hg5 => ?_
    conv => whnf
    refine RunR ?_
    have b4 := hB3.trans (hB4.mono hB3.size)
    exact ⟨(2, v5), ⟨rfl, rfl, rfl, rfl, trivial⟩, ⟨by omega, ho5, b4.trans hB5⟩, (by first | omega | (dsimp only; omega))⟩
  · refine RunR ?_
    refine (put32_fn size (by omega) w3).mono fun r w4 ⟨ho4, hB4⟩ => ?_
    conv => whnf
    refine Rv.appB (own_below ho3 hB4 (Nat.le_refl _)) (Sl.of_own ho4) (by simp [numsB, putB_len, markB]) (Nat.le_trans hB3.size hB4.size) (Nat.le_refl _) fun v5 w5 ho5 hB5 hg5 => ?_
    conv => whnf
    refine RunR ?_
    have b4 := hB3.trans (hB4.mono hB3.size)
    exact ⟨(3, v5), ⟨rfl, rfl, rfl, rfl, trivial⟩, ⟨by omega, ho5, b4.trans hB5⟩, (by first | omega | (dsimp only; omega))⟩
  have ho3' : w3.ownsRow w1.heap.size 5 1 x (headB id i size).length (bv (headB id i size)) := ho3
  have hcl := crc_lt (headB id i size)
  refine RunR ?_
  refine (sum_fn x (headB id i size) w3 (Sl.of_own ho3')).mono fun r w4 ⟨hr, hB4⟩ => ?_
  subst hr
  conv => whnf
  refine (put32_fn (crc (headB id i size)) hcl w4).mono fun r w5 ⟨ho5, hB5⟩ => ?_
  conv => whnf
  have ho3b := own_below (own_below ho3' hB4 (Nat.le_refl _)) hB5 (Nat.le_refl _)
  have b4 := hB3.trans (hB4.mono hB3.size)
  have b5 := b4.trans (hB5.mono b4.size)
  refine Rv.appB ho3b (Sl.of_own ho5) (by simp [headB_len, putB_len]) b5.size (Nat.le_refl _) fun v6 w6 ho6 hB6 hg6 => ?_
  have b6 := b5.trans hB6
  conv => whnf
  refine RunR ?_
  refine Quo.at l.length 16 rfl rfl (by decide) ?_
  rw [hN]
  refine Ar.mi _ rfl (by omega) ?_
  conv => whnf
  refine RunR ?_
  refine V.loop (α := Nat × Value) (fun (t, x) => [(3, .slice a l.length cp), (10, x), (52, .int .i64 N), (53, .int .i64 t)])
    (fun (t, x) w' => t ≤ N ∧ w'.ownsRow w1.heap.size 5 1 x (headB id i size ++ putB (crc (headB id i size)) 4 ++ blocksB l t).length (bv (headB id i size ++ putB (crc (headB id i size)) 4 ++ blocksB l t)) ∧ Below w1.heap.size w1 w')
    (fun (t, _) => N - t) (0, v6) ⟨rfl, rfl, rfl, rfl, trivial⟩ ⟨by omega, by simpa [blocksB] using ho6, b6⟩ ?_
  rintro ⟨t, x⟩ w7 ⟨ht, ho7, hB7⟩
  dsimp only at *
  refine RunR ?_
  refine Br.dec (fun h => ?_) (fun h => ?_)
  · have htN : t < N := by omega
    have hs7 := hs.below hB7
    obtain ⟨b1, o1, rfl, hr1⟩ := hs7.addr (by omega)
    obtain ⟨q1, q2, q3⟩ := hs7.len
    rw [bv_length] at q1
    refine RunR ?_
    intro o6 n6 c6 p1 p2 p3 p4
    conv => whnf
    refine RunR ?_
    obtain rfl : n6 = 16 := by omega
    have hch : Sl w7 (.slice (some ⟨b1, o6, none⟩) 16 c6) (bv (chunk l t)) := by
      have hd := hs7.drop (k := 16 * t) (by rw [bv_length]; omega) (o' := o6) (n' := l.length - 16 * t) (c' := c6) (fun h => by have := p1 (by omega); omega) rfl (by omega)
      have ht := hd.take (k := 16) (by simp; omega) (c' := c6) (by omega) (Nat.le_refl _)
      rwa [chunk_bv]
    have hck := chunk_len l t (by omega)
    have hbl := blocksB_len l t (by omega)
    refine Rv.appB ho7 hch (by simp [headB_len, putB_len, hck, hbl]; omega) hB7.size (Nat.le_refl _) fun v8 w8 ho8 hB8 hg8 => ?_
    have b8 := hB7.trans hB8
    have hs8 := hs.below b8
    conv => whnf
    refine RunR ?_
    have hch8 : Sl w8 (.slice (some ⟨b1, o6, none⟩) 16 c6) (bv (chunk l t)) := by
      have hd := hs8.drop (k := 16 * t) (by rw [bv_length]; omega) (o' := o6) (n' := l.length - 16 * t) (c' := c6) (fun h => by have := p1 (by omega); omega) rfl (by omega)
      have ht := hd.take (k := 16) (by simp; omega) (c' := c6) (by omega) (Nat.le_refl _)
      rwa [chunk_bv]
    refine (sum_fn _ (chunk l t) w8 hch8).mono fun r w9 ⟨hr, hB9⟩ => ?_
    subst hr
    have hcl2 := crc_lt (chunk l t)
    conv => whnf
    refine (put32_fn (crc (chunk l t)) hcl2 w9).mono fun r w10 ⟨ho10, hB10⟩ => ?_
    have b9 := b8.trans (hB9.mono b8.size)
    have b10 := b9.trans (hB10.mono b9.size)
    conv => whnf
    refine Rv.appB (own_below (own_below ho8 hB9 (Nat.le_refl _)) hB10 (Nat.le_refl _)) (Sl.of_own ho10) (by simp [headB_len, putB_len, hck, hbl]; omega) b10.size (Nat.le_refl _) fun v11 w11 ho11 hB11 hg11 => ?_
    conv => whnf
    refine RunR ?_
    refine ⟨(t + 1, v11), ⟨rfl, rfl, rfl, rfl, trivial⟩, ⟨by dsimp only; omega, ?_, b10.trans hB11⟩, (by first | omega | (dsimp only; omega))⟩
    simpa only [blocksB, blockB, List.append_assoc] using ho11
  · obtain rfl : t = N := by omega
    refine RunR ?_
    refine ⟨x, rfl, ?_, hB7⟩
    unfold fileB
    rw [hN]
    exact ho7

end Go.Proofs.YtlldgodjfpgbcaaDoor
namespace Go.Proofs.YtlldgodjfpgbcaaDoor
open Go.RowKit
set_option linter.unusedVariables false
set_option linter.unusedSimpArgs false
set_option maxRecDepth 100000

end Go.Proofs.YtlldgodjfpgbcaaDoor
