/- garnerref14.Read: the walk. Nothing is claimed here. -/
import Derived.Test.YtlldgodjfpgbcaaRb
namespace Go.Proofs.Ytlldgodjfpgbcaa
open Go.RowKit
set_option linter.unusedVariables false
set_option linter.unusedSimpArgs false
set_option maxRecDepth 100000

theorem get32Rw {w : World} {v : Value} {b : List UInt8} {lo n : Nat} (h : Sl w v (bv (Go.Proofs.Ytlldgodjfpgbcaa.win b lo n))) (hk : lo + n ≤ b.length) (h4 : 4 ≤ n) : Fn Try.prog 50 #[v] w fun r w' => r = .int .u32 (ofB (Go.Proofs.Ytlldgodjfpgbcaa.win b lo 4) : Int) ∧ Below w.heap.size w w' :=
  (get32R_fn v _ (by rw [win_len hk]; exact h4) w h).mono fun r w' ⟨hw, hr⟩ => by
    subst hw
    rw [win_take h4] at hr
    exact ⟨hr, (Below.refl _ w).drew⟩
theorem sumRw {w : World} {v : Value} {l : List UInt8} (h : Sl w v (bv l)) : Fn Try.prog 39 #[v] w fun r w' => r = .int .u32 (crc l : Int) ∧ Below w.heap.size w w' := sumR_fn v l w h
def readRPost (b : List UInt8) (r : Value) (w' : World) : Prop := if errB b = 0 then ∃ rv, r = .tuple #[.agg #[.int .i64 (ofB (Go.Proofs.Ytlldgodjfpgbcaa.win b 4 4) : Int), .int .i64 (ofB (Go.Proofs.Ytlldgodjfpgbcaa.win b 8 4) : Int), .int .i64 (ofB (Go.Proofs.Ytlldgodjfpgbcaa.win b 12 4) : Int), rv], .int .i64 0] ∧ SS w' rv (rowsB b ((b.length - 20) / 20)) else
  r = .tuple #[.agg #[.int .i64 0, .int .i64 0, .int .i64 0, .slice none 0 0], .int .i64 (errB b : Int)]
theorem Sl.rowOf' {w : World} {b o n c : Nat} {xs : List Value} (h : Sl w (.slice (some ⟨b, o, none⟩) n c) xs) : Row w b o xs := by
  obtain ⟨a', c', he, h1, h2, h3, h4⟩ := h.of
  injection he with e1 e2 e3
  subst e1
  exact (h4 _ rfl).2
theorem own_shape1 {w : World} {base : Nat} {e : TypeId} {sz : Nat} {v : Value} {n : Nat} {xs : List Value} (h : w.ownsRow base e sz v n xs) : ∃ a cap, v = .slice a n cap := by
  rcases h.2 with ⟨rfl, rfl⟩ | ⟨g, cap, _, rfl, _⟩
  · exact ⟨none, 0, rfl⟩
  · exact ⟨_, cap, rfl⟩
theorem shuffle2 {α : Type} (r a b c : α) (l : List α) : (r :: a :: b :: c :: l).Perm (a :: b :: c :: (l ++ [r])) := by
  refine List.Perm.symm ((((List.perm_append_comm.cons c).cons b).cons a).trans ?_)
  exact List.perm_append_comm_assoc [a, b, c] [r] l
theorem four {b : List UInt8} (h : 20 ≤ b.length) : ∃ x0 x1 x2 x3 t, b = x0 :: x1 :: x2 :: x3 :: t := by
  match b, h with
  | x0 :: x1 :: x2 :: x3 :: t, _ => exact ⟨x0, x1, x2, x3, t, rfl⟩
set_option maxHeartbeats 8000000 in
theorem readR_fn (v : Value) (b : List UInt8) (w0 : World) (hs : Sl w0 v (bv b)) (hlen : b.length ≤ 1000000) : Fn Try.prog 40 #[v] w0 fun r w' => readRPost b r w' ∧ Below w0.heap.size w0 w' := by
  obtain ⟨a, c, rfl⟩ := hs.shape
  simp only [bv_length] at *
  have hL := Sep.start Try.prog w0
  have hB := Nat.le_refl w0.heap.size
  refine Fn.mk Try.func40 rfl (by kernel_rfl) Try.ntmps40 rfl (by rw [Try.results40]) ?_
  repeat (first | (refine RunH ?_; intro w hL hB; try clear w) | (refine Both.mk ?_ ?_ <;> conv => whnf) | fail)
  (refine Nw.sep hL hB (fun b2 w hL hB hb2 => ?_); conv => whnf)
  by_cases h20 : b.length < 20
  · have he : errB b = 2 := by rw [errB, if_pos h20]
    repeat (first | (refine RunH ?_; intro w hL hB; try clear w) | (refine Both.mk ?_ ?_ <;> conv => whnf) | fail)
    exact ⟨by simp [readRPost, he, takeL, dropL], hL.below⟩
  obtain ⟨bb, o, rfl, hr⟩ := hs.addr (by omega)
  obtain ⟨q1, q2, q3⟩ := hs.len
  rw [bv_length] at q1
  have hbad : ¬ okHead b → errB b = 3 := fun h => by rw [errB, if_neg h20, if_pos h]
  obtain ⟨x0, x1, x2, x3, tl, hb⟩ := four (b := b) (by omega)
  have hrow := (hs.below hL.below).rowOf'
  have hmk : b.take 4 = markB ↔ x0 = 103 ∧ x1 = 115 ∧ x2 = 1 ∧ x3 = 0 := by rw [hb]; simp [markB]
  have hui : ∀ (x y : UInt8), (x.toNat : Int) = y.toNat ↔ x = y := fun x y => by rw [Int.ofNat_inj]; exact UInt8.toNat_inj
  have m0 := hui x0 103
  by_cases k0 : (x0.toNat : Int) = 103
  case neg =>
    have he := hbad fun h => k0 (m0.2 (hmk.1 h.1).1)
    repeat (first | (refine RunH ?_; intro w hL hB; try clear w) | (refine Both.mk ?_ ?_ <;> conv => whnf) | intro o9 ho9 | (refine Ld.row1 ttOk hrow rfl rfl (k := 0) (v := .int .u8 (x0.toNat : Int)) (by rw [hb]; rfl) (by omega) ?_; conv => whnf) | (refine Ld.row1 ttOk hrow rfl rfl (k := 1) (v := .int .u8 (x1.toNat : Int)) (by rw [hb]; rfl) (by omega) ?_; conv => whnf) | (refine Ld.row1 ttOk hrow rfl rfl (k := 2) (v := .int .u8 (x2.toNat : Int)) (by rw [hb]; rfl) (by omega) ?_; conv => whnf) | (refine Ld.row1 ttOk hrow rfl rfl (k := 3) (v := .int .u8 (x3.toNat : Int)) (by rw [hb]; rfl) (by omega) ?_; conv => whnf) | fail)
    exact ⟨by simp [readRPost, he, takeL, dropL], hL.below⟩
  have m1 := hui x1 115
  by_cases k1 : (x1.toNat : Int) = 115
  case neg =>
    have he := hbad fun h => k1 (m1.2 (hmk.1 h.1).2.1)
    repeat (first | (refine RunH ?_; intro w hL hB; try clear w) | (refine Both.mk ?_ ?_ <;> conv => whnf) | intro o9 ho9 | (refine Ld.row1 ttOk hrow rfl rfl (k := 0) (v := .int .u8 (x0.toNat : Int)) (by rw [hb]; rfl) (by omega) ?_; conv => whnf) | (refine Ld.row1 ttOk hrow rfl rfl (k := 1) (v := .int .u8 (x1.toNat : Int)) (by rw [hb]; rfl) (by omega) ?_; conv => whnf) | (refine Ld.row1 ttOk hrow rfl rfl (k := 2) (v := .int .u8 (x2.toNat : Int)) (by rw [hb]; rfl) (by omega) ?_; conv => whnf) | (refine Ld.row1 ttOk hrow rfl rfl (k := 3) (v := .int .u8 (x3.toNat : Int)) (by rw [hb]; rfl) (by omega) ?_; conv => whnf) | fail)
    exact ⟨by simp [readRPost, he, takeL, dropL], hL.below⟩
  have m2 := hui x2 1
  by_cases k2 : (x2.toNat : Int) = 1
  case neg =>
    have he := hbad fun h => k2 (m2.2 (hmk.1 h.1).2.2.1)
    repeat (first | (refine RunH ?_; intro w hL hB; try clear w) | (refine Both.mk ?_ ?_ <;> conv => whnf) | intro o9 ho9 | (refine Ld.row1 ttOk hrow rfl rfl (k := 0) (v := .int .u8 (x0.toNat : Int)) (by rw [hb]; rfl) (by omega) ?_; conv => whnf) | (refine Ld.row1 ttOk hrow rfl rfl (k := 1) (v := .int .u8 (x1.toNat : Int)) (by rw [hb]; rfl) (by omega) ?_; conv => whnf) | (refine Ld.row1 ttOk hrow rfl rfl (k := 2) (v := .int .u8 (x2.toNat : Int)) (by rw [hb]; rfl) (by omega) ?_; conv => whnf) | (refine Ld.row1 ttOk hrow rfl rfl (k := 3) (v := .int .u8 (x3.toNat : Int)) (by rw [hb]; rfl) (by omega) ?_; conv => whnf) | fail)
    exact ⟨by simp [readRPost, he, takeL, dropL], hL.below⟩
  have m3 := hui x3 0
  by_cases k3 : (x3.toNat : Int) = 0
  case neg =>
    have he := hbad fun h => k3 (m3.2 (hmk.1 h.1).2.2.2)
    repeat (first | (refine RunH ?_; intro w hL hB; try clear w) | (refine Both.mk ?_ ?_ <;> conv => whnf) | intro o9 ho9 | (refine Ld.row1 ttOk hrow rfl rfl (k := 0) (v := .int .u8 (x0.toNat : Int)) (by rw [hb]; rfl) (by omega) ?_; conv => whnf) | (refine Ld.row1 ttOk hrow rfl rfl (k := 1) (v := .int .u8 (x1.toNat : Int)) (by rw [hb]; rfl) (by omega) ?_; conv => whnf) | (refine Ld.row1 ttOk hrow rfl rfl (k := 2) (v := .int .u8 (x2.toNat : Int)) (by rw [hb]; rfl) (by omega) ?_; conv => whnf) | (refine Ld.row1 ttOk hrow rfl rfl (k := 3) (v := .int .u8 (x3.toNat : Int)) (by rw [hb]; rfl) (by omega) ?_; conv => whnf) | fail)
    exact ⟨by simp [readRPost, he, takeL, dropL], hL.below⟩
  have hm : b.take 4 = markB := hmk.2 ⟨m0.1 k0, m1.1 k1, m2.1 k2, m3.1 k3⟩
  by_cases h21 : b.length = 20
  · have he := hbad fun h => h.2.1 h21
    repeat (first | (refine RunH ?_; intro w hL hB; try clear w) | (refine Both.mk ?_ ?_ <;> conv => whnf) | intro o9 ho9 | (refine Ld.row1 ttOk hrow rfl rfl (k := 0) (v := .int .u8 (x0.toNat : Int)) (by rw [hb]; rfl) (by omega) ?_; conv => whnf) | (refine Ld.row1 ttOk hrow rfl rfl (k := 1) (v := .int .u8 (x1.toNat : Int)) (by rw [hb]; rfl) (by omega) ?_; conv => whnf) | (refine Ld.row1 ttOk hrow rfl rfl (k := 2) (v := .int .u8 (x2.toNat : Int)) (by rw [hb]; rfl) (by omega) ?_; conv => whnf) | (refine Ld.row1 ttOk hrow rfl rfl (k := 3) (v := .int .u8 (x3.toNat : Int)) (by rw [hb]; rfl) (by omega) ?_; conv => whnf) | fail)
    exact ⟨by simp [readRPost, he, takeL, dropL], hL.below⟩
  by_cases hmod : (b.length - 20) % 20 = 0
  case neg =>
    have he := hbad fun h => hmod h.2.2
    repeat (first | (refine RunH ?_; intro w hL hB; try clear w) | (refine Both.mk ?_ ?_ <;> conv => whnf) | intro o9 ho9 | (refine Ld.row1 ttOk hrow rfl rfl (k := 0) (v := .int .u8 (x0.toNat : Int)) (by rw [hb]; rfl) (by omega) ?_; conv => whnf) | (refine Ld.row1 ttOk hrow rfl rfl (k := 1) (v := .int .u8 (x1.toNat : Int)) (by rw [hb]; rfl) (by omega) ?_; conv => whnf) | (refine Ld.row1 ttOk hrow rfl rfl (k := 2) (v := .int .u8 (x2.toNat : Int)) (by rw [hb]; rfl) (by omega) ?_; conv => whnf) | (refine Ld.row1 ttOk hrow rfl rfl (k := 3) (v := .int .u8 (x3.toNat : Int)) (by rw [hb]; rfl) (by omega) ?_; conv => whnf) | (refine Rem.at (b.length - 20) 20 (by omega) rfl (by decide) ?_; conv => whnf) | fail)
    exact ⟨by simp [readRPost, he, takeL, dropL], hL.below⟩
  have hoh : okHead b := ⟨hm, h21, hmod⟩
  repeat (first | (refine RunH ?_; intro w hL hB; try clear w) | (refine Both.mk ?_ ?_ <;> conv => whnf) | intro o9 ho9 | (refine Ld.row1 ttOk hrow rfl rfl (k := 0) (v := .int .u8 (x0.toNat : Int)) (by rw [hb]; rfl) (by omega) ?_; conv => whnf) | (refine Ld.row1 ttOk hrow rfl rfl (k := 1) (v := .int .u8 (x1.toNat : Int)) (by rw [hb]; rfl) (by omega) ?_; conv => whnf) | (refine Ld.row1 ttOk hrow rfl rfl (k := 2) (v := .int .u8 (x2.toNat : Int)) (by rw [hb]; rfl) (by omega) ?_; conv => whnf) | (refine Ld.row1 ttOk hrow rfl rfl (k := 3) (v := .int .u8 (x3.toNat : Int)) (by rw [hb]; rfl) (by omega) ?_; conv => whnf) | (refine Rem.at (b.length - 20) 20 (by omega) rfl (by decide) ?_; conv => whnf) | fail)
  repeat (first | (refine RunK ?_; intro w hL hB; try clear w) | (refine V.treeA ttOk hL (.q 0 (.q 1 (.q 3 (.q 4 (.alt 2 (.alt 5 (.q 6 .nil) .stop) .stop))))) mixed (by decide +kernel) ?_; replace hL := hL.drew; conv => whnf) | (refine V.tailA ttOk mixed (by decide +kernel) ?_; replace hL := hL.drew; conv => whnf) | (refine Both.mk ?_ ?_ <;> conv => whnf) | fail)
  intro o6 n6 c6 p1 p2 p3 p4
  conv => whnf
  repeat (first | (refine RunH ?_; intro w hL hB; try clear w) | (refine Both.mk ?_ ?_ <;> conv => whnf) | fail)
  intro n7 c7 p5 p6
  conv => whnf
  repeat (first | (refine RunH ?_; intro w hL hB; try clear w) | (refine Both.mk ?_ ?_ <;> conv => whnf) | fail)
  refine (get32Rw ((hs.below hL.below).win (lo := 16) (n := b.length - 16) (by omega) p1 (by omega) (by omega)) (by omega) (by omega)).mono fun r w ⟨hr, hw⟩ => ?_
  subst hr
  replace hL := hL.call hB (Turns.of_below hw)
  replace hB := Nat.le_trans hB hw.size
  clear hrow
  conv => whnf
  repeat (first | (refine RunH ?_; intro w hL hB; try clear w) | (refine Both.mk ?_ ?_ <;> conv => whnf) | fail)
  have ht := (hs.below hL.below).take (k := 16) (by rw [bv_length]; omega) (c' := c7) (by omega) (by omega)
  obtain rfl : n7 = 16 := by omega
  rw [← bv_take, show b.take 16 = Go.Proofs.Ytlldgodjfpgbcaa.win b 0 16 from rfl] at ht
  refine (sumRw ht).mono fun r w ⟨hr, hw⟩ => ?_
  subst hr
  replace hL := hL.call hB (Turns.of_below hw)
  replace hB := Nat.le_trans hB hw.size
  by_cases hsum : ofB (Go.Proofs.Ytlldgodjfpgbcaa.win b 16 4) = crc (Go.Proofs.Ytlldgodjfpgbcaa.win b 0 16)
  case neg =>
    have he : errB b = 4 := by rw [errB, if_neg h20, if_neg (fun h => h hoh), if_pos hsum]
    conv => whnf
    repeat (first | (refine RunH ?_; intro w hL hB; try clear w) | (refine Both.mk ?_ ?_ <;> conv => whnf) | fail)
    exact ⟨by simp [readRPost, he, takeL, dropL], hL.below⟩
  conv => whnf
  repeat (first | (refine RunH ?_; intro w hL hB; try clear w) | (refine Both.mk ?_ ?_ <;> conv => whnf) | fail)
  generalize hn1 : ofB (Go.Proofs.Ytlldgodjfpgbcaa.win b 4 4) = n1 at *
  generalize hn2 : ofB (Go.Proofs.Ytlldgodjfpgbcaa.win b 8 4) = n2 at *
  generalize hn3 : ofB (Go.Proofs.Ytlldgodjfpgbcaa.win b 12 4) = n3 at *
  have l1 : n1 < 4294967296 := by rw [← hn1]; exact ofB4_lt b 4
  have l2 : n2 < 4294967296 := by rw [← hn2]; exact ofB4_lt b 8
  have l3 : n3 < 4294967296 := by rw [← hn3]; exact ofB4_lt b 12
  refine V.join (α := Nat) (fun z => [(0, .slice (some ⟨bb, o, none⟩) b.length c), (2, .pointer (some ⟨b2, 0, none⟩)), (4, .pointer (some ⟨z, 0, none⟩))])
    (fun z w' => w0.heap.size ≤ w'.heap.size ∧ Sep Try.prog w0.heap.size w0 w' [.blk z [.int .i64 (n1 : Int), .int .i64 (n2 : Int), .int .i64 (n3 : Int), .slice none 0 0] 70, .blk b2 [.int .i64 0, .int .i64 0, .int .i64 0, .slice none 0 0] 70]) ?_ ?_
  · repeat (first | (refine RunK ?_; intro w hL hB; try clear w) | (refine V.treeA ttOk hL (.q 0 (.q 1 (.q 4 (.q 5 (.q 8 (.q 9 (.alt 2 (.q 3 (.alt 6 (.q 7 (.alt 10 (.q 11 (.q 12 (.alt 13 (.alt 14 .nil .stop) .stop))) (.alt 13 (.alt 10 (.q 11 (.q 12 (.alt 14 .nil .stop))) .stop) .stop))) (.alt 13 (.alt 6 (.q 7 (.alt 10 (.q 11 (.q 12 (.alt 14 .nil .stop))) .stop)) .stop) .stop))) (.alt 13 (.alt 2 (.q 3 (.alt 6 (.q 7 (.alt 10 (.q 11 (.q 12 (.alt 14 .nil .stop))) .stop)) .stop)) .stop) .stop)))))))) mixed (by decide +kernel) ?_; replace hL := hL.drew; conv => whnf) | (refine V.tailA ttOk mixed (by decide +kernel) ?_; replace hL := hL.drew; conv => whnf) | (refine Both.mk ?_ ?_ <;> conv => whnf) | fail)
    intro u1 u2 u3 u4 u5 u6 u7
    conv => whnf
    repeat (first | (refine RunH ?_; intro w hL hB; try clear w) | (refine Both.mk ?_ ?_ <;> conv => whnf) | fail)
    intro v1 v2 v3 v4 v5 v6 v7
    conv => whnf
    repeat (first | (refine RunH ?_; intro w hL hB; try clear w) | (refine Both.mk ?_ ?_ <;> conv => whnf) | fail)
    intro y1 y2 y3 y4 y5 y6 y7
    conv => whnf
    repeat' (first | (refine RunH ?_; intro w hL hB; try clear w) | (refine Br.dec (fun hbr => ?_) (fun hbr => ?_) <;> conv => whnf) | (refine Br.mk (fun hbr => ?_) (fun hbr => ?_) <;> conv => whnf) | (refine Both.mk ?_ ?_ <;> conv => whnf) | (refine Nw.sep hL hB (fun b4 w hL hB hb4 => ?_); conv => whnf) | (refine (get32Rw ((hs.below hL.below).win (lo := 4) (n := b.length - 4) (by omega) u4 (by omega) (by omega)) (by omega) (by omega)).mono fun r w hr => ?_; obtain ⟨hr, hw⟩ := hr; rw [hn1] at hr; subst hr; replace hL := hL.call hB (Turns.of_below hw); replace hB := Nat.le_trans hB hw.size; conv => whnf) | (refine (get32Rw ((hs.below hL.below).win (lo := 8) (n := b.length - 8) (by omega) v4 (by omega) (by omega)) (by omega) (by omega)).mono fun r w hr => ?_; obtain ⟨hr, hw⟩ := hr; rw [hn2] at hr; subst hr; replace hL := hL.call hB (Turns.of_below hw); replace hB := Nat.le_trans hB hw.size; conv => whnf) | (refine (get32Rw ((hs.below hL.below).win (lo := 12) (n := b.length - 12) (by omega) y4 (by omega) (by omega)) (by omega) (by omega)).mono fun r w hr => ?_; obtain ⟨hr, hw⟩ := hr; rw [hn3] at hr; subst hr; replace hL := hL.call hB (Turns.of_below hw); replace hB := Nat.le_trans hB hw.size; conv => whnf) | fail)
    all_goals exact ⟨b4, ⟨rfl, rfl, rfl, trivial⟩, hB, hL⟩
  clear hL hB
  rintro b4 w ⟨hB, hL⟩
  have hnums : okNums b ↔ n1 ≤ 2147483647 ∧ n2 ≤ 2147483647 ∧ 1 ≤ n3 ∧ n3 ≤ 4194304 := by
    unfold okNums
    rw [hn1, hn2, hn3]
  by_cases hmay : okNums b
  case neg =>
    have he : errB b = 1 := by rw [errB, if_neg h20, if_neg (fun h => h hoh), if_neg (fun h => h hsum), if_pos hmay]
    rw [hnums] at hmay
    repeat' (first | (refine RunH ?_; intro w hL hB; try clear w) | (refine Br.dec (fun hbr => ?_) (fun hbr => ?_) <;> conv => whnf) | (refine Br.mk (fun hbr => ?_) (fun hbr => ?_) <;> conv => whnf) | (refine Both.mk ?_ ?_ <;> conv => whnf) | fail)
    all_goals first
      | (exfalso; omega)
      | exact ⟨by simp [readRPost, he, takeL, dropL], hL.below⟩
  have he : errB b = 0 := by rw [errB, if_neg h20, if_neg (fun h => h hoh), if_neg (fun h => h hsum), if_neg (fun h => h hmay)]
  rw [hnums] at hmay
  repeat (first | (refine RunH ?_; intro w hL hB; try clear w) | (refine Both.mk ?_ ?_ <;> conv => whnf) | fail)
  generalize hN : (b.length - 20) / 20 = N at *
  refine V.loop (α := Nat × Value × List (Value × List UInt8)) (fun z => [(0, .slice (some ⟨bb, o, none⟩) b.length c), (2, .pointer (some ⟨b2, 0, none⟩)), (4, .pointer (some ⟨b4, 0, none⟩)), (5, .int .i64 ((20 + 20 * z.1 : Nat) : Int))])
    (fun z w' => z.1 ≤ N ∧ z.2.2.map (·.2) = rowsB b z.1 ∧ w0.heap.size ≤ w'.heap.size ∧ Sep Try.prog w0.heap.size w0 w' (.row 22 1 z.2.1 z.1 (z.2.2.map (·.1)) :: .blk b4 [.int .i64 (n1 : Int), .int .i64 (n2 : Int), .int .i64 (n3 : Int), z.2.1] 70 :: .blk b2 [.int .i64 0, .int .i64 0, .int .i64 0, .slice none 0 0] 70 :: z.2.2.map rowRes))
    (fun z => N - z.1) (0, .slice none 0 0, []) ⟨rfl, rfl, rfl, rfl, trivial⟩ ⟨by omega, rfl, hB, hL.nilRow 22 1⟩ ?_
  clear hL hB
  rintro ⟨t, out, U⟩ w ⟨ht', hU, hB, hL⟩
  dsimp only at *
  have hUl : U.length = t := by
    have := congrArg List.length hU
    simpa [rowsB] using this
  obtain ⟨oa, oc, rfl⟩ : ∃ oa oc, out = .slice oa t oc := by
    obtain ⟨oa, oc, h⟩ := (hL.row (i := 0) rfl).shape
    exact ⟨oa, oc, by rw [h]; simp [hUl]⟩
  repeat (first | (refine RunH ?_; intro w hL hB; try clear w) | (refine Both.mk ?_ ?_ <;> conv => whnf) | fail)
  refine Br.dec (fun hlt => ?_) (fun hlt => ?_)
  · have htN : t < N := by omega
    repeat (first | (refine RunH ?_; intro w hL hB; try clear w) | (refine Both.mk ?_ ?_ <;> conv => whnf) | fail)
    refine Rv.buildS (len := 0) (vs := []) ttOk hL tl22 tl5 rfl rfl (by intro u hu; cases hu) (by decide) (by decide) hB fun bo w hL hB => ?_
    conv => whnf
    repeat (first | (refine RunH ?_; intro w hL hB; try clear w) | (refine Both.mk ?_ ?_ <;> conv => whnf) | fail)
    intro o8 n8 c8 p11 p12 p13 p14
    conv => whnf
    obtain rfl : n8 = 16 := by omega
    have hch : Sl w (.slice (some ⟨bb, o8, none⟩) 16 c8) (bv (Go.Proofs.Ytlldgodjfpgbcaa.win b (20 * t + 20) 16)) := (hs.below hL.below).win (by omega) (fun h => by have := p11 (by omega); omega) (by omega) (by omega)
    have hwl := win_len (b := b) (a := 20 * t + 20) (n := 16) (by omega)
    refine Rv.appendS ttOk hL tl22 tl5 rfl (by decide) 0 rfl (Sl.toN hch) (bv_one _) (by rw [bv_length, hwl]; simp only [maxLen]; omega) (by rw [bv_length, hwl]; omega) hB fun v6 w hL hB => ?_
    dsimp only [List.set] at hL
    rw [show List.flatMap cellsL [] ++ bv (Go.Proofs.Ytlldgodjfpgbcaa.win b (20 * t + 20) 16) = bv (Go.Proofs.Ytlldgodjfpgbcaa.win b (20 * t + 20) 16) from rfl, bv_length, hwl, Nat.zero_add] at hL
    conv => whnf
    repeat (first | (refine RunH ?_; intro w hL hB; try clear w) | (refine Both.mk ?_ ?_ <;> conv => whnf) | fail)
    intro o9 n9 c9 p21 p22 p23 p24
    conv => whnf
    repeat (first | (refine RunH ?_; intro w hL hB; try clear w) | (refine Both.mk ?_ ?_ <;> conv => whnf) | fail)
    refine (get32Rw ((hs.below hL.below).win (lo := 20 * t + 36) (n := b.length - (20 * t + 36)) (by omega) (fun h => by have := p21 (by omega); omega) (by omega) (by omega)) (by omega) (by omega)).mono fun r2 w ⟨hr, hw⟩ => ?_
    subst hr
    replace hL := hL.call hB (Turns.of_below hw)
    replace hB := Nat.le_trans hB hw.size
    conv => whnf
    repeat (first | (refine RunH ?_; intro w hL hB; try clear w) | (refine Both.mk ?_ ?_ <;> conv => whnf) | fail)
    refine (sumRw (hL.row (i := 0) rfl)).mono fun r2 w ⟨hr, hw⟩ => ?_
    subst hr
    replace hL := hL.call hB (Turns.of_below hw)
    replace hB := Nat.le_trans hB hw.size
    obtain ⟨ra, rc, hv6⟩ := (hL.row (i := 0) rfl).shape
    rw [bv_length, hwl] at hv6
    subst hv6
    have hrB : rowsB b (t + 1) = rowsB b t ++ [rowAt b t] := by simp [rowsB, List.range_succ]
    by_cases hrow : ofB (Go.Proofs.Ytlldgodjfpgbcaa.win b (20 * t + 36) 4) = crc (Go.Proofs.Ytlldgodjfpgbcaa.win b (20 * t + 20) 16)
    · have hrow' : rowAt b t = Go.Proofs.Ytlldgodjfpgbcaa.win b (20 * t + 20) 16 := by rw [rowAt, if_pos hrow]
      conv => whnf
      repeat (first | (refine RunH ?_; intro w hL hB; try clear w) | (refine Both.mk ?_ ?_ <;> conv => whnf) | fail)
      refine Rv.buildS (len := 1) ttOk hL tl25 tl22 rfl rfl (by intro u hu; simp only [List.mem_singleton] at hu; subst hu; rfl) (by decide) (by decide) hB fun bo w hL hB => ?_
      conv => whnf
      refine Rv.appendS ttOk hL tl25 tl22 rfl (by decide) 2 rfl (hL.rowN (i := 0) rfl) (allOne_mem rfl) (by simp only [maxLen]; omega) (by omega) hB fun vo w hL hB => ?_
      dsimp only [List.set] at hL
      obtain ⟨voa, vocap, rfl⟩ := own_shape1 (show World.ownsRow _ 0 22 1 vo (t + 1) _ from hL.at (i := 2) rfl)
      conv => whnf
      repeat (first | (refine RunH ?_; intro w hL hB; try clear w) | (refine Both.mk ?_ ?_ <;> conv => whnf) | fail)
      replace hL := hL.tl.perm (shuffle2 _ _ _ _ _)
      refine ⟨(t + 1, .slice voa (t + 1) vocap, U ++ [(.slice ra 16 rc, Go.Proofs.Ytlldgodjfpgbcaa.win b (20 * t + 20) 16)]), ⟨rfl, rfl, rfl, vint (by push_cast; omega), trivial⟩, ⟨htN, by rw [List.map_append, hU, hrB, hrow']; rfl, hB, ?_⟩, (by first | omega | (dsimp only; omega))⟩
      simpa [rowRes, cellsL, hwl] using hL
    · have hrow' : rowAt b t = [] := by rw [rowAt, if_neg hrow]
      conv => whnf
      repeat (first | (refine RunH ?_; intro w hL hB; try clear w) | (refine Both.mk ?_ ?_ <;> conv => whnf) | fail)
      replace hL := hL.tl.nilRow 5 1
      refine Rv.buildS (len := 1) ttOk hL tl25 tl22 rfl rfl (by intro u hu; simp only [List.mem_singleton] at hu; subst hu; rfl) (by decide) (by decide) hB fun bo w hL hB => ?_
      conv => whnf
      refine Rv.appendS ttOk hL tl25 tl22 rfl (by decide) 2 rfl (hL.rowN (i := 0) rfl) (allOne_mem rfl) (by simp only [maxLen]; omega) (by omega) hB fun vo w hL hB => ?_
      dsimp only [List.set] at hL
      obtain ⟨voa, vocap, rfl⟩ := own_shape1 (show World.ownsRow _ 0 22 1 vo (t + 1) _ from hL.at (i := 2) rfl)
      conv => whnf
      repeat (first | (refine RunH ?_; intro w hL hB; try clear w) | (refine Both.mk ?_ ?_ <;> conv => whnf) | fail)
      replace hL := hL.tl.perm (shuffle2 _ _ _ _ _)
      refine ⟨(t + 1, .slice voa (t + 1) vocap, U ++ [(.slice none 0 0, [])]), ⟨rfl, rfl, rfl, vint (by push_cast; omega), trivial⟩, ⟨htN, by rw [List.map_append, hU, hrB, hrow']; rfl, hB, ?_⟩, (by first | omega | (dsimp only; omega))⟩
      simpa [rowRes, cellsL, hwl] using hL
  · obtain rfl : t = N := by omega
    repeat (first | (refine RunH ?_; intro w hL hB; try clear w) | (refine Both.mk ?_ ?_ <;> conv => whnf) | fail)
    refine ⟨?_, hL.below⟩
    simp only [readRPost, he, if_true, hn1, hn2, hn3, hN]
    exact ⟨_, rfl, Sep.ss' (L := [_, _]) hL hU⟩
end Go.Proofs.Ytlldgodjfpgbcaa
