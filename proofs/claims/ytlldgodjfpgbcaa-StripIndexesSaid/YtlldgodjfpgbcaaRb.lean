/- strip.Read: the walk. Nothing is claimed here. -/
import Derived.Test.YtlldgodjfpgbcaaR
namespace Go.Proofs.Ytlldgodjfpgbcaa
open Go.RowKit
set_option linter.unusedVariables false
set_option linter.unusedSimpArgs false
set_option maxRecDepth 100000

theorem Sl.win {w : World} {bb o c : Nat} {l : List UInt8} (h : Sl w (.slice (some ⟨bb, o, none⟩) l.length c) (bv l)) {lo n : Nat} (hk : lo + n ≤ l.length) {o' n' c' : Nat} (ho : (lo : Int) < c → (o' : Int) = o + lo * (1 : Nat)) (hn : (n' : Int) = n) (hc : (c' : Int) = (c : Int) - lo) :
    Sl w (.slice (some ⟨bb, o', none⟩) n' c') (bv (win l lo n)) := by
  obtain ⟨q1, q2, q3⟩ := h.len
  have h1 := h.drop (k := lo) (by rw [bv_length]; omega) (o' := o') (n' := l.length - lo) (c' := c') (fun h => by have := ho (by omega); omega) rfl (by omega)
  have h2 := h1.take (k := n) (by simp; omega) (c' := c') (by omega) (Nat.le_refl _)
  obtain rfl : n' = n := by omega
  rw [Go.Proofs.Ytlldgodjfpgbcaa.win, bv_take, bv_drop]
  exact h2
theorem win_take {b : List UInt8} {a n k : Nat} (h : k ≤ n) : (Go.Proofs.Ytlldgodjfpgbcaa.win b a n).take k = Go.Proofs.Ytlldgodjfpgbcaa.win b a k := by
  rw [Go.Proofs.Ytlldgodjfpgbcaa.win, List.take_take, Nat.min_eq_left h]; rfl
theorem get32w {w : World} {v : Value} {b : List UInt8} {lo n : Nat} (h : Sl w v (bv (Go.Proofs.Ytlldgodjfpgbcaa.win b lo n))) (hk : lo + n ≤ b.length) (h4 : 4 ≤ n) : Fn Try.prog 43 #[v] w fun r w' => r = .tuple #[.int .u32 (ofB (Go.Proofs.Ytlldgodjfpgbcaa.win b lo 4) : Int), .int .i64 0] ∧ w' = w :=
  (get32_fn v _ w h).mono fun r w' ⟨hw, hr⟩ => by
    subst hw
    rw [if_neg (by rw [win_len hk]; omega), win_take h4] at hr
    exact ⟨hr, rfl⟩
theorem sumw {w : World} {v : Value} {l : List UInt8} (h : Sl w v (bv l)) : Fn Try.prog 37 #[v] w fun r w' => r = .int .u32 (crc l : Int) ∧ Below w.heap.size w w' := sum_fn v l w h
theorem ofB4_lt (b : List UInt8) (a : Nat) : ofB (Go.Proofs.Ytlldgodjfpgbcaa.win b a 4) < 4294967296 := by
  have h := ofB_lt (Go.Proofs.Ytlldgodjfpgbcaa.win b a 4)
  have h1 : (Go.Proofs.Ytlldgodjfpgbcaa.win b a 4).length ≤ 4 := by simp [Go.Proofs.Ytlldgodjfpgbcaa.win]; omega
  exact Nat.lt_of_lt_of_le h (Nat.pow_le_pow_right (by decide) h1)
theorem shuffle1 {α : Type} (r a b : α) (l : List α) : (r :: a :: b :: l).Perm (a :: b :: (l ++ [r])) := by
  refine List.Perm.symm (((List.perm_append_comm.cons b).cons a).trans ?_)
  exact List.perm_append_comm_assoc [a, b] [r] l
def rowRes (p : Value × List UInt8) : Res := .row 5 1 p.1 p.2.length (bv p.2)
theorem Sep.ss {P : Program} {B : Nat} {w0 w : World} {L : List Res} {t : TypeId} {v : Value} {U : List (Value × List UInt8)} {n : Nat} (h : Sep P B w0 w (.row t 1 v n (U.map (·.1)) :: L ++ U.map rowRes)) : SS w v (U.map (·.2)) := by
  refine ⟨U.map (·.1), h.row (i := 0) rfl, by simp, fun i u l h1 h2 => ?_⟩
  simp only [List.getElem?_map, Option.map_eq_some_iff] at h1 h2
  obtain ⟨p, hp, rfl⟩ := h1
  obtain ⟨p', hp', rfl⟩ := h2
  rw [hp] at hp'
  injection hp' with hp'
  subst hp'
  refine h.row (i := L.length + 1 + i) (e := 5) (n := p.2.length) ?_
  rw [List.cons_append, show L.length + 1 + i = (L.length + i) + 1 from by omega, List.getElem?_cons_succ, List.getElem?_append_right (by omega)]
  simp [hp, rowRes]
theorem Sep.ss' {P : Program} {B : Nat} {w0 w : World} {L : List Res} {t : TypeId} {v : Value} {U : List (Value × List UInt8)} {n : Nat} {ls : List (List UInt8)} (h : Sep P B w0 w (.row t 1 v n (U.map (·.1)) :: L ++ U.map rowRes)) (hU : U.map (·.2) = ls) : SS w v ls := hU ▸ h.ss
def readPost (b : List UInt8) (r : Value) (w' : World) : Prop := if errB b = 0 then ∃ rv, r = .tuple #[.int .i64 (ofB (win b 4 4) : Int), .int .i64 (ofB (win b 8 4) : Int), .int .i64 (ofB (win b 12 4) : Int), rv, .int .i64 0] ∧ SS w' rv (rowsB b ((b.length - 20) / 20)) else
  r = .tuple #[.int .i64 0, .int .i64 0, .int .i64 0, .slice none 0 0, .int .i64 (errB b : Int)]

set_option maxHeartbeats 8000000 in
theorem read_fn (v : Value) (b : List UInt8) (w0 : World) (hs : Sl w0 v (bv b)) (hlen : b.length ≤ 1000000) : Fn Try.prog 21 #[v] w0 fun r w' => readPost b r w' ∧ Below w0.heap.size w0 w' := by
  obtain ⟨a, c, rfl⟩ := hs.shape
  simp only [bv_length] at *
  have hL := Sep.start Try.prog w0
  have hB := Nat.le_refl w0.heap.size
  refine Fn.mk Try.func21 rfl (by kernel_rfl) Try.ntmps21 rfl (by rw [Try.results21]) ?_
  by_cases h20 : b.length < 20
  · have he : errB b = 2 := by rw [errB, if_pos h20]
    repeat (first | (refine RunH ?_; intro w hL hB; try clear w) | (refine Both.mk ?_ ?_ <;> conv => whnf) | (refine (fail_fn 2 _).mono fun r w1 hr => ?_; obtain ⟨hr, hw⟩ := hr; subst hr; subst hw; conv => whnf) | fail)
    exact ⟨by simp [readPost, he], hL.below⟩
  obtain ⟨bb, o, rfl, hr⟩ := hs.addr (by omega)
  obtain ⟨q1, q2, q3⟩ := hs.len
  rw [bv_length] at q1
  repeat (first | (refine RunH ?_; intro w hL hB; try clear w) | (refine Both.mk ?_ ?_ <;> conv => whnf) | fail)
  refine (mark_fn _).mono fun r w ⟨ho, hw⟩ => ?_
  replace hL := hL.addRow hB hw ho
  replace hB := Nat.le_trans hB hw.size
  conv => whnf
  repeat (first | (refine RunH ?_; intro w hL hB; try clear w) | (refine Both.mk ?_ ?_ <;> conv => whnf) | fail)
  refine (hasPrefix_fn _ r b markB _ (hs.below hL.below) (hL.row (i := 0) rfl)).mono fun r w1 ⟨hr, hw⟩ => ?_
  subst hr; subst hw
  replace hL := hL.tl
  have hbad : ¬ okHead b → errB b = 3 := fun h => by rw [errB, if_neg h20, if_pos h]
  by_cases hm : b.take markB.length = markB
  case neg =>
    have he := hbad fun h => hm h.1
    rw [decide_eq_false hm]
    conv => whnf
    repeat (first | (refine RunH ?_; intro w hL hB; try clear w) | (refine Both.mk ?_ ?_ <;> conv => whnf) | (refine (fail_fn 3 _).mono fun r w1 hr => ?_; obtain ⟨hr, hw⟩ := hr; subst hr; subst hw; conv => whnf) | fail)
    exact ⟨by simp [readPost, he], hL.below⟩
  rw [decide_eq_true hm]
  by_cases h21 : b.length = 20
  · have he := hbad fun h => h.2.1 h21
    conv => whnf
    repeat (first | (refine RunH ?_; intro w hL hB; try clear w) | (refine Both.mk ?_ ?_ <;> conv => whnf) | (refine (fail_fn 3 _).mono fun r w1 hr => ?_; obtain ⟨hr, hw⟩ := hr; subst hr; subst hw; conv => whnf) | fail)
    exact ⟨by simp [readPost, he], hL.below⟩
  by_cases hmod : (b.length - 20) % 20 = 0
  case neg =>
    have he := hbad fun h => hmod h.2.2
    conv => whnf
    repeat (first | (refine RunH ?_; intro w hL hB; try clear w) | (refine Both.mk ?_ ?_ <;> conv => whnf) | fail)
    refine Rem.at (b.length - 20) 20 (by omega) rfl (by decide) ?_
    conv => whnf
    repeat (first | (refine RunH ?_; intro w hL hB; try clear w) | (refine Both.mk ?_ ?_ <;> conv => whnf) | (refine (fail_fn 3 _).mono fun r w1 hr => ?_; obtain ⟨hr, hw⟩ := hr; subst hr; subst hw; conv => whnf) | fail)
    exact ⟨by simp [readPost, he], hL.below⟩
  have hoh : okHead b := ⟨hm, h21, hmod⟩
  conv => whnf
  repeat (first | (refine RunH ?_; intro w hL hB; try clear w) | (refine Both.mk ?_ ?_ <;> conv => whnf) | fail)
  refine Rem.at (b.length - 20) 20 (by omega) rfl (by decide) ?_
  conv => whnf
  repeat (first | (refine RunH ?_; intro w hL hB; try clear w) | (refine Both.mk ?_ ?_ <;> conv => whnf) | fail)
  intro o6 n6 c6 p1 p2 p3 p4
  conv => whnf
  repeat (first | (refine RunH ?_; intro w hL hB; try clear w) | (refine Both.mk ?_ ?_ <;> conv => whnf) | fail)
  refine (get32w ((hs.below hL.below).win (lo := 16) (n := b.length - 16) (by omega) p1 (by omega) (by omega)) (by omega) (by omega)).mono fun r w2 ⟨hr, hw⟩ => ?_
  subst hr; subst hw
  conv => whnf
  repeat (first | (refine RunH ?_; intro w hL hB; try clear w) | (refine Both.mk ?_ ?_ <;> conv => whnf) | fail)
  intro n7 c7 p5 p6
  conv => whnf
  repeat (first | (refine RunH ?_; intro w hL hB; try clear w) | (refine Both.mk ?_ ?_ <;> conv => whnf) | fail)
  have ht := (hs.below hL.below).take (k := 16) (by rw [bv_length]; omega) (c' := c7) (by omega) (by omega)
  obtain rfl : n7 = 16 := by omega
  rw [← bv_take, show b.take 16 = Go.Proofs.Ytlldgodjfpgbcaa.win b 0 16 from rfl] at ht
  refine (sumw ht).mono fun r w ⟨hr, hw⟩ => ?_
  subst hr
  replace hL := hL.call hB (Turns.of_below hw)
  replace hB := Nat.le_trans hB hw.size
  by_cases hsum : ofB (Go.Proofs.Ytlldgodjfpgbcaa.win b 16 4) = crc (Go.Proofs.Ytlldgodjfpgbcaa.win b 0 16)
  case neg =>
    have he : errB b = 4 := by rw [errB, if_neg h20, if_neg (fun h => h hoh), if_pos hsum]
    conv => whnf
    repeat (first | (refine RunH ?_; intro w hL hB; try clear w) | (refine Both.mk ?_ ?_ <;> conv => whnf) | (refine (fail_fn 4 _).mono fun r w1 hr => ?_; obtain ⟨hr, hw⟩ := hr; subst hr; subst hw; conv => whnf) | fail)
    exact ⟨by simp [readPost, he], hL.below⟩
  conv => whnf
  repeat (first | (refine RunH ?_; intro w hL hB; try clear w) | (refine Both.mk ?_ ?_ <;> conv => whnf) | fail)
  (refine Nw.sep hL hB (fun b10 w hL hB hb10 => ?_); conv => whnf)
  have l1 := ofB4_lt b 4
  have l2 := ofB4_lt b 8
  have l3 := ofB4_lt b 12
  repeat (first | (refine RunH ?_; intro w hL hB; try clear w) | (refine Both.mk ?_ ?_ <;> conv => whnf) | fail)
  refine V.loop (α := Nat) (fun k => [(0, .slice (some ⟨bb, o, none⟩) b.length c), (5, .slice none 0 0), (7, .func (.func 41) #[] #[]), (10, .pointer (some ⟨b10, 0, none⟩)), (71, .int .i64 k)])
    (fun k w' => k ≤ 3 ∧ w0.heap.size ≤ w'.heap.size ∧ Sep Try.prog w0.heap.size w0 w' [.blk b10 [.int .i64 (if 0 < k then (ofB (Go.Proofs.Ytlldgodjfpgbcaa.win b 4 4) : Int) else 0), .int .i64 (if 1 < k then (ofB (Go.Proofs.Ytlldgodjfpgbcaa.win b 8 4) : Int) else 0), .int .i64 (if 2 < k then (ofB (Go.Proofs.Ytlldgodjfpgbcaa.win b 12 4) : Int) else 0)] 66])
    (fun k => 3 - k) 0 ⟨rfl, rfl, rfl, rfl, rfl, trivial⟩ ⟨by omega, hB, hL⟩ ?_
  clear hL hB
  rintro k w ⟨hk, hB, hL⟩
  dsimp only at *
  rcases (by omega : k = 0 ∨ k = 1 ∨ k = 2 ∨ k = 3) with rfl | rfl | rfl | rfl
  · repeat (first | (refine RunH ?_; intro w hL hB; try clear w) | (refine Both.mk ?_ ?_ <;> conv => whnf) | fail)
    intro o8 n8 c8 p11 p12 p13 p14
    conv => whnf
    repeat (first | (refine RunH ?_; intro w hL hB; try clear w) | (refine Both.mk ?_ ?_ <;> conv => whnf) | fail)
    refine (get32w ((hs.below hL.below).win (lo := 4) (n := b.length - 4) (by omega) (fun h => by have := p11 (by omega); omega) (by omega) (by omega)) (by omega) (by omega)).mono fun r w2 ⟨hr, hw⟩ => ?_
    subst hr; subst hw
    conv => whnf
    repeat (first | (refine RunH ?_; intro w hL hB; try clear w) | (refine Both.mk ?_ ?_ <;> conv => whnf) | fail)
    intro o9 ho9
    obtain rfl : o9 = 0 := by omega
    conv => whnf
    repeat (first | (refine RunH ?_; intro w hL hB; try clear w) | (refine Both.mk ?_ ?_ <;> conv => whnf) | fail)
    exact ⟨1, ⟨rfl, rfl, rfl, rfl, rfl, trivial⟩, ⟨by omega, hB, hL⟩, (by first | omega | (dsimp only; omega))⟩
  · repeat (first | (refine RunH ?_; intro w hL hB; try clear w) | (refine Both.mk ?_ ?_ <;> conv => whnf) | fail)
    intro o8 n8 c8 p11 p12 p13 p14
    conv => whnf
    repeat (first | (refine RunH ?_; intro w hL hB; try clear w) | (refine Both.mk ?_ ?_ <;> conv => whnf) | fail)
    refine (get32w ((hs.below hL.below).win (lo := 8) (n := b.length - 8) (by omega) (fun h => by have := p11 (by omega); omega) (by omega) (by omega)) (by omega) (by omega)).mono fun r w2 ⟨hr, hw⟩ => ?_
    subst hr; subst hw
    conv => whnf
    repeat (first | (refine RunH ?_; intro w hL hB; try clear w) | (refine Both.mk ?_ ?_ <;> conv => whnf) | fail)
    intro o9 ho9
    obtain rfl : o9 = 1 := by omega
    conv => whnf
    repeat (first | (refine RunH ?_; intro w hL hB; try clear w) | (refine Both.mk ?_ ?_ <;> conv => whnf) | fail)
    exact ⟨2, ⟨rfl, rfl, rfl, rfl, rfl, trivial⟩, ⟨by omega, hB, hL⟩, (by first | omega | (dsimp only; omega))⟩
  · repeat (first | (refine RunH ?_; intro w hL hB; try clear w) | (refine Both.mk ?_ ?_ <;> conv => whnf) | fail)
    intro o8 n8 c8 p11 p12 p13 p14
    conv => whnf
    repeat (first | (refine RunH ?_; intro w hL hB; try clear w) | (refine Both.mk ?_ ?_ <;> conv => whnf) | fail)
    refine (get32w ((hs.below hL.below).win (lo := 12) (n := b.length - 12) (by omega) (fun h => by have := p11 (by omega); omega) (by omega) (by omega)) (by omega) (by omega)).mono fun r w2 ⟨hr, hw⟩ => ?_
    subst hr; subst hw
    conv => whnf
    repeat (first | (refine RunH ?_; intro w hL hB; try clear w) | (refine Both.mk ?_ ?_ <;> conv => whnf) | fail)
    intro o9 ho9
    obtain rfl : o9 = 2 := by omega
    conv => whnf
    repeat (first | (refine RunH ?_; intro w hL hB; try clear w) | (refine Both.mk ?_ ?_ <;> conv => whnf) | fail)
    exact ⟨3, ⟨rfl, rfl, rfl, rfl, rfl, trivial⟩, ⟨by omega, hB, hL⟩, (by first | omega | (dsimp only; omega))⟩
  replace hL : Sep Try.prog w0.heap.size w0 w [.blk b10 [.int .i64 (ofB (Go.Proofs.Ytlldgodjfpgbcaa.win b 4 4) : Int), .int .i64 (ofB (Go.Proofs.Ytlldgodjfpgbcaa.win b 8 4) : Int), .int .i64 (ofB (Go.Proofs.Ytlldgodjfpgbcaa.win b 12 4) : Int)] 66] := hL
  generalize hn1 : ofB (Go.Proofs.Ytlldgodjfpgbcaa.win b 4 4) = n1 at *
  generalize hn2 : ofB (Go.Proofs.Ytlldgodjfpgbcaa.win b 8 4) = n2 at *
  generalize hn3 : ofB (Go.Proofs.Ytlldgodjfpgbcaa.win b 12 4) = n3 at *
  repeat (first | (refine RunH ?_; intro w hL hB; try clear w) | (refine Both.mk ?_ ?_ <;> conv => whnf) | (intro o9 ho9; refine (fun (hq : o9 = 0) => ?_) (by omega); subst hq; conv => whnf) | (intro o9 ho9; refine (fun (hq : o9 = 1) => ?_) (by omega); subst hq; conv => whnf) | (intro o9 ho9; refine (fun (hq : o9 = 2) => ?_) (by omega); subst hq; conv => whnf) | fail)
  refine (may_fn n1 n2 n3 _).mono fun r w2 ⟨hr, hw⟩ => ?_
  subst hr; subst hw
  have hokn : okNums b ↔ ((0 ≤ (n1 : Int) ∧ (n1 : Int) ≤ 2147483647) ∧ (0 ≤ (n2 : Int) ∧ (n2 : Int) ≤ 2147483647) ∧ 1 ≤ (n3 : Int) ∧ (n3 : Int) ≤ 4194304) := by
    unfold okNums
    rw [hn1, hn2, hn3]
    omega
  by_cases hmay : okNums b
  case neg =>
    have he : errB b = 1 := by rw [errB, if_neg h20, if_neg (fun h => h hoh), if_neg (fun h => h hsum), if_pos hmay]
    rw [decide_eq_false (fun h => hmay (hokn.2 h))]
    conv => whnf
    repeat (first | (refine RunH ?_; intro w hL hB; try clear w) | (refine Both.mk ?_ ?_ <;> conv => whnf) | (refine (fail_fn 1 _).mono fun r w1 hr => ?_; obtain ⟨hr, hw⟩ := hr; subst hr; subst hw; conv => whnf) | fail)
    exact ⟨by simp [readPost, he], hL.below⟩
  have he : errB b = 0 := by rw [errB, if_neg h20, if_neg (fun h => h hoh), if_neg (fun h => h hsum), if_neg (fun h => h hmay)]
  rw [decide_eq_true (hokn.1 hmay)]
  conv => whnf
  repeat (first | (refine RunH ?_; intro w hL hB; try clear w) | (refine Both.mk ?_ ?_ <;> conv => whnf) | fail)
  generalize hN : (b.length - 20) / 20 = N at *
  refine V.loop (α := Nat × Value × List (Value × List UInt8)) (fun z => [(0, .slice (some ⟨bb, o, none⟩) b.length c), (5, z.2.1), (10, .pointer (some ⟨b10, 0, none⟩)), (14, .int .i64 ((20 + 20 * z.1 : Nat) : Int))])
    (fun z w' => z.1 ≤ N ∧ z.2.2.map (·.2) = rowsB b z.1 ∧ w0.heap.size ≤ w'.heap.size ∧ Sep Try.prog w0.heap.size w0 w' (.row 22 1 z.2.1 z.1 (z.2.2.map (·.1)) :: .blk b10 [.int .i64 (n1 : Int), .int .i64 (n2 : Int), .int .i64 (n3 : Int)] 66 :: z.2.2.map rowRes))
    (fun z => N - z.1) (0, .slice none 0 0, []) ⟨rfl, rfl, rfl, rfl, trivial⟩ ⟨by omega, rfl, hB, hL.nilRow 22 1⟩ ?_
  clear hL hB
  rintro ⟨t, out, U⟩ w ⟨ht', hU, hB, hL⟩
  dsimp only at *
  have hUl : U.length = t := by
    have := congrArg List.length hU
    simpa [rowsB] using this
  repeat (first | (refine RunH ?_; intro w hL hB; try clear w) | (refine Both.mk ?_ ?_ <;> conv => whnf) | fail)
  refine Br.dec (fun hlt => ?_) (fun hlt => ?_)
  · have htN : t < N := by omega
    repeat (first | (refine RunH ?_; intro w hL hB; try clear w) | (refine Both.mk ?_ ?_ <;> conv => whnf) | fail)
    intro o8 n8 c8 p11 p12 p13 p14
    conv => whnf
    repeat (first | (refine RunH ?_; intro w hL hB; try clear w) | (refine Both.mk ?_ ?_ <;> conv => whnf) | fail)
    obtain rfl : n8 = 16 := by omega
    have hch : Sl w (.slice (some ⟨bb, o8, none⟩) 16 c8) (bv (Go.Proofs.Ytlldgodjfpgbcaa.win b (20 * t + 20) 16)) := (hs.below hL.below).win (by omega) (fun h => by have := p11 (by omega); omega) (by omega) (by omega)
    have hwl := win_len (b := b) (a := 20 * t + 20) (n := 16) (by omega)
    refine (clone_fn _ _ _ hch (by omega)).mono fun r w ⟨ho, hw⟩ => ?_
    rw [hwl] at ho
    replace hL := hL.addRow hB hw ho
    replace hB := Nat.le_trans hB hw.size
    clear ho hw hch
    conv => whnf
    repeat (first | (refine RunH ?_; intro w hL hB; try clear w) | (refine Both.mk ?_ ?_ <;> conv => whnf) | fail)
    intro o9 n9 c9 p21 p22 p23 p24
    conv => whnf
    repeat (first | (refine RunH ?_; intro w hL hB; try clear w) | (refine Both.mk ?_ ?_ <;> conv => whnf) | fail)
    refine (get32w ((hs.below hL.below).win (lo := 20 * t + 36) (n := b.length - (20 * t + 36)) (by omega) (fun h => by have := p21 (by omega); omega) (by omega) (by omega)) (by omega) (by omega)).mono fun r2 w2 ⟨hr, hw⟩ => ?_
    subst hr; subst hw
    conv => whnf
    repeat (first | (refine RunH ?_; intro w hL hB; try clear w) | (refine Both.mk ?_ ?_ <;> conv => whnf) | fail)
    refine (sumw (hL.row (i := 0) rfl)).mono fun r2 w ⟨hr, hw⟩ => ?_
    subst hr
    replace hL := hL.call hB (Turns.of_below hw)
    replace hB := Nat.le_trans hB hw.size
    obtain ⟨ra, rc, rfl⟩ := (hL.row (i := 0) rfl).shape
    rw [bv_length, hwl] at hL ⊢
    have hrB : rowsB b (t + 1) = rowsB b t ++ [rowAt b t] := by simp [rowsB, List.range_succ]
    by_cases hrow : ofB (Go.Proofs.Ytlldgodjfpgbcaa.win b (20 * t + 36) 4) = crc (Go.Proofs.Ytlldgodjfpgbcaa.win b (20 * t + 20) 16)
    · have hrow' : rowAt b t = Go.Proofs.Ytlldgodjfpgbcaa.win b (20 * t + 20) 16 := by rw [rowAt, if_pos hrow]
      conv => whnf
      repeat (first | (refine RunH ?_; intro w hL hB; try clear w) | (refine Both.mk ?_ ?_ <;> conv => whnf) | fail)
      refine Rv.buildS (len := 1) ttOk hL tl25 tl22 rfl rfl (by intro u hu; simp only [List.mem_singleton] at hu; subst hu; rfl) (by decide) (by decide) hB fun bo w hL hB => ?_
      conv => whnf
      refine Rv.appendS ttOk hL tl25 tl22 rfl (by decide) 2 rfl (hL.rowN (i := 0) rfl) (allOne_mem rfl) (by simp only [maxLen]; omega) (by omega) hB fun vo w hL hB => ?_
      dsimp only [List.set] at hL
      replace hL := hL.tl.perm (shuffle1 _ _ _ _)
      conv => whnf
      repeat (first | (refine RunH ?_; intro w hL hB; try clear w) | (refine Both.mk ?_ ?_ <;> conv => whnf) | fail)
      refine ⟨(t + 1, vo, U ++ [(.slice ra 16 rc, Go.Proofs.Ytlldgodjfpgbcaa.win b (20 * t + 20) 16)]), ⟨rfl, rfl, rfl, vint (by push_cast; omega), trivial⟩, ⟨htN, by rw [List.map_append, hU, hrB, hrow']; rfl, hB, ?_⟩, (by first | omega | (dsimp only; omega))⟩
      simpa [rowRes, cellsL, hwl] using hL
    · have hrow' : rowAt b t = [] := by rw [rowAt, if_neg hrow]
      conv => whnf
      repeat (first | (refine RunH ?_; intro w hL hB; try clear w) | (refine Both.mk ?_ ?_ <;> conv => whnf) | fail)
      replace hL := hL.tl.nilRow 5 1
      refine Rv.buildS (len := 1) ttOk hL tl25 tl22 rfl rfl (by intro u hu; simp only [List.mem_singleton] at hu; subst hu; rfl) (by decide) (by decide) hB fun bo w hL hB => ?_
      conv => whnf
      refine Rv.appendS ttOk hL tl25 tl22 rfl (by decide) 2 rfl (hL.rowN (i := 0) rfl) (allOne_mem rfl) (by simp only [maxLen]; omega) (by omega) hB fun vo w hL hB => ?_
      dsimp only [List.set] at hL
      replace hL := hL.tl.perm (shuffle1 _ _ _ _)
      conv => whnf
      repeat (first | (refine RunH ?_; intro w hL hB; try clear w) | (refine Both.mk ?_ ?_ <;> conv => whnf) | fail)
      refine ⟨(t + 1, vo, U ++ [(.slice none 0 0, [])]), ⟨rfl, rfl, rfl, vint (by push_cast; omega), trivial⟩, ⟨htN, by rw [List.map_append, hU, hrB, hrow']; rfl, hB, ?_⟩, (by first | omega | (dsimp only; omega))⟩
      simpa [rowRes, cellsL, hwl] using hL
  · obtain rfl : t = N := by omega
    repeat (first | (refine RunK ?_; intro w hL hB; try clear w) | (refine V.treeA ttOk hL (.q 0 (.q 1 (.q 2 (.q 3 (.q 4 (.q 5 (.q 6 (.q 7 (.q 8 (.q 9 (.q 10 (.q 11 .nil)))))))))))) mixed (by decide +kernel) ?_; replace hL := hL.drew; conv => whnf) | (refine V.tailA ttOk mixed (by decide +kernel) ?_; replace hL := hL.drew; conv => whnf) | (refine Both.mk ?_ ?_ <;> conv => whnf) | (intro o9 ho9; refine (fun (hq : o9 = 0) => ?_) (by omega); subst hq; conv => whnf) | (intro o9 ho9; refine (fun (hq : o9 = 1) => ?_) (by omega); subst hq; conv => whnf) | (intro o9 ho9; refine (fun (hq : o9 = 2) => ?_) (by omega); subst hq; conv => whnf) | fail)
    refine ⟨?_, hL.below⟩
    simp only [readPost, he, if_true, hn1, hn2, hn3, hN]
    exact ⟨out, rfl, Sep.ss' (L := [_]) hL hU⟩
end Go.Proofs.Ytlldgodjfpgbcaa
