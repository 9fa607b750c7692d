/- Records with their sum: frame.Encode, frame.Decode. Numbers of varying length: plain, and the walks of ReadUvarint and Uvarint, for any seat. Nothing is claimed here. -/
import Derived.Test.YtjafamiaahabgaaGreatDoorK10
import Derived.Test.YtjafamiaahabgaaGreatDoorK05
namespace Go.Proofs.YtjafamiaahabgaaGreatDoor
open Go.RowKit
set_option linter.unusedVariables false
set_option linter.unusedSimpArgs false
set_option maxRecDepth 100000

theorem Sl.win {w : World} {bb o c : Nat} {l : List UInt8} (h : Sl w (.slice (some ⟨bb, o, none⟩) l.length c) (bv l)) {lo n : Nat} (hk : lo + n ≤ l.length) {o' n' c' : Nat} (ho : (lo : Int) < c → (o' : Int) = o + lo * (1 : Nat)) (hn : (n' : Int) = n) (hc : (c' : Int) = (c : Int) - lo) :
    Sl w (.slice (some ⟨bb, o', none⟩) n' c') (bv (win l lo n)) := by
  obtain ⟨q1, q2, q3⟩ := h.len
  have h1 := h.drop (k := lo) (by rw [bv_length]; omega) (o' := o') (n' := l.length - lo) (c' := c') (fun h => by have := ho (by omega); omega) rfl (by omega)
  have h2 := h1.take (k := n) (by simp; omega) (c' := c') (by omega) (Nat.le_refl _)
  obtain rfl : n' = n := by omega
  rw [Go.Proofs.YtjafamiaahabgaaGreatDoor.win, bv_take, bv_drop]
  exact h2
theorem win_take {b : List UInt8} {a n k : Nat} (h : k ≤ n) : (Go.Proofs.YtjafamiaahabgaaGreatDoor.win b a n).take k = Go.Proofs.YtjafamiaahabgaaGreatDoor.win b a k := by
  rw [Go.Proofs.YtjafamiaahabgaaGreatDoor.win, List.take_take, Nat.min_eq_left h]; rfl
theorem get32w {w : World} {v : Value} {b : List UInt8} {lo n : Nat} (h : Sl w v (bv (Go.Proofs.YtjafamiaahabgaaGreatDoor.win b lo n))) (hk : lo + n ≤ b.length) (h4 : 4 ≤ n) : Fn Tryz.prog 89 #[v] w fun r w' => r = .tuple #[.int .u32 (ofB (Go.Proofs.YtjafamiaahabgaaGreatDoor.win b lo 4) : Int), .int .i64 0] ∧ w' = w :=
  (get32_fn v _ w h).mono fun r w' ⟨hw, hr⟩ => by
    subst hw
    rw [if_neg (by rw [win_len hk]; omega), win_take h4] at hr
    exact ⟨hr, rfl⟩
theorem sumw {w : World} {v : Value} {l : List UInt8} (h : Sl w v (bv l)) : Fn Tryz.prog 69 #[v] w fun r w' => r = .int .u32 (crc l : Int) ∧ Below w.heap.size w w' := sum_fn v l w h
theorem ofB4_lt (b : List UInt8) (a : Nat) : ofB (Go.Proofs.YtjafamiaahabgaaGreatDoor.win b a 4) < 4294967296 := by
  have h := ofB_lt (Go.Proofs.YtjafamiaahabgaaGreatDoor.win b a 4)
  have h1 : (Go.Proofs.YtjafamiaahabgaaGreatDoor.win b a 4).length ≤ 4 := by simp [Go.Proofs.YtjafamiaahabgaaGreatDoor.win]; omega
  exact Nat.lt_of_lt_of_le h (Nat.pow_le_pow_right (by decide) h1)
theorem Sl.rowOf' {w : World} {b o n c : Nat} {xs : List Value} (h : Sl w (.slice (some ⟨b, o, none⟩) n c) xs) : Row w b o xs := by
  obtain ⟨a', c', he, h1, h2, h3, h4⟩ := h.of
  injection he with e1 e2 e3
  subst e1
  exact Row.of_cells (Row.cells (h4 _ rfl))
theorem own_shape1 {w : World} {base : Nat} {e : TypeId} {sz : Nat} {v : Value} {n : Nat} {xs : List Value} (h : w.ownsRow base e sz v n xs) : ∃ a cap, v = .slice a n cap := by
  rcases h.2 with ⟨rfl, rfl⟩ | ⟨g, cap, _, rfl, _⟩
  · exact ⟨none, 0, rfl⟩
  · exact ⟨_, cap, rfl⟩
def decN (b : List UInt8) : Nat := ofB (Go.Proofs.YtjafamiaahabgaaGreatDoor.win b 0 4)
def decP (b : List UInt8) : List UInt8 := Go.Proofs.YtjafamiaahabgaaGreatDoor.win b 8 (decN b)
def decE (b : List UInt8) : Nat := if b.length < 8 then 2 else if 1048576 < decN b then 5 else if b.length < 8 + decN b then 2 else if crc (Go.Proofs.YtjafamiaahabgaaGreatDoor.win b 0 4 ++ decP b) ≠ ofB (Go.Proofs.YtjafamiaahabgaaGreatDoor.win b 4 4) then 4 else 0
def decPost (b : List UInt8) (r : Value) (w w' : World) : Prop := if decE b = 0 then 8 + decN b ≤ b.length ∧ (decP b).length = decN b ∧ ∃ u, r = .tuple #[u, .int .i64 ((8 + decN b : Nat) : Int), .int .i64 0] ∧ w'.ownsRow w.heap.size 5 1 u (decN b) (bv (decP b)) else
  r = .tuple #[.slice none 0 0, .int .i64 0, .int .i64 (decE b : Int)]

set_option maxHeartbeats 4000000 in
theorem decode_fn (v : Value) (b : List UInt8) (w0 : World) (hs : Sl w0 v (bv b)) : Fn Tryz.prog 66 #[v] w0 fun r w' => decPost b r w0 w' ∧ Below w0.heap.size w0 w' := by
  have hle := hs.le
  obtain ⟨a, c, rfl⟩ := hs.shape
  simp only [bv_length] at *
  have hL := Sep.start Tryz.prog w0
  have hB := Nat.le_refl w0.heap.size
  refine Fn.mk Tryz.func66 rfl (by kernel_rfl) Tryz.ntmps66 rfl (by rw [Tryz.results66]) ?_
  repeat (first | (refine RunH ?_; intro w hL hB; try clear w) | (refine Both.mk ?_ ?_ <;> conv => whnf) | fail)
  refine (get32_fn _ b _ hs).mono fun r w1 ⟨hw, hr⟩ => ?_
  subst hr; subst hw
  by_cases h8 : b.length < 8
  · have he : decE b = 2 := by rw [decE, if_pos h8]
    by_cases h4 : b.length < 4
    · rw [if_pos h4]
      conv => whnf
      repeat (first | (refine RunH ?_; intro w hL hB; try clear w) | (refine Both.mk ?_ ?_ <;> conv => whnf) | fail)
      exact ⟨by simp [decPost, he], hL.below⟩
    · rw [if_neg h4]
      conv => whnf
      repeat (first | (refine RunH ?_; intro w hL hB; try clear w) | (refine Both.mk ?_ ?_ <;> conv => whnf) | fail)
      exact ⟨by simp [decPost, he], hL.below⟩
  rw [if_neg (by omega), show b.take 4 = Go.Proofs.YtjafamiaahabgaaGreatDoor.win b 0 4 from rfl]
  obtain ⟨bb, o, rfl, hr⟩ := hs.addr (by omega)
  obtain ⟨q1, q2, q3⟩ := hs.len
  rw [bv_length] at q1
  have hn : ofB (Go.Proofs.YtjafamiaahabgaaGreatDoor.win b 0 4) = decN b := rfl
  rw [hn]
  have hnl : decN b < 4294967296 := ofB4_lt b 0
  conv => whnf
  repeat (first | (refine RunH ?_; intro w hL hB; try clear w) | (refine Both.mk ?_ ?_ <;> conv => whnf) | fail)
  intro o1 n1 c1 p1 p2 p3 p4
  conv => whnf
  repeat (first | (refine RunH ?_; intro w hL hB; try clear w) | (refine Both.mk ?_ ?_ <;> conv => whnf) | fail)
  refine (get32w (hs.win (lo := 4) (n := b.length - 4) (by omega) (fun h => by have := p1 (by omega); omega) (by omega) (by omega)) (by omega) (by omega)).mono fun r w1 ⟨hr, hw⟩ => ?_
  subst hr; subst hw
  by_cases h5 : 1048576 < decN b
  · have he : decE b = 5 := by rw [decE, if_neg h8, if_pos h5]
    conv => whnf
    repeat (first | (refine RunH ?_; intro w hL hB; try clear w) | (refine Both.mk ?_ ?_ <;> conv => whnf) | fail)
    exact ⟨by simp [decPost, he], hL.below⟩
  by_cases h9 : b.length < 8 + decN b
  · have he : decE b = 2 := by rw [decE, if_neg h8, if_neg h5, if_pos h9]
    conv => whnf
    repeat (first | (refine RunH ?_; intro w hL hB; try clear w) | (refine Both.mk ?_ ?_ <;> conv => whnf) | fail)
    exact ⟨by simp [decPost, he], hL.below⟩
  have hpl : (decP b).length = decN b := win_len (by omega)
  have h4l : (Go.Proofs.YtjafamiaahabgaaGreatDoor.win b 0 4).length = 4 := win_len (by omega)
  conv => whnf
  repeat (first | (refine RunH ?_; intro w hL hB; try clear w) | (refine Both.mk ?_ ?_ <;> conv => whnf) | fail)
  intro o2 n2 c2 p5 p6 p7 p8
  conv => whnf
  repeat (first | (refine RunH ?_; intro w hL hB; try clear w) | (refine Both.mk ?_ ?_ <;> conv => whnf) | fail)
  obtain rfl : n2 = decN b := by omega
  have hp2 : Sl w1 (.slice (some ⟨bb, o2, none⟩) (decN b) c2) (bv (decP b)) := hs.win (lo := 8) (n := decN b) (by omega) (fun h => by have := p5 (by omega); omega) (by omega) (by omega)
  intro n3 c3 p9 p10
  conv => whnf
  repeat (first | (refine RunH ?_; intro w hL hB; try clear w) | (refine Both.mk ?_ ?_ <;> conv => whnf) | fail)
  obtain rfl : n3 = 4 := by omega
  have hp3 : Sl w1 (.slice (some ⟨bb, o, none⟩) 4 c3) (bv (Go.Proofs.YtjafamiaahabgaaGreatDoor.win b 0 4)) := by
    have := hs.take (k := 4) (by rw [bv_length]; omega) (c' := c3) (by omega) (by omega)
    rw [← bv_take] at this; exact this
  refine (clone_fn _ _ _ hp3 (by omega)).mono fun r w ⟨ho, hw⟩ => ?_
  replace hL := hL.addRow hB hw ho
  replace hB := Nat.le_trans hB hw.size
  clear ho hw
  obtain ⟨oa, oc, rfl⟩ := own_shape1 (show World.ownsRow _ 0 5 1 r _ _ from hL.at (i := 0) rfl)
  conv => whnf
  repeat (first | (refine RunH ?_; intro w hL hB; try clear w) | (refine Both.mk ?_ ?_ <;> conv => whnf) | fail)
  refine Rv.appendS ttOk hL tl23 tl5 rfl (by decide) 0 rfl (Sl.toN (hp2.below hL.below)) (bv_one _) (by simp only [maxLen, bv_length]; omega) (by rw [bv_length]; omega) hB fun vo w hL hB => ?_
  dsimp only [List.set] at hL
  rw [← bv_append, bv_length, ← List.length_append] at hL
  conv => whnf
  repeat (first | (refine RunH ?_; intro w hL hB; try clear w) | (refine Both.mk ?_ ?_ <;> conv => whnf) | fail)
  refine (sumw (hL.row (i := 0) rfl)).mono fun r2 w ⟨hr, hw⟩ => ?_
  subst hr
  replace hL := (hL.call hB (Turns.of_below hw)).tl
  replace hB := Nat.le_trans hB hw.size
  by_cases hc : crc (Go.Proofs.YtjafamiaahabgaaGreatDoor.win b 0 4 ++ decP b) = ofB (Go.Proofs.YtjafamiaahabgaaGreatDoor.win b 4 4)
  · have he : decE b = 0 := by rw [decE, if_neg h8, if_neg h5, if_neg h9, if_neg (fun h => h hc)]
    conv => whnf
    repeat (first | (refine RunH ?_; intro w hL hB; try clear w) | (refine Both.mk ?_ ?_ <;> conv => whnf) | fail)
    refine (clone_fn _ _ _ (hp2.below hL.below) (by omega)).mono fun r w ⟨ho, hw⟩ => ?_
    replace hL := hL.addRow hB hw ho
    replace hB := Nat.le_trans hB hw.size
    conv => whnf
    repeat (first | (refine RunH ?_; intro w hL hB; try clear w) | (refine Both.mk ?_ ?_ <;> conv => whnf) | fail)
    refine ⟨?_, hL.below⟩
    rw [decPost, if_pos he]
    refine ⟨by omega, hpl, _, rfl, ?_⟩
    rw [← hpl]
    exact own_raise (hL.at (i := 0) rfl) fun b hb => hL.own _ (List.mem_cons_self ..) b (mem_rowB.2 hb)
  · have he : decE b = 4 := by rw [decE, if_neg h8, if_neg h5, if_neg h9, if_pos hc]
    conv => whnf
    repeat (first | (refine RunH ?_; intro w hL hB; try clear w) | (refine Both.mk ?_ ?_ <;> conv => whnf) | fail)
    exact ⟨by simp [decPost, he], hL.below⟩

theorem put32n (v : Nat) (hv : v < 4294967296) (w : World) : Fn Tryz.prog 68 #[.int .u32 v] w fun r w' => w'.ownsRow w.heap.size 5 1 r (putB v 4).length (bv (putB v 4)) ∧ Below w.heap.size w w' :=
  (put32_fn v hv w).mono fun r w' ⟨h1, h2⟩ => ⟨by rw [putB_len]; exact h1, h2⟩
/-- a record -/
def encF (p : List UInt8) : List UInt8 := putB p.length 4 ++ putB (crc (putB p.length 4 ++ p)) 4 ++ p
theorem encF_len (p : List UInt8) : (encF p).length = 8 + p.length := by simp [encF, putB_len]; omega

set_option maxHeartbeats 4000000 in
theorem encode_fn (v : Value) (p : List UInt8) (hp : p.length ≤ 1048576) (w0 : World) (hs : Sl w0 v (bv p)) : Fn Tryz.prog 29 #[v] w0 fun r w' => ∃ u, r = .tuple #[u, .int .i64 0] ∧ w'.ownsRow w0.heap.size 5 1 u (encF p).length (bv (encF p)) ∧ Below w0.heap.size w0 w' := by
  obtain ⟨a, c, rfl⟩ := hs.shape
  simp only [bv_length] at *
  have hL := Sep.start Tryz.prog w0
  have hB := Nat.le_refl w0.heap.size
  refine Fn.mk Tryz.func29 rfl (by kernel_rfl) Tryz.ntmps29 rfl (by rw [Tryz.results29]) ?_
  repeat (first | (refine RunH ?_; intro w hL hB; try clear w) | (refine Both.mk ?_ ?_ <;> conv => whnf) | fail)
  refine (put32n p.length (by omega) _).mono fun r w ⟨ho, hw⟩ => ?_
  replace hL := hL.addRow hB hw ho
  replace hB := Nat.le_trans hB hw.size
  clear ho hw
  generalize hA : putB p.length 4 = A at *
  have hAl : A.length = 4 := by rw [← hA]; exact putB_len _ _
  obtain ⟨ra, rc, rfl⟩ := (show SlN w 1 r A.length _ from hL.rowN (i := 0) rfl).shape
  conv => whnf
  repeat (first | (refine RunH ?_; intro w hL hB; try clear w) | (refine Both.mk ?_ ?_ <;> conv => whnf) | fail)
  refine (clone_fn _ A _ (hL.row (i := 0) rfl) (by omega)).mono fun r w ⟨ho, hw⟩ => ?_
  replace hL := hL.addRow hB hw ho
  replace hB := Nat.le_trans hB hw.size
  clear ho hw
  obtain ⟨ra2, rc2, rfl⟩ := (show SlN w 1 r A.length _ from hL.rowN (i := 0) rfl).shape
  conv => whnf
  repeat (first | (refine RunH ?_; intro w hL hB; try clear w) | (refine Both.mk ?_ ?_ <;> conv => whnf) | fail)
  refine Rv.appendS ttOk hL tl23 tl5 rfl (by decide) 0 rfl (Sl.toN (hs.below hL.below)) (bv_one _) (by simp only [maxLen, bv_length]; omega) (by rw [bv_length]; omega) hB fun vo w hL hB => ?_
  dsimp only [List.set] at hL
  rw [← bv_append, bv_length, ← List.length_append] at hL
  conv => whnf
  repeat (first | (refine RunH ?_; intro w hL hB; try clear w) | (refine Both.mk ?_ ?_ <;> conv => whnf) | fail)
  refine (sumw (hL.row (i := 0) rfl)).mono fun r2 w ⟨hr, hw⟩ => ?_
  subst hr
  replace hL := (hL.call hB (Turns.of_below hw)).tl
  replace hB := Nat.le_trans hB hw.size
  have hcl := crc_lt (A ++ p)
  conv => whnf
  repeat (first | (refine RunH ?_; intro w hL hB; try clear w) | (refine Both.mk ?_ ?_ <;> conv => whnf) | fail)
  refine (put32n (crc (A ++ p)) hcl _).mono fun r w ⟨ho, hw⟩ => ?_
  replace hL := hL.addRow hB hw ho
  replace hB := Nat.le_trans hB hw.size
  clear ho hw
  have hQl : (putB (crc (A ++ p)) 4).length = 4 := putB_len _ _
  conv => whnf
  repeat (first | (refine RunH ?_; intro w hL hB; try clear w) | (refine Both.mk ?_ ?_ <;> conv => whnf) | fail)
  refine Rv.appendS ttOk hL tl23 tl5 rfl (by decide) 1 rfl (hL.rowN (i := 0) rfl) (bv_one _) (by simp only [maxLen]; omega) (by omega) hB fun vo w hL hB => ?_
  dsimp only [List.set] at hL
  rw [← bv_append, ← List.length_append] at hL
  have h8 : (A ++ putB (crc (A ++ p)) 4).length = 8 := by simp [hAl, putB_len]
  obtain ⟨ra3, rc3, rfl⟩ := (show SlN w 1 vo (A ++ putB (crc (A ++ p)) 4).length _ from hL.rowN (i := 1) rfl).shape
  conv => whnf
  repeat (first | (refine RunH ?_; intro w hL hB; try clear w) | (refine Both.mk ?_ ?_ <;> conv => whnf) | fail)
  refine Rv.appendS ttOk hL tl23 tl5 rfl (by decide) 1 rfl (Sl.toN (hs.below hL.below)) (bv_one _) (by simp only [maxLen, bv_length]; omega) (by rw [bv_length]; omega) hB fun vo w hL hB => ?_
  dsimp only [List.set] at hL
  rw [← bv_append, bv_length, ← List.length_append] at hL
  conv => whnf
  repeat (first | (refine RunH ?_; intro w hL hB; try clear w) | (refine Both.mk ?_ ?_ <;> conv => whnf) | fail)
  refine ⟨_, rfl, ?_, hL.below⟩
  have hr := hL.ownR (i := 1) rfl
  unfold encF
  rw [hA]
  exact hr

section
variable {p : List UInt8} (h : p.length ≤ 1048576)
include h
theorem dec_n : decN (encF p) = p.length := by
  unfold decN encF
  have e : Go.Proofs.YtjafamiaahabgaaGreatDoor.win (putB p.length 4 ++ putB (crc (putB p.length 4 ++ p)) 4 ++ p) 0 4 = putB p.length 4 := by
    unfold Go.Proofs.YtjafamiaahabgaaGreatDoor.win
    rw [List.drop_zero, List.append_assoc, List.take_left' (putB_len _ _)]
  rw [e, ofB_put4 _ (by omega)]
theorem dec_p : decP (encF p) = p := by
  unfold decP
  rw [dec_n h]
  unfold encF Go.Proofs.YtjafamiaahabgaaGreatDoor.win
  rw [List.drop_left' (by simp [putB_len]), List.take_of_length_le (Nat.le_refl _)]
theorem dec_e : decE (encF p) = 0 := by
  have hl := encF_len p
  have e1 : Go.Proofs.YtjafamiaahabgaaGreatDoor.win (encF p) 0 4 = putB p.length 4 := by
    unfold Go.Proofs.YtjafamiaahabgaaGreatDoor.win encF
    rw [List.drop_zero, List.append_assoc, List.take_left' (putB_len _ _)]
  have e2 : Go.Proofs.YtjafamiaahabgaaGreatDoor.win (encF p) 4 4 = putB (crc (putB p.length 4 ++ p)) 4 := by
    unfold Go.Proofs.YtjafamiaahabgaaGreatDoor.win encF
    rw [List.append_assoc, List.drop_left' (putB_len _ _), List.take_left' (putB_len _ _)]
  unfold decE
  rw [dec_n h, dec_p h, e1, e2, ofB_put4 _ (crc_lt _), if_neg (by omega), if_neg (by omega), if_neg (by omega), if_neg (fun h => h rfl)]
end
end Go.Proofs.YtjafamiaahabgaaGreatDoor
namespace Go.Proofs.YtjafamiaahabgaaGreatDoor
open Go.RowKit
set_option linter.unusedVariables false
set_option linter.unusedSimpArgs false
set_option maxRecDepth 100000

/-- what bytes say as a number: the number, its bytes, the error -/
def rdG : List UInt8 → Nat → Nat → Nat × Nat × Nat
  | [], _, _ => (0, 0, 2)
  | c :: l, i, v => if 128 ≤ c.toNat then (if i = 9 then (0, 0, 3) else rdG l (i + 1) (v + (c.toNat - 128) * 128 ^ i)) else
    if (c.toNat = 0 ∧ 0 < i) ∨ (i = 9 ∧ 1 < c.toNat) then (0, 0, 3) else (v + c.toNat * 128 ^ i, i + 1, 0)
def rdU (l : List UInt8) : Nat × Nat × Nat := rdG l 0 0
theorem rdG_ok : ∀ (l : List UInt8) (i v : Nat), i ≤ 9 → v < 128 ^ i → (rdG l i v).1 < 18446744073709551616 ∧ (rdG l i v).2.1 ≤ i + l.length ∧ (rdG l i v).2.2 ≤ 3 ∧ ((rdG l i v).2.2 = 0 → i < (rdG l i v).2.1)
  | [], i, v, _, _ => by simp [rdG]
  | c :: l, i, v, hi, hv => by
    have hc := c.toNat_lt
    unfold rdG
    split
    · split
      · simp
      · have hp : 128 ^ (i + 1) = 128 * 128 ^ i := by rw [Nat.pow_succ, Nat.mul_comm]
        have hm : (c.toNat - 128) * 128 ^ i ≤ 127 * 128 ^ i := Nat.mul_le_mul_right _ (by omega)
        have := rdG_ok l (i + 1) (v + (c.toNat - 128) * 128 ^ i) (by omega) (by omega)
        simp only [List.length_cons]
        exact ⟨this.1, by omega, this.2.2.1, fun h => by have := this.2.2.2 h; omega⟩
    · split
      · simp
      · rename_i h1 h2
        refine ⟨?_, by simp, by simp, by simp⟩
        by_cases h9 : i = 9
        · subst h9
          have : c.toNat * 128 ^ 9 ≤ 1 * 128 ^ 9 := Nat.mul_le_mul_right _ (by omega)
          simp only at hv ⊢
          omega
        · have h8 : (128 : Nat) ^ i ≤ 128 ^ 8 := Nat.pow_le_pow_right (by decide) (by omega)
          have hm : c.toNat * 128 ^ i ≤ 127 * 128 ^ i := Nat.mul_le_mul_right _ (by omega)
          have e8 : (128 : Nat) ^ 8 = 72057594037927936 := by decide
          simp only
          omega
theorem rdU_ok (l : List UInt8) : (rdU l).1 < 18446744073709551616 ∧ (rdU l).2.1 ≤ l.length ∧ (rdU l).2.2 ≤ 3 ∧ ((rdU l).2.2 = 0 → 0 < (rdU l).2.1) := by
  have := rdG_ok l 0 0 (by decide) (by decide)
  simpa [rdU] using this
theorem pow7 (i : Nat) : 2 ^ (7 * i) = 128 ^ i := by rw [Nat.pow_mul]
theorem p128 {i : Nat} (h : i ≤ 9) : 128 ^ i ≤ 9223372036854775808 := by
  have : (128 : Nat) ^ i ≤ 128 ^ 9 := Nat.pow_le_pow_right (by decide) h
  simpa using this
theorem p128' {i : Nat} (h : i ≤ 8) : 128 ^ i ≤ 72057594037927936 := by
  have : (128 : Nat) ^ i ≤ 128 ^ 8 := Nat.pow_le_pow_right (by decide) h
  simpa using this
theorem and127 (c : Nat) : c &&& 127 = c % 128 := Nat.and_two_pow_sub_one_eq_mod c 7
theorem or128 {v d i : Nat} (h : v < 128 ^ i) : v ||| d * 128 ^ i = v + d * 128 ^ i := by
  rw [Nat.or_comm, or_add d v (7 * i) (128 ^ i) (pow7 i) h, Nat.add_comm]
theorem Ar.n64 {z : Int} {K : Int → Prop} (x : Nat) (hz : z = x) (hx : x ≤ 18446744073709551615) (h : K (x : Int)) : Ar .u64 z K := by
  subst hz; exact Ar.u64 (by omega) (by omega) h
def ruV (x : Nat × Nat × Nat) : Value := .tuple #[.int .u64 (x.1 : Int), .int .i64 (x.2.1 : Int), .int .i64 (x.2.2 : Int)]

set_option maxHeartbeats 4000000 in
theorem readUv_fn (v : Value) (l : List UInt8) (w0 : World) (hs : Sl w0 v (bv l)) : Fn Tryz.prog 67 #[v] w0 fun r w' => r = ruV (rdU l) ∧ w' = w0 := by
  have hle := hs.le
  obtain ⟨a, cp, rfl⟩ := hs.shape
  simp only [bv_length] at *
  refine Fn.mk Tryz.func67 rfl (by kernel_rfl) Tryz.ntmps67 rfl (by rw [Tryz.results67]) ?_
  refine RunR ?_
  refine V.loop (α := Nat × Nat) (fun z => [(8, .slice a l.length cp), (9, .int .i64 (l.length : Int)), (10, .int .i64 (z.1 : Int)), (5, .int .u64 (z.2 : Int))])
    (fun z w' => z.1 ≤ l.length ∧ z.1 ≤ 9 ∧ z.2 < 128 ^ z.1 ∧ rdU l = rdG (l.drop z.1) z.1 z.2 ∧ w' = w0)
    (fun z => l.length - z.1) (0, 0) ⟨rfl, rfl, rfl, rfl, trivial⟩ ⟨by simp, by simp, by simp, rfl, rfl⟩ ?_
  rintro ⟨i, x⟩ w ⟨hi, h9, hx, hr, rfl⟩
  dsimp only at *
  refine RunR ?_
  refine Br.dec (fun hlt => ?_) (fun hlt => ?_)
  · have hil : i < l.length := by omega
    obtain ⟨b, o, rfl, hrow⟩ := hs.addr (by omega)
    have hg : l.drop i = l[i] :: l.drop (i + 1) := List.drop_eq_getElem_cons hil
    generalize hc : l[i] = c at *
    have hcc : (bv l)[i]? = some (.int .u8 (c.toNat : Int)) := bv_get (by rw [List.getElem?_eq_getElem hil, hc])
    have hcl := c.toNat_lt
    rw [hg, rdG] at hr
    have hp9 := p128 h9
    refine RunR ?_
    intro o1 ho1
    conv => whnf
    refine Ld.row1 ttOk hrow rfl rfl hcc (by omega) ?_
    conv => whnf
    by_cases h128 : 128 ≤ c.toNat
    · rw [if_pos h128] at hr
      by_cases hi9 : i = 9
      · rw [if_pos hi9] at hr
        refine RunR ?_
        exact ⟨by rw [hr]; rfl, rfl⟩
      · rw [if_neg hi9] at hr
        have hp8 := p128' (show i ≤ 8 by omega)
        have hm : (c.toNat - 128) * 128 ^ i ≤ 127 * 128 ^ i := Nat.mul_le_mul_right _ (by omega)
        have hp : 128 ^ (i + 1) = 128 * 128 ^ i := by rw [Nat.pow_succ, Nat.mul_comm]
        refine RunR ?_
        refine Bt.and8 c.toNat 127 rfl rfl hcl (by decide) ?_
        rw [and127, show c.toNat % 128 = c.toNat - 128 by omega]
        conv => whnf
        refine RunR ?_
        refine Shl.u64 (7 * i) (128 ^ i) (by first | rfl | (push_cast; rfl)) (by omega) (pow7 i) ?_
        refine Ar.n64 ((c.toNat - 128) * 128 ^ i) (by first | rfl | (push_cast; rfl)) (by omega) ?_
        refine Bt.or64 x ((c.toNat - 128) * 128 ^ i) rfl rfl (by omega) (by omega) ?_
        rw [or128 hx]
        conv => whnf
        refine RunR ?_
        exact ⟨(i + 1, x + (c.toNat - 128) * 128 ^ i), ⟨rfl, rfl, vint (by push_cast; omega), rfl, trivial⟩, ⟨hil, by dsimp only; omega, by dsimp only; omega, hr, rfl⟩, (by first | omega | (dsimp only; omega))⟩
    · rw [if_neg h128] at hr
      by_cases hbad : (c.toNat = 0 ∧ 0 < i) ∨ (i = 9 ∧ 1 < c.toNat)
      · rw [if_pos hbad] at hr
        by_cases hc0 : c.toNat = 0 ∧ 0 < i
        · refine RunR ?_
          exact ⟨by rw [hr]; rfl, rfl⟩
        · by_cases hc00 : c.toNat = 0
          · exfalso; omega
          · refine RunR ?_
            exact ⟨by rw [hr]; rfl, rfl⟩
      · rw [if_neg hbad] at hr
        have hm : c.toNat * 128 ^ i ≤ 9223372036854775808 := by
          by_cases hi9 : i = 9
          · subst hi9
            exact Nat.le_trans (Nat.mul_le_mul_right _ (show c.toNat ≤ 1 by omega)) (by decide)
          · have hp8 := p128' (show i ≤ 8 by omega)
            have hm : c.toNat * 128 ^ i ≤ 127 * 128 ^ i := Nat.mul_le_mul_right _ (by omega)
            omega
        by_cases hc00 : c.toNat = 0
        · obtain rfl : i = 0 := by omega
          refine RunR ?_
          refine Shl.u64 (7 * 0) (128 ^ 0) (by first | rfl | (push_cast; rfl)) (by omega) (pow7 0) ?_
          refine Ar.n64 (c.toNat * 128 ^ 0) (by first | rfl | (push_cast; rfl)) (by omega) ?_
          refine Bt.or64 x (c.toNat * 128 ^ 0) rfl rfl (by omega) (by omega) ?_
          rw [or128 hx]
          conv => whnf
          refine RunR ?_
          exact ⟨by rw [hr]; rfl, rfl⟩
        · by_cases hi9 : i = 9
          · refine RunR ?_
            refine Shl.u64 (7 * i) (128 ^ i) (by first | rfl | (push_cast; rfl)) (by omega) (pow7 i) ?_
            refine Ar.n64 (c.toNat * 128 ^ i) (by first | rfl | (push_cast; rfl)) (by omega) ?_
            refine Bt.or64 x (c.toNat * 128 ^ i) rfl rfl (by omega) (by omega) ?_
            rw [or128 hx]
            conv => whnf
            refine RunR ?_
            exact ⟨by rw [hr]; rfl, rfl⟩
          · refine RunR ?_
            refine Shl.u64 (7 * i) (128 ^ i) (by first | rfl | (push_cast; rfl)) (by omega) (pow7 i) ?_
            refine Ar.n64 (c.toNat * 128 ^ i) (by first | rfl | (push_cast; rfl)) (by omega) ?_
            refine Bt.or64 x (c.toNat * 128 ^ i) rfl rfl (by omega) (by omega) ?_
            rw [or128 hx]
            conv => whnf
            refine RunR ?_
            exact ⟨by rw [hr]; rfl, rfl⟩
  · obtain rfl : i = l.length := by omega
    rw [List.drop_length, rdG] at hr
    refine RunR ?_
    exact ⟨by rw [hr]; rfl, rfl⟩

def encG : Nat → Nat → List UInt8
  | 0, _ => []
  | f + 1, v => if v < 128 then [UInt8.ofNat v] else UInt8.ofNat (v % 128 + 128) :: encG f (v / 128)
/-- a number's bytes -/
def encU (v : Nat) : List UInt8 := encG 10 v
theorem encG_len : ∀ (f v : Nat), (encG f v).length ≤ f
  | 0, v => by simp [encG]
  | f + 1, v => by
    unfold encG
    split
    · simp
    · have := encG_len f (v / 128); simp; omega
theorem encU_len (v : Nat) : (encU v).length ≤ 10 := encG_len 10 v
theorem encG_pos {f v : Nat} (h : 0 < f) : 0 < (encG f v).length := by
  match f, h with
  | f + 1, _ => unfold encG; split <;> simp
theorem or8b : ∀ x, x < 256 → x ||| 128 = x % 128 + 128 := by decide

set_option maxHeartbeats 4000000 in
theorem uvarint_fn (v : Nat) (hv : v < 18446744073709551616) (w0 : World) : Fn Tryz.prog 30 #[.int .u64 (v : Int)] w0 fun r w' => w'.ownsRow w0.heap.size 5 1 r (encU v).length (bv (encU v)) ∧ Below w0.heap.size w0 w' := by
  have hL := Sep.start Tryz.prog w0
  have hB := Nat.le_refl w0.heap.size
  refine Fn.mk Tryz.func30 rfl (by kernel_rfl) Tryz.ntmps30 rfl (by rw [Tryz.results30]) ?_
  replace hL := hL.nilRow 5 1
  repeat (first | (refine RunH ?_; intro w hL hB; try clear w) | (refine Both.mk ?_ ?_ <;> conv => whnf) | fail)
  refine V.loop (α := Nat × Nat × Value × List UInt8) (fun z => [(0, .int .u64 (z.2.1 : Int)), (3, z.2.2.1)])
    (fun z w' => z.1 ≤ 9 ∧ z.2.1 * 128 ^ (9 - z.1) < 18446744073709551616 ∧ encU v = z.2.2.2 ++ encG (z.1 + 1) z.2.1 ∧ z.2.2.2.length + z.1 = 9 ∧ w0.heap.size ≤ w'.heap.size ∧ Sep Tryz.prog w0.heap.size w0 w' [.row 5 1 z.2.2.1 z.2.2.2.length (bv z.2.2.2)])
    (fun z => z.1) (9, v, .slice none 0 0, []) ⟨rfl, rfl, trivial⟩ ⟨by simp, by simpa using hv, rfl, rfl, hB, hL⟩ ?_
  clear hL hB
  rintro ⟨f, x, u, acc⟩ w ⟨hf, hx, he, hfl, hB, hL⟩
  dsimp only at *
  obtain ⟨ua, uc, rfl⟩ := (show SlN w 1 u acc.length _ from hL.rowN (i := 0) rfl).shape
  have hx64 : x < 18446744073709551616 := Nat.lt_of_le_of_lt (Nat.le_mul_of_pos_right x (Nat.pow_pos (by decide))) hx
  repeat (first | (refine RunH ?_; intro w hL hB; try clear w) | (refine Both.mk ?_ ?_ <;> conv => whnf) | fail)
  by_cases h128 : x < 128
  · repeat (first | (refine RunH ?_; intro w hL hB; try clear w) | (refine Both.mk ?_ ?_ <;> conv => whnf) | fail)
    refine Rv.buildS (len := 1) (vs := [.int .u8 (x : Int)]) ttOk hL tl23 tl5 rfl rfl (by intro u hu; simp only [List.mem_singleton] at hu; subst hu; rfl) (by decide) (by decide) hB fun bo w hL hB => ?_
    conv => whnf
    refine Rv.appendS ttOk hL tl23 tl5 rfl (by decide) 1 rfl (hL.rowN (i := 0) rfl) (allOne_mem rfl) (by simp only [maxLen]; omega) (by omega) hB fun vo w hL hB => ?_
    dsimp only [List.set] at hL
    conv => whnf
    repeat (first | (refine RunH ?_; intro w hL hB; try clear w) | (refine Both.mk ?_ ?_ <;> conv => whnf) | fail)
    refine ⟨?_, hL.below⟩
    have e : encU v = acc ++ [UInt8.ofNat x] := by rw [he, encG, if_pos h128]
    have hr := hL.ownR (i := 1) rfl
    rw [e]
    have e2 : bv (acc ++ [UInt8.ofNat x]) = bv acc ++ List.flatMap cellsL [Value.int IntKind.u8 (x : Int)] := by
      have : ((UInt8.ofNat x).toNat : Int) = x := by simp; omega
      simp [bv, u8, cellsL]; omega
    rw [e2, List.length_append]
    exact hr
  · have hf0 : f ≠ 0 := by
      rintro rfl
      simp only [Nat.sub_zero] at hx
      omega
    repeat (first | (refine RunH ?_; intro w hL hB; try clear w) | (refine Both.mk ?_ ?_ <;> conv => whnf) | fail)
    refine Ar.m8 x rfl ?_
    refine Bt.or8 (x % 256) 128 rfl rfl (by omega) (by decide) ?_
    rw [or8b _ (by omega), show x % 256 % 128 = x % 128 by omega]
    conv => whnf
    repeat (first | (refine RunH ?_; intro w hL hB; try clear w) | (refine Both.mk ?_ ?_ <;> conv => whnf) | fail)
    refine Rv.buildS (len := 1) (vs := [.int .u8 ((x % 128 + 128 : Nat) : Int)]) ttOk hL tl23 tl5 rfl rfl (by intro u hu; simp only [List.mem_singleton] at hu; subst hu; rfl) (by decide) (by decide) hB fun bo w hL hB => ?_
    conv => whnf
    refine Rv.appendS ttOk hL tl23 tl5 rfl (by decide) 1 rfl (hL.rowN (i := 0) rfl) (allOne_mem rfl) (by simp only [maxLen]; omega) (by omega) hB fun vo w hL hB => ?_
    dsimp only [List.set] at hL
    conv => whnf
    repeat (first | (refine RunH ?_; intro w hL hB; try clear w) | (refine Both.mk ?_ ?_ <;> conv => whnf) | fail)
    refine Shr.u64 x 7 128 rfl rfl (by decide) (by decide) ?_
    conv => whnf
    repeat (first | (refine RunH ?_; intro w hL hB; try clear w) | (refine Both.mk ?_ ?_ <;> conv => whnf) | fail)
    refine ⟨(f - 1, x / 128, vo, acc ++ [UInt8.ofNat (x % 128 + 128)]), ⟨rfl, rfl, trivial⟩, ⟨by dsimp only; omega, ?_, ?_, by simp; omega, hB, ?_⟩, (by first | omega | (dsimp only; omega))⟩
    · dsimp only
      rw [show 9 - (f - 1) = (9 - f) + 1 by omega, Nat.pow_succ, Nat.mul_comm (128 ^ (9 - f)), ← Nat.mul_assoc]
      exact Nat.lt_of_le_of_lt (Nat.mul_le_mul_right _ (Nat.div_mul_le_self x 128)) hx
    · dsimp only
      obtain ⟨g, rfl⟩ : ∃ g, f = g + 1 := ⟨f - 1, by omega⟩
      rw [he, encG, if_neg h128]
      simp
    · have e2 : bv (acc ++ [UInt8.ofNat (x % 128 + 128)]) = bv acc ++ List.flatMap cellsL [Value.int IntKind.u8 ((x % 128 + 128 : Nat) : Int)] := by
        simp [bv, u8, cellsL]; omega
      dsimp only
      rw [e2, List.length_append]
      exact hL.tl

end Go.Proofs.YtjafamiaahabgaaGreatDoor
