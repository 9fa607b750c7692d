/- Records with their sum: frame.Encode, frame.Decode. Nothing is claimed here. -/
import Derived.Test.YtjafamiaahabgaaDoorWp
import Derived.Test.YtjafamiaahabgaaDoorDc
namespace Go.Proofs.YtjafamiaahabgaaDoor
open Go.RowKit
set_option linter.unusedVariables false
set_option linter.unusedSimpArgs false
set_option maxRecDepth 100000

theorem Sl.win {w : World} {bb o c : Nat} {l : List UInt8} (h : Sl w (.slice (some ⟨bb, o, none⟩) l.length c) (bv l)) {lo n : Nat} (hk : lo + n ≤ l.length) {o' n' c' : Nat} (ho : (lo : Int) < c → (o' : Int) = o + lo * (1 : Nat)) (hn : (n' : Int) = n) (hc : (c' : Int) = (c : Int) - lo) :
    Sl w (.slice (some ⟨bb, o', none⟩) n' c') (bv (win l lo n)) := by
  obtain ⟨q1, q2, q3⟩ := h.len
  have h1 := h.drop (k := lo) (by rw [bv_length]; omega) (o' := o') (n' := l.length - lo) (c' := c') (fun h => by have := ho (by omega); omega) rfl (by omega)
  have h2 := h1.take (k := n) (by simp; omega) (c' := c') (by omega) (Nat.le_refl _)
  obtain rfl : n' = n := by omega
  rw [Go.Proofs.YtjafamiaahabgaaDoor.win, bv_take, bv_drop]
  exact h2
theorem win_take {b : List UInt8} {a n k : Nat} (h : k ≤ n) : (Go.Proofs.YtjafamiaahabgaaDoor.win b a n).take k = Go.Proofs.YtjafamiaahabgaaDoor.win b a k := by
  rw [Go.Proofs.YtjafamiaahabgaaDoor.win, List.take_take, Nat.min_eq_left h]; rfl
theorem get32w {w : World} {v : Value} {b : List UInt8} {lo n : Nat} (h : Sl w v (bv (Go.Proofs.YtjafamiaahabgaaDoor.win b lo n))) (hk : lo + n ≤ b.length) (h4 : 4 ≤ n) : Fn Tryd.prog 48 #[v] w fun r w' => r = .tuple #[.int .u32 (ofB (Go.Proofs.YtjafamiaahabgaaDoor.win b lo 4) : Int), .int .i64 0] ∧ w' = w :=
  (get32_fn v _ w h).mono fun r w' ⟨hw, hr⟩ => by
    subst hw
    rw [if_neg (by rw [win_len hk]; omega), win_take h4] at hr
    exact ⟨hr, rfl⟩
theorem sumw {w : World} {v : Value} {l : List UInt8} (h : Sl w v (bv l)) : Fn Tryd.prog 39 #[v] w fun r w' => r = .int .u32 (crc l : Int) ∧ Below w.heap.size w w' := sum_fn v l w h
theorem ofB4_lt (b : List UInt8) (a : Nat) : ofB (Go.Proofs.YtjafamiaahabgaaDoor.win b a 4) < 4294967296 := by
  have h := ofB_lt (Go.Proofs.YtjafamiaahabgaaDoor.win b a 4)
  have h1 : (Go.Proofs.YtjafamiaahabgaaDoor.win b a 4).length ≤ 4 := by simp [Go.Proofs.YtjafamiaahabgaaDoor.win]; omega
  exact Nat.lt_of_lt_of_le h (Nat.pow_le_pow_right (by decide) h1)
theorem Sl.rowOf' {w : World} {b o n c : Nat} {xs : List Value} (h : Sl w (.slice (some ⟨b, o, none⟩) n c) xs) : Row w b o xs := by
  obtain ⟨a', c', he, h1, h2, h3, h4⟩ := h.of
  injection he with e1 e2 e3
  subst e1
  exact Row.of_cells (Row.cells (h4 _ rfl))
theorem own_shape1 {w : World} {base : Nat} {e : TypeId} {sz : Nat} {v : Value} {n : Nat} {xs : List Value} (h : w.ownsRow base e sz v n xs) : ∃ a cap, v = .slice a n cap := by
  rcases h.2 with ⟨rfl, rfl⟩ | ⟨g, cap, _, rfl, _⟩
  · exact ⟨none, 0, rfl⟩
  · exact ⟨_, cap, rfl⟩
def decN (b : List UInt8) : Nat := ofB (Go.Proofs.YtjafamiaahabgaaDoor.win b 0 4)
def decP (b : List UInt8) : List UInt8 := Go.Proofs.YtjafamiaahabgaaDoor.win b 8 (decN b)
def decE (b : List UInt8) : Nat := if b.length < 8 then 2 else if 1048576 < decN b then 5 else if b.length < 8 + decN b then 2 else if crc (Go.Proofs.YtjafamiaahabgaaDoor.win b 0 4 ++ decP b) ≠ ofB (Go.Proofs.YtjafamiaahabgaaDoor.win b 4 4) then 4 else 0
def decPost (b : List UInt8) (r : Value) (w w' : World) : Prop := if decE b = 0 then 8 + decN b ≤ b.length ∧ (decP b).length = decN b ∧ ∃ u, r = .tuple #[u, .int .i64 ((8 + decN b : Nat) : Int), .int .i64 0] ∧ w'.ownsRow w.heap.size 5 1 u (decN b) (bv (decP b)) else
  r = .tuple #[.slice none 0 0, .int .i64 0, .int .i64 (decE b : Int)]

set_option maxHeartbeats 4000000 in
theorem decode_fn (v : Value) (b : List UInt8) (w0 : World) (hs : Sl w0 v (bv b)) : Fn Tryd.prog 32 #[v] w0 fun r w' => decPost b r w0 w' ∧ Below w0.heap.size w0 w' := by
  have hle := hs.le
  obtain ⟨a, c, rfl⟩ := hs.shape
  simp only [bv_length] at *
  have hL := Sep.start Tryd.prog w0
  have hB := Nat.le_refl w0.heap.size
  refine Fn.mk Tryd.func32 rfl (by kernel_rfl) Tryd.ntmps32 rfl (by rw [Tryd.results32]) ?_
  repeat (first | (refine RunH ?_; intro w hL hB; try clear w) | (refine Both.mk ?_ ?_ <;> conv => whnf) | fail)
  refine (get32_fn _ b _ hs).mono fun r w1 ⟨hw, hr⟩ => ?_
  subst hr; subst hw
  by_cases h8 : b.length < 8
  · have he : decE b = 2 := by rw [decE, if_pos h8]
    by_cases h4 : b.length < 4
    · rw [if_pos h4]
      conv => whnf
      repeat (first | (refine RunH ?_; intro w hL hB; try clear w) | (refine Both.mk ?_ ?_ <;> conv => whnf) | fail)
      exact ⟨by simp [decPost, he], hL.below⟩
    · rw [if_neg h4]
      conv => whnf
      repeat (first | (refine RunH ?_; intro w hL hB; try clear w) | (refine Both.mk ?_ ?_ <;> conv => whnf) | fail)
      exact ⟨by simp [decPost, he], hL.below⟩
  rw [if_neg (by omega), show b.take 4 = Go.Proofs.YtjafamiaahabgaaDoor.win b 0 4 from rfl]
  obtain ⟨bb, o, rfl, hr⟩ := hs.addr (by omega)
  obtain ⟨q1, q2, q3⟩ := hs.len
  rw [bv_length] at q1
  have hn : ofB (Go.Proofs.YtjafamiaahabgaaDoor.win b 0 4) = decN b := rfl
  rw [hn]
  have hnl : decN b < 4294967296 := ofB4_lt b 0
  conv => whnf
  repeat (first | (refine RunH ?_; intro w hL hB; try clear w) | (refine Both.mk ?_ ?_ <;> conv => whnf) | fail)
  intro o1 n1 c1 p1 p2 p3 p4
  conv => whnf
  repeat (first | (refine RunH ?_; intro w hL hB; try clear w) | (refine Both.mk ?_ ?_ <;> conv => whnf) | fail)
  refine (get32w (hs.win (lo := 4) (n := b.length - 4) (by omega) (fun h => by have := p1 (by omega); omega) (by omega) (by omega)) (by omega) (by omega)).mono fun r w1 ⟨hr, hw⟩ => ?_
  subst hr; subst hw
  by_cases h5 : 1048576 < decN b
  · have he : decE b = 5 := by rw [decE, if_neg h8, if_pos h5]
    conv => whnf
    repeat (first | (refine RunH ?_; intro w hL hB; try clear w) | (refine Both.mk ?_ ?_ <;> conv => whnf) | fail)
    exact ⟨by simp [decPost, he], hL.below⟩
  by_cases h9 : b.length < 8 + decN b
  · have he : decE b = 2 := by rw [decE, if_neg h8, if_neg h5, if_pos h9]
    conv => whnf
    repeat (first | (refine RunH ?_; intro w hL hB; try clear w) | (refine Both.mk ?_ ?_ <;> conv => whnf) | fail)
    exact ⟨by simp [decPost, he], hL.below⟩
  have hpl : (decP b).length = decN b := win_len (by omega)
  have h4l : (Go.Proofs.YtjafamiaahabgaaDoor.win b 0 4).length = 4 := win_len (by omega)
  conv => whnf
  repeat (first | (refine RunH ?_; intro w hL hB; try clear w) | (refine Both.mk ?_ ?_ <;> conv => whnf) | fail)
  intro o2 n2 c2 p5 p6 p7 p8
  conv => whnf
  repeat (first | (refine RunH ?_; intro w hL hB; try clear w) | (refine Both.mk ?_ ?_ <;> conv => whnf) | fail)
  obtain rfl : n2 = decN b := by omega
  have hp2 : Sl w1 (.slice (some ⟨bb, o2, none⟩) (decN b) c2) (bv (decP b)) := hs.win (lo := 8) (n := decN b) (by omega) (fun h => by have := p5 (by omega); omega) (by omega) (by omega)
  intro n3 c3 p9 p10
  conv => whnf
  repeat (first | (refine RunH ?_; intro w hL hB; try clear w) | (refine Both.mk ?_ ?_ <;> conv => whnf) | fail)
  obtain rfl : n3 = 4 := by omega
  have hp3 : Sl w1 (.slice (some ⟨bb, o, none⟩) 4 c3) (bv (Go.Proofs.YtjafamiaahabgaaDoor.win b 0 4)) := by
    have := hs.take (k := 4) (by rw [bv_length]; omega) (c' := c3) (by omega) (by omega)
    rw [← bv_take] at this; exact this
  refine (clone_fn _ _ _ hp3 (by omega)).mono fun r w ⟨ho, hw⟩ => ?_
  replace hL := hL.addRow hB hw ho
  replace hB := Nat.le_trans hB hw.size
  clear ho hw
  obtain ⟨oa, oc, rfl⟩ := own_shape1 (show World.ownsRow _ 0 5 1 r _ _ from hL.at (i := 0) rfl)
  conv => whnf
  repeat (first | (refine RunH ?_; intro w hL hB; try clear w) | (refine Both.mk ?_ ?_ <;> conv => whnf) | fail)
  refine Rv.appendS ttOk hL tl23 tl5 rfl (by decide) 0 rfl (Sl.toN (hp2.below hL.below)) (bv_one _) (by simp only [maxLen, bv_length]; omega) (by rw [bv_length]; omega) hB fun vo w hL hB => ?_
  dsimp only [List.set] at hL
  rw [← bv_append, bv_length, ← List.length_append] at hL
  conv => whnf
  repeat (first | (refine RunH ?_; intro w hL hB; try clear w) | (refine Both.mk ?_ ?_ <;> conv => whnf) | fail)
  refine (sumw (hL.row (i := 0) rfl)).mono fun r2 w ⟨hr, hw⟩ => ?_
  subst hr
  replace hL := (hL.call hB (Turns.of_below hw)).tl
  replace hB := Nat.le_trans hB hw.size
  by_cases hc : crc (Go.Proofs.YtjafamiaahabgaaDoor.win b 0 4 ++ decP b) = ofB (Go.Proofs.YtjafamiaahabgaaDoor.win b 4 4)
  · have he : decE b = 0 := by rw [decE, if_neg h8, if_neg h5, if_neg h9, if_neg (fun h => h hc)]
    conv => whnf
    repeat (first | (refine RunH ?_; intro w hL hB; try clear w) | (refine Both.mk ?_ ?_ <;> conv => whnf) | fail)
    refine (clone_fn _ _ _ (hp2.below hL.below) (by omega)).mono fun r w ⟨ho, hw⟩ => ?_
    replace hL := hL.addRow hB hw ho
    replace hB := Nat.le_trans hB hw.size
    conv => whnf
    repeat (first | (refine RunH ?_; intro w hL hB; try clear w) | (refine Both.mk ?_ ?_ <;> conv => whnf) | fail)
    refine ⟨?_, hL.below⟩
    rw [decPost, if_pos he]
    refine ⟨by omega, hpl, _, rfl, ?_⟩
    rw [← hpl]
    exact own_raise (hL.at (i := 0) rfl) fun b hb => hL.own _ (List.mem_cons_self ..) b (mem_rowB.2 hb)
  · have he : decE b = 4 := by rw [decE, if_neg h8, if_neg h5, if_neg h9, if_pos hc]
    conv => whnf
    repeat (first | (refine RunH ?_; intro w hL hB; try clear w) | (refine Both.mk ?_ ?_ <;> conv => whnf) | fail)
    exact ⟨by simp [decPost, he], hL.below⟩

theorem put32n (v : Nat) (hv : v < 4294967296) (w : World) : Fn Tryd.prog 38 #[.int .u32 v] w fun r w' => w'.ownsRow w.heap.size 5 1 r (putB v 4).length (bv (putB v 4)) ∧ Below w.heap.size w w' :=
  (put32_fn v hv w).mono fun r w' ⟨h1, h2⟩ => ⟨by rw [putB_len]; exact h1, h2⟩
/-- a record -/
def encF (p : List UInt8) : List UInt8 := putB p.length 4 ++ putB (crc (putB p.length 4 ++ p)) 4 ++ p
theorem encF_len (p : List UInt8) : (encF p).length = 8 + p.length := by simp [encF, putB_len]; omega

set_option maxHeartbeats 4000000 in
theorem encode_fn (v : Value) (p : List UInt8) (hp : p.length ≤ 1048576) (w0 : World) (hs : Sl w0 v (bv p)) : Fn Tryd.prog 19 #[v] w0 fun r w' => ∃ u, r = .tuple #[u, .int .i64 0] ∧ w'.ownsRow w0.heap.size 5 1 u (encF p).length (bv (encF p)) ∧ Below w0.heap.size w0 w' := by
  obtain ⟨a, c, rfl⟩ := hs.shape
  simp only [bv_length] at *
  have hL := Sep.start Tryd.prog w0
  have hB := Nat.le_refl w0.heap.size
  refine Fn.mk Tryd.func19 rfl (by kernel_rfl) Tryd.ntmps19 rfl (by rw [Tryd.results19]) ?_
  repeat (first | (refine RunH ?_; intro w hL hB; try clear w) | (refine Both.mk ?_ ?_ <;> conv => whnf) | fail)
  refine (put32n p.length (by omega) _).mono fun r w ⟨ho, hw⟩ => ?_
  replace hL := hL.addRow hB hw ho
  replace hB := Nat.le_trans hB hw.size
  clear ho hw
  generalize hA : putB p.length 4 = A at *
  have hAl : A.length = 4 := by rw [← hA]; exact putB_len _ _
  obtain ⟨ra, rc, rfl⟩ := (show SlN w 1 r A.length _ from hL.rowN (i := 0) rfl).shape
  conv => whnf
  repeat (first | (refine RunH ?_; intro w hL hB; try clear w) | (refine Both.mk ?_ ?_ <;> conv => whnf) | fail)
  refine (clone_fn _ A _ (hL.row (i := 0) rfl) (by omega)).mono fun r w ⟨ho, hw⟩ => ?_
  replace hL := hL.addRow hB hw ho
  replace hB := Nat.le_trans hB hw.size
  clear ho hw
  obtain ⟨ra2, rc2, rfl⟩ := (show SlN w 1 r A.length _ from hL.rowN (i := 0) rfl).shape
  conv => whnf
  repeat (first | (refine RunH ?_; intro w hL hB; try clear w) | (refine Both.mk ?_ ?_ <;> conv => whnf) | fail)
  refine Rv.appendS ttOk hL tl23 tl5 rfl (by decide) 0 rfl (Sl.toN (hs.below hL.below)) (bv_one _) (by simp only [maxLen, bv_length]; omega) (by rw [bv_length]; omega) hB fun vo w hL hB => ?_
  dsimp only [List.set] at hL
  rw [← bv_append, bv_length, ← List.length_append] at hL
  conv => whnf
  repeat (first | (refine RunH ?_; intro w hL hB; try clear w) | (refine Both.mk ?_ ?_ <;> conv => whnf) | fail)
  refine (sumw (hL.row (i := 0) rfl)).mono fun r2 w ⟨hr, hw⟩ => ?_
  subst hr
  replace hL := (hL.call hB (Turns.of_below hw)).tl
  replace hB := Nat.le_trans hB hw.size
  have hcl := crc_lt (A ++ p)
  conv => whnf
  repeat (first | (refine RunH ?_; intro w hL hB; try clear w) | (refine Both.mk ?_ ?_ <;> conv => whnf) | fail)
  refine (put32n (crc (A ++ p)) hcl _).mono fun r w ⟨ho, hw⟩ => ?_
  replace hL := hL.addRow hB hw ho
  replace hB := Nat.le_trans hB hw.size
  clear ho hw
  have hQl : (putB (crc (A ++ p)) 4).length = 4 := putB_len _ _
  conv => whnf
  repeat (first | (refine RunH ?_; intro w hL hB; try clear w) | (refine Both.mk ?_ ?_ <;> conv => whnf) | fail)
  refine Rv.appendS ttOk hL tl23 tl5 rfl (by decide) 1 rfl (hL.rowN (i := 0) rfl) (bv_one _) (by simp only [maxLen]; omega) (by omega) hB fun vo w hL hB => ?_
  dsimp only [List.set] at hL
  rw [← bv_append, ← List.length_append] at hL
  have h8 : (A ++ putB (crc (A ++ p)) 4).length = 8 := by simp [hAl, putB_len]
  obtain ⟨ra3, rc3, rfl⟩ := (show SlN w 1 vo (A ++ putB (crc (A ++ p)) 4).length _ from hL.rowN (i := 1) rfl).shape
  conv => whnf
  repeat (first | (refine RunH ?_; intro w hL hB; try clear w) | (refine Both.mk ?_ ?_ <;> conv => whnf) | fail)
  refine Rv.appendS ttOk hL tl23 tl5 rfl (by decide) 1 rfl (Sl.toN (hs.below hL.below)) (bv_one _) (by simp only [maxLen, bv_length]; omega) (by rw [bv_length]; omega) hB fun vo w hL hB => ?_
  dsimp only [List.set] at hL
  rw [← bv_append, bv_length, ← List.length_append] at hL
  conv => whnf
  repeat (first | (refine RunH ?_; intro w hL hB; try clear w) | (refine Both.mk ?_ ?_ <;> conv => whnf) | fail)
  refine ⟨_, rfl, ?_, hL.below⟩
  have hr := hL.ownR (i := 1) rfl
  unfold encF
  rw [hA]
  exact hr

section
variable {p : List UInt8} (h : p.length ≤ 1048576)
include h
theorem dec_n : decN (encF p) = p.length := by
  unfold decN encF
  have e : Go.Proofs.YtjafamiaahabgaaDoor.win (putB p.length 4 ++ putB (crc (putB p.length 4 ++ p)) 4 ++ p) 0 4 = putB p.length 4 := by
    unfold Go.Proofs.YtjafamiaahabgaaDoor.win
    rw [List.drop_zero, List.append_assoc, List.take_left' (putB_len _ _)]
  rw [e, ofB_put4 _ (by omega)]
theorem dec_p : decP (encF p) = p := by
  unfold decP
  rw [dec_n h]
  unfold encF Go.Proofs.YtjafamiaahabgaaDoor.win
  rw [List.drop_left' (by simp [putB_len]), List.take_of_length_le (Nat.le_refl _)]
theorem dec_e : decE (encF p) = 0 := by
  have hl := encF_len p
  have e1 : Go.Proofs.YtjafamiaahabgaaDoor.win (encF p) 0 4 = putB p.length 4 := by
    unfold Go.Proofs.YtjafamiaahabgaaDoor.win encF
    rw [List.drop_zero, List.append_assoc, List.take_left' (putB_len _ _)]
  have e2 : Go.Proofs.YtjafamiaahabgaaDoor.win (encF p) 4 4 = putB (crc (putB p.length 4 ++ p)) 4 := by
    unfold Go.Proofs.YtjafamiaahabgaaDoor.win encF
    rw [List.append_assoc, List.drop_left' (putB_len _ _), List.take_left' (putB_len _ _)]
  unfold decE
  rw [dec_n h, dec_p h, e1, e2, ofB_put4 _ (crc_lt _), if_neg (by omega), if_neg (by omega), if_neg (by omega), if_neg (fun h => h rfl)]
end
end Go.Proofs.YtjafamiaahabgaaDoor
