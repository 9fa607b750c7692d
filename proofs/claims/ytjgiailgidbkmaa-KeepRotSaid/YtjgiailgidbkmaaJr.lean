/- KeepRot. Nothing is claimed here. -/
import Derived.Test.YtjgiailgidbkmaaJk
namespace Go.Proofs.Ytjgiailgidbkmaa
open Go.RowKit
open Go.Maps (Keyed)
set_option linter.unusedVariables false
set_option linter.unusedSimpArgs false
set_option maxRecDepth 100000

def nmf' : ByteArray := ⟨#[102]⟩
theorem dec_sum {b : List UInt8} (h : decE b = 0) : crc (Go.Proofs.Ytjgiailgidbkmaa.win b 0 4 ++ decP b) = ofB (Go.Proofs.Ytjgiailgidbkmaa.win b 4 4) := by
  unfold decE at h
  split at h
  · cases h
  split at h
  · cases h
  split at h
  · cases h
  split at h
  · cases h
  · rename_i hq; exact Classical.not_not.1 hq
theorem xor_ne {a by' : UInt8} (h : by' ≠ 0) : a ^^^ by' ≠ a := by
  intro h1
  apply h
  have : a ^^^ (a ^^^ by') = a ^^^ a := by rw [h1]
  rwa [← UInt8.xor_assoc, UInt8.xor_self, UInt8.zero_xor] at this
theorem tmod_at {a : Int} {n : Nat} (hn : 0 < n) : ∃ K : Nat, K < n ∧ ((0 ≤ a.tmod n ∧ a.tmod n = K) ∨ (a.tmod n < 0 ∧ a.tmod n + n = K)) := by
  have h1 := Int.tmod_lt_of_pos a (show (0 : Int) < n by omega)
  have h2 := Int.lt_tmod_of_pos a (show (0 : Int) < n by omega)
  by_cases h : 0 ≤ a.tmod n
  · exact ⟨(a.tmod n).toNat, by omega, .inl ⟨h, by omega⟩⟩
  · exact ⟨(a.tmod n + n).toNat, by omega, .inr ⟨by omega, by omega⟩⟩
/-- a byte that rots: what the record says is not said any more -/
theorem rot_dec {p : List UInt8} (hp : p.length ≤ 1048576) {k : Nat} (hk : k < (encF p).length) {z : UInt8} (hz : z ≠ (encF p)[k]) (h0 : decE ((encF p).set k z) = 0) : 8 + decN ((encF p).set k z) ≠ ((encF p).set k z).length := by
  intro hn
  have hl := encF_len p
  rw [List.length_set, hl] at hn
  have hs := dec_sum h0
  have hs0 := dec_sum (dec_e hp)
  have hp0 := dec_p hp
  have hw : ∀ a n (j : Nat) (hj : j < n) (ha : a + n ≤ (encF p).length) (h : j < (Go.Proofs.Ytjgiailgidbkmaa.win (encF p) a n).length), (Go.Proofs.Ytjgiailgidbkmaa.win (encF p) a n)[j]'h = (encF p)[a + j]'(by omega) := fun a n j hj ha h => by
    simp [Go.Proofs.Ytjgiailgidbkmaa.win]
  by_cases h4 : k < 4
  · have h1 : decN ((encF p).set k z) ≠ decN (encF p) := by
      unfold decN
      rw [win_set, if_pos ⟨by omega, by omega⟩]
      have hwl : (Go.Proofs.Ytjgiailgidbkmaa.win (encF p) 0 4).length = 4 := win_len (by omega)
      refine ofB_set (by rw [hwl]; omega) ?_
      rw [hw 0 4 (k - 0) (by omega) (by omega)]
      simpa using hz
    rw [dec_n hp] at h1
    omega
  · have hd : decP ((encF p).set k z) = Go.Proofs.Ytjgiailgidbkmaa.win ((encF p).set k z) 8 p.length := by unfold decP; rw [show decN ((encF p).set k z) = p.length by omega]
    have hd0 : decP (encF p) = Go.Proofs.Ytjgiailgidbkmaa.win (encF p) 8 p.length := by unfold decP; rw [dec_n hp]
    rw [hd] at hs
    rw [hd0] at hs0
    rw [win_set, if_neg (by omega)] at hs
    by_cases h8 : k < 8
    · rw [win_set, if_neg (by omega), win_set, if_pos ⟨by omega, by omega⟩, hs0] at hs
      have hwl : (Go.Proofs.Ytjgiailgidbkmaa.win (encF p) 4 4).length = 4 := win_len (by omega)
      refine ofB_set (i := k - 4) (by rw [hwl]; omega) ?_ hs.symm
      rw [hw 4 4 (k - 4) (by omega) (by omega)]
      have : 4 + (k - 4) = k := by omega
      simpa [this] using hz
    · rw [win_set, if_pos ⟨by omega, by omega⟩, win_set, if_neg (by omega), ← hs0] at hs
      have h4l : (Go.Proofs.Ytjgiailgidbkmaa.win (encF p) 0 4).length = 4 := win_len (by omega)
      have hwl : (Go.Proofs.Ytjgiailgidbkmaa.win (encF p) 8 p.length).length = p.length := win_len (by omega)
      have e : Go.Proofs.Ytjgiailgidbkmaa.win (encF p) 0 4 ++ (Go.Proofs.Ytjgiailgidbkmaa.win (encF p) 8 p.length).set (k - 8) z = (Go.Proofs.Ytjgiailgidbkmaa.win (encF p) 0 4 ++ Go.Proofs.Ytjgiailgidbkmaa.win (encF p) 8 p.length).set (4 + (k - 8)) z := by
        rw [List.set_append, if_neg (by omega)]
        congr 2
        omega
      rw [e] at hs
      refine crc_set (i := 4 + (k - 8)) (by rw [List.length_append]; omega) ?_ hs
      rw [List.getElem_append_right (by omega), hw 8 p.length _ (by omega) (by omega)]
      have : 8 + (4 + (k - 8) - (Go.Proofs.Ytjgiailgidbkmaa.win (encF p) 0 4).length) = k := by omega
      simpa [this] using hz
theorem rot_load {p : List UInt8} (hp : p.length ≤ 1048576) {k : Nat} (hk : k < (encF p).length) {x : UInt8} (hx : x ≠ 0) {nm : ByteArray} {la : Nat} : loadE (rotS [⟨nm, encF p, la⟩] nm (k : Int) x) nm ≠ 0 := by
  have hg := get_one ⟨nm, encF p, la⟩
  have e : rotS [⟨nm, encF p, la⟩] nm (k : Int) x = [⟨nm, (encF p).set k ((encF p)[k] ^^^ x), la⟩] := by
    rw [rotS, hg]
    dsimp only
    rw [if_neg (by omega), Int.toNat_natCast, rotL]
    simp [putS, List.getD_eq_getElem?_getD, List.getElem?_eq_getElem hk]
  rw [e, loadE, get_one ⟨nm, (encF p).set k ((encF p)[k] ^^^ x), la⟩]
  dsimp only
  by_cases h0 : decE ((encF p).set k ((encF p)[k] ^^^ x)) = 0
  · rw [if_neg (fun h => h h0), if_pos (rot_dec hp hk (xor_ne hx) h0)]
    decide
  · rw [if_pos h0]
    exact h0
set_option maxHeartbeats 8000000 in
theorem keepRot_fn (v1 : Value) (l1 : List UInt8) (at_ by_ : Int) (w0 : World) (h1 : Sl w0 v1 (bv l1)) (hat : (Lit.int .i64 at_).wf = true) (hby : (Lit.int .u8 by_).wf = true) (hx1 : l1.length ≤ 140737488355328) :
    Fn Try.prog 5 #[v1, .int .i64 at_, .int .u8 by_] w0 fun r w' => r = .bool true ∧ Below w0.heap.size w0 w' := by
  have hatw := i64_wf hat
  obtain ⟨x, rfl⟩ := u8_wf hby
  have hL := Sep.start Try.prog w0
  have hB := Nat.le_refl w0.heap.size
  obtain ⟨a1, c1, rfl⟩ := h1.shape
  simp only [bv_length] at *
  refine Fn.mk Try.func5 rfl (by kernel_rfl) Try.ntmps5 rfl (by rw [Try.results5]) ?_
  by_cases hbig : 8000 < l1.length
  · repeat (first | (refine RunH ?_; intro w hL hB; try clear w) | (refine Both.mk ?_ ?_ <;> conv => whnf) | fail)
    exact ⟨rfl, hL.below⟩
  by_cases hz : x.toNat = 0
  · repeat (first | (refine RunH ?_; intro w hL hB; try clear w) | (refine Both.mk ?_ ?_ <;> conv => whnf) | fail)
    exact ⟨rfl, hL.below⟩
  have hx0 : x ≠ 0 := fun h => hz (by rw [h]; rfl)
  have p1 : ∀ {L : List Res} (w' : World), Sep Try.prog w0.heap.size w0 w' L → Sl w' (.slice a1 l1.length c1) (bv l1) := fun w' h => h.sl h1 rfl
  have hok : 1 ≤ nmf'.size ∧ nmf'.size ≤ 63 := by decide
  have q1 : nmf'.size ≤ 1000000 := by decide
  repeat (first | (refine RunH ?_; intro w hL hB; try clear w) | (refine Both.mk ?_ ?_ <;> conv => whnf) | fail)
  refine (new_fn 1048576 hL hB).mono fun r w hr => ?_
  obtain ⟨b, rfl, hD⟩ := hr.1 (by omega)
  clear hr
  obtain ⟨dL, hL, hB, close⟩ := hD.open
  clear hD
  conv => whnf
  repeat (first | (refine RunH ?_; intro w hL hB; try clear w) | (refine Both.mk ?_ ?_ <;> conv => whnf) | fail)
  refine (save_fn nmf' q1 _ l1 (by omega) p1 (close (F' := []) hL hB)).mono fun r w ⟨hr, hD⟩ => ?_
  subst hr
  clear close hL hB
  have e1 := (save_one (room := (1048576 : Int).toNat) (S := []) (nm := nmf') (xs := l1) (.inl rfl) hok).1 (by simp [totS]; omega)
  rw [e1.2] at hD
  rw [e1.1]
  obtain ⟨dL, hL, hB, close⟩ := hD.open
  conv => whnf
  repeat (first | (refine RunH ?_; intro w hL hB; try clear w) | (refine Both.mk ?_ ?_ <;> conv => whnf) | fail)
  refine (size_fn nmf' q1 (close (F' := []) hL hB)).mono fun r w ⟨hr, hD⟩ => ?_
  subst hr
  clear close hL hB
  rw [get_one ⟨nmf', encF l1, (encF l1).length⟩]
  have hel := encF_len l1
  dsimp only
  generalize hn : (encF l1).length = n at *
  obtain ⟨dL, hL, hB, close⟩ := hD.open
  conv => whnf
  repeat (first | (refine RunH ?_; intro w hL hB; try clear w) | (refine Both.mk ?_ ?_ <;> conv => whnf) | fail)
  refine ⟨⟨by omega, ?_⟩⟩
  obtain ⟨K, hK, hKt⟩ := tmod_at (a := at_) (n := n) (by omega)
  have hrot := rot_load (p := l1) (by omega) (k := K) (by omega) hx0 (nm := nmf') (la := n)
  generalize at_.tmod n = T at *
  conv => whnf
  rcases hKt with ⟨t1, rfl⟩ | ⟨t1, t2⟩ <;> (
    repeat (first | (refine RunH ?_; intro w hL hB; try clear w) | (refine Both.mk ?_ ?_ <;> conv => whnf) | fail)
    try rw [t2]
    refine (rot_fn nmf' q1 _ x (close (F' := []) hL hB)).mono fun r w ⟨hr, hD⟩ => ?_
    subst hr
    clear close hL hB
    generalize hS : rotS [⟨nmf', encF l1, n⟩] nmf' (K : Int) x = S at *
    generalize rotE [⟨nmf', encF l1, n⟩] nmf' (K : Int) = er at *
    obtain ⟨dL, hL, hB, close⟩ := hD.open
    conv => whnf
    repeat (first | (refine RunH ?_; intro w hL hB; try clear w) | (refine Both.mk ?_ ?_ <;> conv => whnf) | fail)
    refine (load_fn nmf' q1 (close (F' := []) hL hB)).mono fun r w hD => ?_
    clear close hL hB
    rw [loadPost, if_neg hrot] at hD
    generalize loadE S nmf' = eL at *
    obtain ⟨rfl, hD⟩ := hD
    obtain ⟨dL, hL, hB, close⟩ := hD.open
    conv => whnf
    repeat (first | (refine RunH ?_; intro w hL hB; try clear w) | (refine Both.mk ?_ ?_ <;> conv => whnf) | (refine Br.no (by simp; omega) ?_; conv => whnf) | (refine Br.yes (by simp; omega) ?_; conv => whnf) | (refine (known_fn _).mono fun r w hr => ?_; obtain ⟨hr, hw⟩ := hr; subst hr; replace hL := hL.call hB (Turns.of_below hw); replace hB := Nat.le_trans hB hw.size; conv => whnf) | fail)
    exact ⟨rfl, hL.below⟩)
end Go.Proofs.Ytjgiailgidbkmaa
