/- needle: Encode. Nothing is claimed here. -/
import Derived.Test.YtpkealgeigpjpaaDoorNa
namespace Go.Proofs.YtpkealgeigpjpaaDoor
open Go.RowKit
set_option linter.unusedVariables false
set_option linter.unusedSimpArgs false
set_option maxRecDepth 100000

def encNE (dead : Bool) (n : Nat) : Nat := if dead = true ∧ 0 < n then 1 else if 65536 < n then 5 else 0
set_option maxHeartbeats 4000000 in
theorem encN_bad (key cook : Nat) (dead : Bool) (v : Value) (d : List UInt8) (w0 : World) (hs : Sl w0 v (bv d)) (hE : encNE dead d.length ≠ 0) :
    Fn Tryd.prog 29 #[.agg (ndC key cook dead v).toArray] w0 fun r w' => r = .tuple #[.slice none 0 0, .int .i64 (encNE dead d.length : Nat)] ∧ Below w0.heap.size w0 w' := by
  have hL := Sep.start Tryd.prog w0
  have hB := Nat.le_refl w0.heap.size
  have hle := hs.le
  obtain ⟨va, vc, rfl⟩ := hs.shape
  simp only [bv_length] at *
  rw [ndC]
  by_cases h1 : dead = true ∧ 0 < d.length
  · have e1 : encNE dead d.length = 1 := if_pos h1
    obtain ⟨rfl, h1⟩ := h1
    rw [e1]
    refine Fn.mk Tryd.func29 rfl (by kernel_rfl) Tryd.ntmps29 rfl (by rw [Tryd.results29]) ?_
    repeat (first | (refine RunH ?_; intro w hL hB; try clear w) | (refine Both.mk ?_ ?_ <;> conv => whnf) | fail)
    (refine Nw.sep hL hB (fun t1 w hL hB ht1 => ?_); conv => whnf)
    repeat (first | (refine RunH ?_; intro w hL hB; try clear w) | (refine Both.mk ?_ ?_ <;> conv => whnf) | fail)
    exact ⟨rfl, hL.below⟩
  by_cases h2 : 65536 < d.length
  · have e1 : encNE dead d.length = 5 := by rw [encNE, if_neg h1, if_pos h2]
    obtain rfl : dead = false := by cases dead; rfl; exact absurd ⟨rfl, by omega⟩ h1
    rw [e1]
    refine Fn.mk Tryd.func29 rfl (by kernel_rfl) Tryd.ntmps29 rfl (by rw [Tryd.results29]) ?_
    repeat (first | (refine RunH ?_; intro w hL hB; try clear w) | (refine Both.mk ?_ ?_ <;> conv => whnf) | fail)
    (refine Nw.sep hL hB (fun t1 w hL hB ht1 => ?_); conv => whnf)
    repeat (first | (refine RunH ?_; intro w hL hB; try clear w) | (refine Both.mk ?_ ?_ <;> conv => whnf) | fail)
    exact ⟨rfl, hL.below⟩
  exact absurd (by rw [encNE, if_neg h1, if_neg h2]) hE
set_option maxHeartbeats 4000000 in
theorem encN_fn (key cook : Nat) (dead : Bool) (v : Value) (d : List UInt8) (hk : key < 18446744073709551616) (hc : cook < 4294967296) (w0 : World) (hs : Sl w0 v (bv d)) (hE : encNE dead d.length = 0) :
    Fn Tryd.prog 29 #[.agg (ndC key cook dead v).toArray] w0 fun r w' => ∃ u, r = .tuple #[u, .int .i64 0] ∧ w'.ownsRow w0.heap.size 5 1 u (encN key cook dead d).length (bv (encN key cook dead d)) ∧ Below w0.heap.size w0 w' := by
  have hL := Sep.start Tryd.prog w0
  have hB := Nat.le_refl w0.heap.size
  have hle := hs.le
  obtain ⟨va, vc, rfl⟩ := hs.shape
  simp only [bv_length] at *
  have h1 : ¬ (dead = true ∧ 0 < d.length) := fun h => by rw [encNE, if_pos h] at hE; cases hE
  have h2 : ¬ 65536 < d.length := fun h => by rw [encNE, if_neg h1, if_pos h] at hE; cases hE
  have hsz := szN_le d.length
  have e24 := hd24_len key cook dead d.length
  have hend : (hd24 key cook dead d.length ++ d ++ putB (crc d) 4 ++ List.replicate (szN d.length - (28 + d.length)) 0) = encN key cook dead d := rfl
  have hnl := encN_len key cook dead d
  generalize encN key cook dead d = E at *
  have hhead := ndHead_fn key cook dead (.slice va d.length vc) d.length hk hc (by omega)
  have hsize := ndSize_fn (d.length : Int) (by omega)
  rw [Int.toNat_natCast] at hsize
  generalize szN d.length = N at *
  generalize hd24 key cook dead d.length = G at *
  have run : ∀ dd : Bool, dd = dead → True := fun _ _ => trivial
  rw [ndC] at *
  cases dead <;> (
    refine Fn.mk Tryd.func29 rfl (by kernel_rfl) Tryd.ntmps29 rfl (by rw [Tryd.results29]) ?_
    repeat (first | (refine RunH ?_; intro w hL hB; try clear w) | (refine Both.mk ?_ ?_ <;> conv => whnf) | fail)
    (refine Nw.sep hL hB (fun t1 w hL hB ht1 => ?_); conv => whnf)
    repeat (first | (refine RunH ?_; intro w hL hB; try clear w) | (refine Both.mk ?_ ?_ <;> conv => whnf) | (refine Br.f ?_ (by first | omega | (simp; omega) | (intro h; exact h1 ⟨rfl, by omega⟩)); conv => whnf) | fail)
    refine (hhead _).mono fun r w ⟨hr, hw⟩ => ?_
    subst hr
    replace hL := hL.call hB (Turns.of_below hw)
    replace hB := Nat.le_trans hB hw.size
    conv => whnf
    (refine Nw.sep hL hB (fun t4 w hL hB ht4 => ?_); conv => whnf)
    repeat (first | (refine RunH ?_; intro w hL hB; try clear w) | (refine Both.mk ?_ ?_ <;> conv => whnf) | fail)
    refine St.blkW ttOk hL 0 tl93 (by rw [bv_length]; exact e24) (bv_one _) rfl (by rw [bv_length, e24]; rfl) hB fun w hL hB => ?_
    dsimp only [List.set] at hL
    conv => whnf
    repeat (first | (refine RunH ?_; intro w hL hB; try clear w) | (refine Both.mk ?_ ?_ <;> conv => whnf) | fail)
    refine (hsize _).mono fun r w' ⟨hr, hw⟩ => ?_
    subst hr; subst hw
    conv => whnf
    repeat (first | (refine RunH ?_; intro w hL hB; try clear w) | (refine Both.mk ?_ ?_ <;> conv => whnf) | fail)
    refine Rv.makeS ttOk hL N N tl23 tl5 rfl rfl rfl (Nat.le_refl _) (by omega) (by simp only [maxLen]; omega) hB fun g w hL hB => ?_
    replace hL := hL.saidN 0 rfl (R' := .row 5 1 (.slice (some ⟨g, 0, none⟩) N N) N (bv ([] ++ List.replicate N 0))) (by
      have := hL.at (i := 0) rfl
      have e : bv ([] ++ List.replicate N 0) = List.replicate N (.int .u8 0) := by simp [bv, u8]
      rw [e]; exact this) rfl
    dsimp only [List.set] at hL
    conv => whnf
    repeat (first | (refine RunH ?_; intro w hL hB; try clear w) | (refine Both.mk ?_ ?_ <;> conv => whnf) | fail)
    intro n1 c1 z1 z2
    obtain ⟨rfl, rfl⟩ : n1 = 24 ∧ c1 = 24 := by omega
    conv => whnf
    repeat (first | (refine RunH ?_; intro w hL hB; try clear w) | (refine Both.mk ?_ ?_ <;> conv => whnf) | fail)
    have hsl := sl_blk (o := 0) (n := 24) (c := 24) (hL.blk (i := 1) rfl) (by rw [bv_length, e24]; decide) (by decide) (by decide)
    rw [List.drop_zero, List.take_of_length_le (by rw [bv_length, e24]; decide)] at hsl
    refine Rv.copyR ttOk hL 0 tl23 tl5 rfl hsl (bv_one _) (by omega) hB fun w hL hB => ?_
    dsimp only [List.set] at hL
    rw [List.take_of_length_le (by rw [bv_length, e24]; omega), splice_tail _ _ N (N - 24) 0 rfl (by omega), List.nil_append] at hL
    rw [bv_length, e24, Nat.min_eq_right (by omega)]
    conv => whnf
    repeat (first | (refine RunK ?_; intro w hL hB; try clear w) | (refine V.treeP ttOk hL 0 (.q 0 (.q 1 (.q 2 (.q 3 (.q 4 (.q 5 (.alt 6 (.q 7 (.q 8 .nil)) .stop))))))) mixed (by decide +kernel) ?_; replace hL := hL.drew; conv => whnf) | (refine V.tailA ttOk mixed (by decide +kernel) ?_; replace hL := hL.drew; conv => whnf) | (refine Both.mk ?_ ?_ <;> conv => whnf) | fail)
    intro o1 n1 c1 z1 z2 z3 z4
    obtain ⟨rfl, rfl, rfl⟩ : o1 = 24 ∧ n1 = N - 24 ∧ c1 = N - 24 := by omega
    conv => whnf
    repeat (first | (refine RunH ?_; intro w hL hB; try clear w) | (refine Both.mk ?_ ?_ <;> conv => whnf) | fail)
    refine Rv.copyR ttOk hL 0 tl23 tl5 rfl (hs.below hL.below) (bv_one _) (by omega) hB fun w hL hB => ?_
    dsimp only [List.set] at hL
    rw [List.take_of_length_le (by rw [bv_length]; omega), splice_tail _ _ (N - 24) (N - 24 - d.length) 24 e24.symm (by omega)] at hL
    rw [bv_length, Nat.min_eq_right (by omega)]
    conv => whnf
    repeat (first | (refine RunH ?_; intro w hL hB; try clear w) | (refine Both.mk ?_ ?_ <;> conv => whnf) | fail)
    repeat (first | (refine RunK ?_; intro w hL hB; try clear w) | (refine V.treeP ttOk hL 0 (.q 0 (.q 1 (.q 2 (.q 3 (.q 4 (.alt 5 (.alt 6 (.alt 7 .nil .stop) .stop) .stop)))))) mixed (by decide +kernel) ?_; replace hL := hL.drew; conv => whnf) | (refine V.tailA ttOk mixed (by decide +kernel) ?_; replace hL := hL.drew; conv => whnf) | (refine Both.mk ?_ ?_ <;> conv => whnf) | fail)
    intro o1 n1 c1 z1 z2 z3 z4
    obtain ⟨rfl, rfl, rfl⟩ : o1 = 24 + d.length ∧ n1 = N - (24 + d.length) ∧ c1 = N - (24 + d.length) := by omega
    conv => whnf
    repeat (first | (refine RunH ?_; intro w hL hB; try clear w) | (refine Both.mk ?_ ?_ <;> conv => whnf) | fail)
    refine (sum_fn _ d _ (hs.below hL.below)).mono fun r2 w ⟨hr, hw⟩ => ?_
    subst hr
    replace hL := hL.call hB (Turns.of_below hw)
    replace hB := Nat.le_trans hB hw.size
    conv => whnf
    repeat (first | (refine RunH ?_; intro w hL hB; try clear w) | (refine Both.mk ?_ ?_ <;> conv => whnf) | fail)
    refine (put32m _ (crc_lt _) _).mono fun r w ⟨ho, hw⟩ => ?_
    replace hL := hL.addRow hB hw ho
    replace hB := Nat.le_trans hB hw.size
    obtain ⟨ra, rc, rfl⟩ := (show SlN w 1 r _ _ from hL.rowN (i := 0) rfl).shape
    rw [putB_len]
    conv => whnf
    repeat (first | (refine RunH ?_; intro w hL hB; try clear w) | (refine Both.mk ?_ ?_ <;> conv => whnf) | fail)
    refine Rv.copyR ttOk hL 1 tl23 tl5 rfl (by have := hL.row (i := 0) rfl; rwa [putB_len] at this) (bv_one _) (by omega) hB fun w hL hB => ?_
    dsimp only [List.set] at hL
    rw [List.take_of_length_le (by rw [bv_length, putB_len]; omega), splice_tail _ _ _ (N - (28 + d.length)) (24 + d.length) (by rw [List.length_append, e24]) (by rw [putB_len]; omega), hend] at hL
    replace hL := hL.tl
    conv => whnf
    repeat (first | (refine RunH ?_; intro w hL hB; try clear w) | (refine Both.mk ?_ ?_ <;> conv => whnf) | fail)
    refine ⟨_, rfl, ?_, hL.below⟩
    rw [hnl]
    exact hL.ownR (i := 0) rfl)
end Go.Proofs.YtpkealgeigpjpaaDoor
