/- volume: read, Get. Nothing is claimed here. -/
import Derived.Test.YtpkealgeigpjpaaDoorUc
namespace Go.Proofs.YtpkealgeigpjpaaDoor
open Go.RowKit
open Go.Maps (Keyed)
set_option linter.unusedVariables false
set_option linter.unusedSimpArgs false
set_option maxRecDepth 100000

def rec (f : List UInt8) (p : Pc) : List UInt8 := Go.Proofs.YtpkealgeigpjpaaDoor.win f p.at_ p.n
/-- the record stands there as it was put -/
def readOk (f : List UInt8) (p : Pc) : Prop := p.at_ + p.n ≤ f.length ∧ dE (rec f p) = 0 ∧ szN (dSize (rec f p)) = p.n ∧ dKey (rec f p) = p.key ∧ dCook (rec f p) = p.cook ∧ dDead (rec f p) = p.dead
instance (f : List UInt8) (p : Pc) : Decidable (readOk f p) := by unfold readOk; infer_instance
def readPost (f : List UInt8) (p : Pc) (r : Value) (w w' : World) : Prop :=
  (readOk f p → ∃ u, r = .tuple #[.agg (ndC p.key p.cook p.dead u).toArray, .bool true] ∧ w'.ownsRow w.heap.size 5 1 u (dData (rec f p)).length (bv (dData (rec f p)))) ∧
  (¬ readOk f p → ∃ (k c : Int) (d : Bool) (a : Option Addr) (n cp : Nat), r = .tuple #[.agg #[.int .u64 k, .int .u32 c, .bool d, .slice a n cp], .bool false])
set_option maxHeartbeats 8000000 in
theorem vread_fn (vv fv : Value) (f : List UInt8) (p : Pc) (hp : p.at_ ≤ 1073741824 ∧ 28 ≤ p.n ∧ p.n ≤ 1073741824) (w0 : World) (hs : Sl w0 fv (bv f)) :
    Fn Tryd.prog 37 #[vv, fv, pcV p] w0 fun r w' => readPost f p r w0 w' ∧ Below w0.heap.size w0 w' := by
  have hL := Sep.start Tryd.prog w0
  have hB := Nat.le_refl w0.heap.size
  have hle := hs.le
  obtain ⟨key, at_, n, cook, dead⟩ := p
  obtain ⟨va, vc, rfl⟩ := hs.shape
  simp only [bv_length] at *
  have hok : readOk f ⟨key, at_, n, cook, dead⟩ = (at_ + n ≤ f.length ∧ dE (rec f ⟨key, at_, n, cook, dead⟩) = 0 ∧ szN (dSize (rec f ⟨key, at_, n, cook, dead⟩)) = n ∧ dKey (rec f ⟨key, at_, n, cook, dead⟩) = key ∧ dCook (rec f ⟨key, at_, n, cook, dead⟩) = cook ∧ dDead (rec f ⟨key, at_, n, cook, dead⟩) = dead) := rfl
  have hpost : ∀ {r : Value} {w' : World}, readPost f ⟨key, at_, n, cook, dead⟩ r w0 w' = ((readOk f ⟨key, at_, n, cook, dead⟩ → ∃ u, r = .tuple #[.agg (ndC key cook dead u).toArray, .bool true] ∧ w'.ownsRow w0.heap.size 5 1 u (dData (rec f ⟨key, at_, n, cook, dead⟩)).length (bv (dData (rec f ⟨key, at_, n, cook, dead⟩)))) ∧
    (¬ readOk f ⟨key, at_, n, cook, dead⟩ → ∃ (k c : Int) (d : Bool) (a : Option Addr) (n cp : Nat), r = .tuple #[.agg #[.int .u64 k, .int .u32 c, .bool d, .slice a n cp], .bool false])) := rfl
  simp only [hpost]
  rw [pcV, pcC]
  dsimp only
  generalize hW : rec f ⟨key, at_, n, cook, dead⟩ = W at *
  generalize hR : readOk f ⟨key, at_, n, cook, dead⟩ = R at *
  by_cases hlen : at_ + n ≤ f.length
  case neg =>
    have hnR : ¬ R := fun h => by rw [hok] at h; exact hlen h.1
    refine Fn.mk Tryd.func37 rfl (by kernel_rfl) Tryd.ntmps37 rfl (by rw [Tryd.results37]) ?_
    repeat (first | (refine RunH ?_; intro w hL hB; try clear w) | (refine Both.mk ?_ ?_ <;> conv => whnf) | fail)
    (refine Nw.sep hL hB (fun t5 w hL hB ht5 => ?_); conv => whnf)
    repeat (first | (refine RunH ?_; intro w hL hB; try clear w) | (refine Both.mk ?_ ?_ <;> conv => whnf) | fail)
    (refine Nw.sep hL hB (fun t6 w hL hB ht6 => ?_); conv => whnf)
    repeat (first | (refine RunH ?_; intro w hL hB; try clear w) | (refine Both.mk ?_ ?_ <;> conv => whnf) | fail)
    exact ⟨⟨fun h => absurd h hnR, fun _ => ⟨_, _, _, _, _, _, rfl⟩⟩, hL.below⟩
  have hW' : W = Go.Proofs.YtpkealgeigpjpaaDoor.win f at_ n := hW.symm
  have hWl : W.length = n := by rw [hW']; exact win_len (by omega)
  obtain ⟨bb, o, rfl, hrow⟩ := hs.addr (by omega)
  have hlc := hs.len
  simp only [bv_length] at hlc
  have p1 : ∀ {L : List Res} (w' : World), Sep Tryd.prog w0.heap.size w0 w' L → ∀ (o' n' c' : Nat), o' = o + at_ → n' = n → n ≤ c' → c' + at_ ≤ vc → Sl w' (.slice (some ⟨bb, o', none⟩) n' c') (bv W) := fun w' h o' n' c' e1 e2 e3 e4 => by
    subst e1; subst e2
    have := ((h.sl hs rfl).drop (k := at_) (o' := o + at_) (n' := f.length - at_) (c' := vc - at_) (by rw [bv_length]; omega) (by omega) (by omega) (by omega)).take (k := n') (c' := c') (by simp; omega) (by omega) (by omega)
    rw [hW', Go.Proofs.YtpkealgeigpjpaaDoor.win, bv_take, bv_drop]
    exact this
  refine Fn.mk Tryd.func37 rfl (by kernel_rfl) Tryd.ntmps37 rfl (by rw [Tryd.results37]) ?_
  repeat (first | (refine RunH ?_; intro w hL hB; try clear w) | (refine Both.mk ?_ ?_ <;> conv => whnf) | fail)
  (refine Nw.sep hL hB (fun t5 w hL hB ht5 => ?_); conv => whnf)
  repeat (first | (refine RunH ?_; intro w hL hB; try clear w) | (refine Both.mk ?_ ?_ <;> conv => whnf) | fail)
  (refine Nw.sep hL hB (fun t6 w hL hB ht6 => ?_); conv => whnf)
  repeat (first | (refine RunH ?_; intro w hL hB; try clear w) | (refine Both.mk ?_ ?_ <;> conv => whnf) | fail)
  intro o1 n1 c1 z1 z2 z3 z4
  obtain rfl : n1 = n := by omega
  conv => whnf
  repeat (first | (refine RunH ?_; intro w hL hB; try clear w) | (refine Both.mk ?_ ?_ <;> conv => whnf) | fail)
  refine (decNeedle_fn _ W _ (p1 _ hL _ _ _ (by omega) rfl (by omega) (by omega))).mono fun r w ⟨hr, hw⟩ => ?_
  rcases hr with ⟨hE, rfl⟩ | ⟨hE, rfl⟩ | ⟨hE, u, rfl, ho⟩
  · have hnR : ¬ R := fun h => by rw [hok] at h; omega
    replace hL := hL.call hB (Turns.of_below hw)
    replace hB := Nat.le_trans hB hw.size
    rw [zeroN]
    conv => whnf
    repeat (first | (refine RunH ?_; intro w hL hB; try clear w) | (refine Both.mk ?_ ?_ <;> conv => whnf) | fail)
    (refine Nw.sep hL hB (fun t8 w hL hB ht8 => ?_); conv => whnf)
    repeat (first | (refine RunK ?_; intro w hL hB; try clear w) | (refine V.treeS ttOk hL 0 (b := t6) rfl (.q 0 (.q 1 (.q 2 (.q 3 (.q 4 (.q 5 (.q 6 (.q 7 (.q 8 (.q 9 (.q 10 (.q 11 (.q 12 (.q 13 (.q 14 (.q 15 (.q 16 (.q 17 (.q 18 (.q 19 (.q 20 (.q 21 (.q 22 (.q 23 (.q 24 (.q 25 (.q 26 (.q 27 (.q 28 (.q 29 (.alt 30 (.q 31 .nil) .stop))))))))))))))))))))))))))))))) mixed (by decide +kernel) ?_; replace hL := hL.drew; conv => whnf) | (refine V.treeS ttOk hL 1 (b := t6) rfl (.q 0 (.q 1 (.q 2 (.q 3 (.q 4 (.q 5 (.q 6 (.q 7 (.q 8 (.q 9 (.q 10 (.q 11 (.q 12 (.q 13 (.q 14 (.q 15 (.q 16 (.q 17 (.q 18 (.q 19 (.q 20 (.q 21 (.q 22 (.q 23 (.q 24 (.q 25 (.q 26 (.q 27 (.q 28 (.q 29 (.alt 30 (.q 31 .nil) .stop))))))))))))))))))))))))))))))) mixed (by decide +kernel) ?_; replace hL := hL.drew; conv => whnf) | (refine V.treeS ttOk hL 2 (b := t6) rfl (.q 0 (.q 1 (.q 2 (.q 3 (.q 4 (.q 5 (.q 6 (.q 7 (.q 8 (.q 9 (.q 10 (.q 11 (.q 12 (.q 13 (.q 14 (.q 15 (.q 16 (.q 17 (.q 18 (.q 19 (.q 20 (.q 21 (.q 22 (.q 23 (.q 24 (.q 25 (.q 26 (.q 27 (.q 28 (.q 29 (.alt 30 (.q 31 .nil) .stop))))))))))))))))))))))))))))))) mixed (by decide +kernel) ?_; replace hL := hL.drew; conv => whnf) | (refine V.treeS ttOk hL 3 (b := t6) rfl (.q 0 (.q 1 (.q 2 (.q 3 (.q 4 (.q 5 (.q 6 (.q 7 (.q 8 (.q 9 (.q 10 (.q 11 (.q 12 (.q 13 (.q 14 (.q 15 (.q 16 (.q 17 (.q 18 (.q 19 (.q 20 (.q 21 (.q 22 (.q 23 (.q 24 (.q 25 (.q 26 (.q 27 (.q 28 (.q 29 (.alt 30 (.q 31 .nil) .stop))))))))))))))))))))))))))))))) mixed (by decide +kernel) ?_; replace hL := hL.drew; conv => whnf) | (refine V.treeS ttOk hL 4 (b := t6) rfl (.q 0 (.q 1 (.q 2 (.q 3 (.q 4 (.q 5 (.q 6 (.q 7 (.q 8 (.q 9 (.q 10 (.q 11 (.q 12 (.q 13 (.q 14 (.q 15 (.q 16 (.q 17 (.q 18 (.q 19 (.q 20 (.q 21 (.q 22 (.q 23 (.q 24 (.q 25 (.q 26 (.q 27 (.q 28 (.q 29 (.alt 30 (.q 31 .nil) .stop))))))))))))))))))))))))))))))) mixed (by decide +kernel) ?_; replace hL := hL.drew; conv => whnf) | (refine V.tailA ttOk mixed (by decide +kernel) ?_; replace hL := hL.drew; conv => whnf) | (refine Both.mk ?_ ?_ <;> conv => whnf) | fail)
    exact ⟨⟨fun h => absurd h hnR, fun _ => ⟨_, _, _, _, _, _, rfl⟩⟩, hL.below⟩
  · have hnR : ¬ R := fun h => by rw [hok] at h; omega
    replace hL := hL.call hB (Turns.of_below hw)
    replace hB := Nat.le_trans hB hw.size
    rw [ndC]
    conv => whnf
    repeat (first | (refine RunH ?_; intro w hL hB; try clear w) | (refine Both.mk ?_ ?_ <;> conv => whnf) | fail)
    (refine Nw.sep hL hB (fun t8 w hL hB ht8 => ?_); conv => whnf)
    repeat (first | (refine RunK ?_; intro w hL hB; try clear w) | (refine V.treeS ttOk hL 0 (b := t6) rfl (.q 0 (.q 1 (.q 2 (.q 3 (.q 4 (.q 5 (.q 6 (.q 7 (.q 8 (.q 9 (.q 10 (.q 11 (.q 12 (.q 13 (.q 14 (.q 15 (.q 16 (.q 17 (.q 18 (.q 19 (.q 20 (.q 21 (.q 22 (.q 23 (.q 24 (.q 25 (.q 26 (.q 27 (.q 28 (.q 29 (.alt 30 (.q 31 .nil) .stop))))))))))))))))))))))))))))))) mixed (by decide +kernel) ?_; replace hL := hL.drew; conv => whnf) | (refine V.treeS ttOk hL 1 (b := t6) rfl (.q 0 (.q 1 (.q 2 (.q 3 (.q 4 (.q 5 (.q 6 (.q 7 (.q 8 (.q 9 (.q 10 (.q 11 (.q 12 (.q 13 (.q 14 (.q 15 (.q 16 (.q 17 (.q 18 (.q 19 (.q 20 (.q 21 (.q 22 (.q 23 (.q 24 (.q 25 (.q 26 (.q 27 (.q 28 (.q 29 (.alt 30 (.q 31 .nil) .stop))))))))))))))))))))))))))))))) mixed (by decide +kernel) ?_; replace hL := hL.drew; conv => whnf) | (refine V.treeS ttOk hL 2 (b := t6) rfl (.q 0 (.q 1 (.q 2 (.q 3 (.q 4 (.q 5 (.q 6 (.q 7 (.q 8 (.q 9 (.q 10 (.q 11 (.q 12 (.q 13 (.q 14 (.q 15 (.q 16 (.q 17 (.q 18 (.q 19 (.q 20 (.q 21 (.q 22 (.q 23 (.q 24 (.q 25 (.q 26 (.q 27 (.q 28 (.q 29 (.alt 30 (.q 31 .nil) .stop))))))))))))))))))))))))))))))) mixed (by decide +kernel) ?_; replace hL := hL.drew; conv => whnf) | (refine V.treeS ttOk hL 3 (b := t6) rfl (.q 0 (.q 1 (.q 2 (.q 3 (.q 4 (.q 5 (.q 6 (.q 7 (.q 8 (.q 9 (.q 10 (.q 11 (.q 12 (.q 13 (.q 14 (.q 15 (.q 16 (.q 17 (.q 18 (.q 19 (.q 20 (.q 21 (.q 22 (.q 23 (.q 24 (.q 25 (.q 26 (.q 27 (.q 28 (.q 29 (.alt 30 (.q 31 .nil) .stop))))))))))))))))))))))))))))))) mixed (by decide +kernel) ?_; replace hL := hL.drew; conv => whnf) | (refine V.treeS ttOk hL 4 (b := t6) rfl (.q 0 (.q 1 (.q 2 (.q 3 (.q 4 (.q 5 (.q 6 (.q 7 (.q 8 (.q 9 (.q 10 (.q 11 (.q 12 (.q 13 (.q 14 (.q 15 (.q 16 (.q 17 (.q 18 (.q 19 (.q 20 (.q 21 (.q 22 (.q 23 (.q 24 (.q 25 (.q 26 (.q 27 (.q 28 (.q 29 (.alt 30 (.q 31 .nil) .stop))))))))))))))))))))))))))))))) mixed (by decide +kernel) ?_; replace hL := hL.drew; conv => whnf) | (refine V.tailA ttOk mixed (by decide +kernel) ?_; replace hL := hL.drew; conv => whnf) | (refine Both.mk ?_ ?_ <;> conv => whnf) | fail)
    exact ⟨⟨fun h => absurd h hnR, fun _ => ⟨_, _, _, _, _, _, rfl⟩⟩, hL.below⟩
  · replace hL := hL.addRow hB hw ho
    replace hB := Nat.le_trans hB hw.size
    obtain ⟨ua, uc, rfl⟩ := (show SlN w 1 u _ _ from hL.rowN (i := 0) rfl).shape
    rw [ndC]
    have hN : szN (dSize W) = n1 ∨ szN (dSize W) ≠ n1 := by omega
    by_cases hc : szN (dSize W) = n1
    case neg =>
      have hnR : ¬ R := fun h => by rw [hok] at h; omega
      conv => whnf
      repeat (first | (refine RunH ?_; intro w hL hB; try clear w) | (refine Both.mk ?_ ?_ <;> conv => whnf) | fail)
      (refine Nw.sep hL hB (fun t8 w hL hB ht8 => ?_); conv => whnf)
      repeat (first | (refine RunK ?_; intro w hL hB; try clear w) | (refine V.treeS ttOk hL 0 (b := t6) rfl (.q 0 (.q 1 (.q 2 (.q 3 (.q 4 (.q 5 (.q 6 (.q 7 (.q 8 (.q 9 (.q 10 (.q 11 (.q 12 (.q 13 (.q 14 (.q 15 (.q 16 (.q 17 (.q 18 (.q 19 (.q 20 (.q 21 (.q 22 (.q 23 (.q 24 (.q 25 (.q 26 (.q 27 (.q 28 (.q 29 (.alt 30 (.q 31 .nil) .stop))))))))))))))))))))))))))))))) mixed (by decide +kernel) ?_; replace hL := hL.drew; conv => whnf) | (refine V.treeS ttOk hL 1 (b := t6) rfl (.q 0 (.q 1 (.q 2 (.q 3 (.q 4 (.q 5 (.q 6 (.q 7 (.q 8 (.q 9 (.q 10 (.q 11 (.q 12 (.q 13 (.q 14 (.q 15 (.q 16 (.q 17 (.q 18 (.q 19 (.q 20 (.q 21 (.q 22 (.q 23 (.q 24 (.q 25 (.q 26 (.q 27 (.q 28 (.q 29 (.alt 30 (.q 31 .nil) .stop))))))))))))))))))))))))))))))) mixed (by decide +kernel) ?_; replace hL := hL.drew; conv => whnf) | (refine V.treeS ttOk hL 2 (b := t6) rfl (.q 0 (.q 1 (.q 2 (.q 3 (.q 4 (.q 5 (.q 6 (.q 7 (.q 8 (.q 9 (.q 10 (.q 11 (.q 12 (.q 13 (.q 14 (.q 15 (.q 16 (.q 17 (.q 18 (.q 19 (.q 20 (.q 21 (.q 22 (.q 23 (.q 24 (.q 25 (.q 26 (.q 27 (.q 28 (.q 29 (.alt 30 (.q 31 .nil) .stop))))))))))))))))))))))))))))))) mixed (by decide +kernel) ?_; replace hL := hL.drew; conv => whnf) | (refine V.treeS ttOk hL 3 (b := t6) rfl (.q 0 (.q 1 (.q 2 (.q 3 (.q 4 (.q 5 (.q 6 (.q 7 (.q 8 (.q 9 (.q 10 (.q 11 (.q 12 (.q 13 (.q 14 (.q 15 (.q 16 (.q 17 (.q 18 (.q 19 (.q 20 (.q 21 (.q 22 (.q 23 (.q 24 (.q 25 (.q 26 (.q 27 (.q 28 (.q 29 (.alt 30 (.q 31 .nil) .stop))))))))))))))))))))))))))))))) mixed (by decide +kernel) ?_; replace hL := hL.drew; conv => whnf) | (refine V.treeS ttOk hL 4 (b := t6) rfl (.q 0 (.q 1 (.q 2 (.q 3 (.q 4 (.q 5 (.q 6 (.q 7 (.q 8 (.q 9 (.q 10 (.q 11 (.q 12 (.q 13 (.q 14 (.q 15 (.q 16 (.q 17 (.q 18 (.q 19 (.q 20 (.q 21 (.q 22 (.q 23 (.q 24 (.q 25 (.q 26 (.q 27 (.q 28 (.q 29 (.alt 30 (.q 31 .nil) .stop))))))))))))))))))))))))))))))) mixed (by decide +kernel) ?_; replace hL := hL.drew; conv => whnf) | (refine V.tailA ttOk mixed (by decide +kernel) ?_; replace hL := hL.drew; conv => whnf) | (refine Both.mk ?_ ?_ <;> conv => whnf) | fail)
      exact ⟨⟨fun h => absurd h hnR, fun _ => ⟨_, _, _, _, _, _, rfl⟩⟩, hL.below⟩
    by_cases hck : dKey W = key
    case neg =>
      have hnR : ¬ R := fun h => by rw [hok] at h; omega
      conv => whnf
      repeat (first | (refine RunH ?_; intro w hL hB; try clear w) | (refine Both.mk ?_ ?_ <;> conv => whnf) | fail)
      (refine Nw.sep hL hB (fun t8 w hL hB ht8 => ?_); conv => whnf)
      repeat (first | (refine RunK ?_; intro w hL hB; try clear w) | (refine V.treeS ttOk hL 0 (b := t6) rfl (.q 0 (.q 1 (.q 2 (.q 3 (.q 4 (.q 5 (.q 6 (.q 7 (.q 8 (.q 9 (.q 10 (.q 11 (.q 12 (.q 13 (.q 14 (.q 15 (.q 16 (.q 17 (.q 18 (.q 19 (.q 20 (.q 21 (.q 22 (.q 23 (.q 24 (.q 25 (.q 26 (.q 27 (.q 28 (.q 29 (.alt 30 (.q 31 .nil) .stop))))))))))))))))))))))))))))))) mixed (by decide +kernel) ?_; replace hL := hL.drew; conv => whnf) | (refine V.treeS ttOk hL 1 (b := t6) rfl (.q 0 (.q 1 (.q 2 (.q 3 (.q 4 (.q 5 (.q 6 (.q 7 (.q 8 (.q 9 (.q 10 (.q 11 (.q 12 (.q 13 (.q 14 (.q 15 (.q 16 (.q 17 (.q 18 (.q 19 (.q 20 (.q 21 (.q 22 (.q 23 (.q 24 (.q 25 (.q 26 (.q 27 (.q 28 (.q 29 (.alt 30 (.q 31 .nil) .stop))))))))))))))))))))))))))))))) mixed (by decide +kernel) ?_; replace hL := hL.drew; conv => whnf) | (refine V.treeS ttOk hL 2 (b := t6) rfl (.q 0 (.q 1 (.q 2 (.q 3 (.q 4 (.q 5 (.q 6 (.q 7 (.q 8 (.q 9 (.q 10 (.q 11 (.q 12 (.q 13 (.q 14 (.q 15 (.q 16 (.q 17 (.q 18 (.q 19 (.q 20 (.q 21 (.q 22 (.q 23 (.q 24 (.q 25 (.q 26 (.q 27 (.q 28 (.q 29 (.alt 30 (.q 31 .nil) .stop))))))))))))))))))))))))))))))) mixed (by decide +kernel) ?_; replace hL := hL.drew; conv => whnf) | (refine V.treeS ttOk hL 3 (b := t6) rfl (.q 0 (.q 1 (.q 2 (.q 3 (.q 4 (.q 5 (.q 6 (.q 7 (.q 8 (.q 9 (.q 10 (.q 11 (.q 12 (.q 13 (.q 14 (.q 15 (.q 16 (.q 17 (.q 18 (.q 19 (.q 20 (.q 21 (.q 22 (.q 23 (.q 24 (.q 25 (.q 26 (.q 27 (.q 28 (.q 29 (.alt 30 (.q 31 .nil) .stop))))))))))))))))))))))))))))))) mixed (by decide +kernel) ?_; replace hL := hL.drew; conv => whnf) | (refine V.treeS ttOk hL 4 (b := t6) rfl (.q 0 (.q 1 (.q 2 (.q 3 (.q 4 (.q 5 (.q 6 (.q 7 (.q 8 (.q 9 (.q 10 (.q 11 (.q 12 (.q 13 (.q 14 (.q 15 (.q 16 (.q 17 (.q 18 (.q 19 (.q 20 (.q 21 (.q 22 (.q 23 (.q 24 (.q 25 (.q 26 (.q 27 (.q 28 (.q 29 (.alt 30 (.q 31 .nil) .stop))))))))))))))))))))))))))))))) mixed (by decide +kernel) ?_; replace hL := hL.drew; conv => whnf) | (refine V.tailA ttOk mixed (by decide +kernel) ?_; replace hL := hL.drew; conv => whnf) | (refine Both.mk ?_ ?_ <;> conv => whnf) | fail)
      exact ⟨⟨fun h => absurd h hnR, fun _ => ⟨_, _, _, _, _, _, rfl⟩⟩, hL.below⟩
    by_cases hcc : dCook W = cook
    case neg =>
      have hnR : ¬ R := fun h => by rw [hok] at h; omega
      conv => whnf
      repeat (first | (refine RunH ?_; intro w hL hB; try clear w) | (refine Both.mk ?_ ?_ <;> conv => whnf) | fail)
      (refine Nw.sep hL hB (fun t8 w hL hB ht8 => ?_); conv => whnf)
      repeat (first | (refine RunK ?_; intro w hL hB; try clear w) | (refine V.treeS ttOk hL 0 (b := t6) rfl (.q 0 (.q 1 (.q 2 (.q 3 (.q 4 (.q 5 (.q 6 (.q 7 (.q 8 (.q 9 (.q 10 (.q 11 (.q 12 (.q 13 (.q 14 (.q 15 (.q 16 (.q 17 (.q 18 (.q 19 (.q 20 (.q 21 (.q 22 (.q 23 (.q 24 (.q 25 (.q 26 (.q 27 (.q 28 (.q 29 (.alt 30 (.q 31 .nil) .stop))))))))))))))))))))))))))))))) mixed (by decide +kernel) ?_; replace hL := hL.drew; conv => whnf) | (refine V.treeS ttOk hL 1 (b := t6) rfl (.q 0 (.q 1 (.q 2 (.q 3 (.q 4 (.q 5 (.q 6 (.q 7 (.q 8 (.q 9 (.q 10 (.q 11 (.q 12 (.q 13 (.q 14 (.q 15 (.q 16 (.q 17 (.q 18 (.q 19 (.q 20 (.q 21 (.q 22 (.q 23 (.q 24 (.q 25 (.q 26 (.q 27 (.q 28 (.q 29 (.alt 30 (.q 31 .nil) .stop))))))))))))))))))))))))))))))) mixed (by decide +kernel) ?_; replace hL := hL.drew; conv => whnf) | (refine V.treeS ttOk hL 2 (b := t6) rfl (.q 0 (.q 1 (.q 2 (.q 3 (.q 4 (.q 5 (.q 6 (.q 7 (.q 8 (.q 9 (.q 10 (.q 11 (.q 12 (.q 13 (.q 14 (.q 15 (.q 16 (.q 17 (.q 18 (.q 19 (.q 20 (.q 21 (.q 22 (.q 23 (.q 24 (.q 25 (.q 26 (.q 27 (.q 28 (.q 29 (.alt 30 (.q 31 .nil) .stop))))))))))))))))))))))))))))))) mixed (by decide +kernel) ?_; replace hL := hL.drew; conv => whnf) | (refine V.treeS ttOk hL 3 (b := t6) rfl (.q 0 (.q 1 (.q 2 (.q 3 (.q 4 (.q 5 (.q 6 (.q 7 (.q 8 (.q 9 (.q 10 (.q 11 (.q 12 (.q 13 (.q 14 (.q 15 (.q 16 (.q 17 (.q 18 (.q 19 (.q 20 (.q 21 (.q 22 (.q 23 (.q 24 (.q 25 (.q 26 (.q 27 (.q 28 (.q 29 (.alt 30 (.q 31 .nil) .stop))))))))))))))))))))))))))))))) mixed (by decide +kernel) ?_; replace hL := hL.drew; conv => whnf) | (refine V.treeS ttOk hL 4 (b := t6) rfl (.q 0 (.q 1 (.q 2 (.q 3 (.q 4 (.q 5 (.q 6 (.q 7 (.q 8 (.q 9 (.q 10 (.q 11 (.q 12 (.q 13 (.q 14 (.q 15 (.q 16 (.q 17 (.q 18 (.q 19 (.q 20 (.q 21 (.q 22 (.q 23 (.q 24 (.q 25 (.q 26 (.q 27 (.q 28 (.q 29 (.alt 30 (.q 31 .nil) .stop))))))))))))))))))))))))))))))) mixed (by decide +kernel) ?_; replace hL := hL.drew; conv => whnf) | (refine V.tailA ttOk mixed (by decide +kernel) ?_; replace hL := hL.drew; conv => whnf) | (refine Both.mk ?_ ?_ <;> conv => whnf) | fail)
      exact ⟨⟨fun h => absurd h hnR, fun _ => ⟨_, _, _, _, _, _, rfl⟩⟩, hL.below⟩
    subst hck
    subst hcc
    generalize hdd : dDead W = dd at *
    by_cases hcd : dd = dead
    case neg =>
      have hnR : ¬ R := fun h => by rw [hok] at h; exact hcd h.2.2.2.2.2
      conv => whnf
      repeat (first | (refine RunH ?_; intro w hL hB; try clear w) | (refine Both.mk ?_ ?_ <;> conv => whnf) | fail)
      (refine Nw.sep hL hB (fun t8 w hL hB ht8 => ?_); conv => whnf)
      repeat (first | (refine RunK ?_; intro w hL hB; try clear w) | (refine V.treeS ttOk hL 0 (b := t6) rfl (.q 0 (.q 1 (.q 2 (.q 3 (.q 4 (.q 5 (.q 6 (.q 7 (.q 8 (.q 9 (.q 10 (.q 11 (.q 12 (.q 13 (.q 14 (.q 15 (.q 16 (.q 17 (.q 18 (.q 19 (.q 20 (.q 21 (.q 22 (.q 23 (.q 24 (.q 25 (.q 26 (.q 27 (.q 28 (.q 29 (.alt 30 (.q 31 .nil) .stop))))))))))))))))))))))))))))))) mixed (by decide +kernel) ?_; replace hL := hL.drew; conv => whnf) | (refine V.treeS ttOk hL 1 (b := t6) rfl (.q 0 (.q 1 (.q 2 (.q 3 (.q 4 (.q 5 (.q 6 (.q 7 (.q 8 (.q 9 (.q 10 (.q 11 (.q 12 (.q 13 (.q 14 (.q 15 (.q 16 (.q 17 (.q 18 (.q 19 (.q 20 (.q 21 (.q 22 (.q 23 (.q 24 (.q 25 (.q 26 (.q 27 (.q 28 (.q 29 (.alt 30 (.q 31 .nil) .stop))))))))))))))))))))))))))))))) mixed (by decide +kernel) ?_; replace hL := hL.drew; conv => whnf) | (refine V.treeS ttOk hL 2 (b := t6) rfl (.q 0 (.q 1 (.q 2 (.q 3 (.q 4 (.q 5 (.q 6 (.q 7 (.q 8 (.q 9 (.q 10 (.q 11 (.q 12 (.q 13 (.q 14 (.q 15 (.q 16 (.q 17 (.q 18 (.q 19 (.q 20 (.q 21 (.q 22 (.q 23 (.q 24 (.q 25 (.q 26 (.q 27 (.q 28 (.q 29 (.alt 30 (.q 31 .nil) .stop))))))))))))))))))))))))))))))) mixed (by decide +kernel) ?_; replace hL := hL.drew; conv => whnf) | (refine V.treeS ttOk hL 3 (b := t6) rfl (.q 0 (.q 1 (.q 2 (.q 3 (.q 4 (.q 5 (.q 6 (.q 7 (.q 8 (.q 9 (.q 10 (.q 11 (.q 12 (.q 13 (.q 14 (.q 15 (.q 16 (.q 17 (.q 18 (.q 19 (.q 20 (.q 21 (.q 22 (.q 23 (.q 24 (.q 25 (.q 26 (.q 27 (.q 28 (.q 29 (.alt 30 (.q 31 .nil) .stop))))))))))))))))))))))))))))))) mixed (by decide +kernel) ?_; replace hL := hL.drew; conv => whnf) | (refine V.treeS ttOk hL 4 (b := t6) rfl (.q 0 (.q 1 (.q 2 (.q 3 (.q 4 (.q 5 (.q 6 (.q 7 (.q 8 (.q 9 (.q 10 (.q 11 (.q 12 (.q 13 (.q 14 (.q 15 (.q 16 (.q 17 (.q 18 (.q 19 (.q 20 (.q 21 (.q 22 (.q 23 (.q 24 (.q 25 (.q 26 (.q 27 (.q 28 (.q 29 (.alt 30 (.q 31 .nil) .stop))))))))))))))))))))))))))))))) mixed (by decide +kernel) ?_; replace hL := hL.drew; conv => whnf) | (refine V.tailA ttOk mixed (by decide +kernel) ?_; replace hL := hL.drew; conv => whnf) | (refine Both.mk ?_ ?_ <;> conv => whnf) | fail)
      rw [show (dd == dead) = false from by simpa using hcd]
      exact ⟨⟨fun h => absurd h hnR, fun _ => ⟨_, _, _, _, _, _, rfl⟩⟩, hL.below⟩
    subst hcd
    have hyR : R := by rw [hok]; exact ⟨hlen, hE, hc, rfl, rfl, rfl⟩
    conv => whnf
    repeat (first | (refine RunH ?_; intro w hL hB; try clear w) | (refine Both.mk ?_ ?_ <;> conv => whnf) | fail)
    (refine Nw.sep hL hB (fun t8 w hL hB ht8 => ?_); conv => whnf)
    repeat (first | (refine RunK ?_; intro w hL hB; try clear w) | (refine V.treeS ttOk hL 0 (b := t6) rfl (.q 0 (.q 1 (.q 2 (.q 3 (.q 4 (.q 5 (.q 6 (.q 7 (.q 8 (.q 9 (.q 10 (.q 11 (.q 12 (.q 13 (.q 14 (.q 15 (.q 16 (.q 17 (.q 18 (.q 19 (.q 20 (.q 21 (.q 22 (.q 23 (.q 24 (.q 25 (.q 26 (.q 27 (.q 28 (.q 29 (.alt 30 (.q 31 .nil) .stop))))))))))))))))))))))))))))))) mixed (by decide +kernel) ?_; replace hL := hL.drew; conv => whnf) | (refine V.treeS ttOk hL 1 (b := t6) rfl (.q 0 (.q 1 (.q 2 (.q 3 (.q 4 (.q 5 (.q 6 (.q 7 (.q 8 (.q 9 (.q 10 (.q 11 (.q 12 (.q 13 (.q 14 (.q 15 (.q 16 (.q 17 (.q 18 (.q 19 (.q 20 (.q 21 (.q 22 (.q 23 (.q 24 (.q 25 (.q 26 (.q 27 (.q 28 (.q 29 (.alt 30 (.q 31 .nil) .stop))))))))))))))))))))))))))))))) mixed (by decide +kernel) ?_; replace hL := hL.drew; conv => whnf) | (refine V.treeS ttOk hL 2 (b := t6) rfl (.q 0 (.q 1 (.q 2 (.q 3 (.q 4 (.q 5 (.q 6 (.q 7 (.q 8 (.q 9 (.q 10 (.q 11 (.q 12 (.q 13 (.q 14 (.q 15 (.q 16 (.q 17 (.q 18 (.q 19 (.q 20 (.q 21 (.q 22 (.q 23 (.q 24 (.q 25 (.q 26 (.q 27 (.q 28 (.q 29 (.alt 30 (.q 31 .nil) .stop))))))))))))))))))))))))))))))) mixed (by decide +kernel) ?_; replace hL := hL.drew; conv => whnf) | (refine V.treeS ttOk hL 3 (b := t6) rfl (.q 0 (.q 1 (.q 2 (.q 3 (.q 4 (.q 5 (.q 6 (.q 7 (.q 8 (.q 9 (.q 10 (.q 11 (.q 12 (.q 13 (.q 14 (.q 15 (.q 16 (.q 17 (.q 18 (.q 19 (.q 20 (.q 21 (.q 22 (.q 23 (.q 24 (.q 25 (.q 26 (.q 27 (.q 28 (.q 29 (.alt 30 (.q 31 .nil) .stop))))))))))))))))))))))))))))))) mixed (by decide +kernel) ?_; replace hL := hL.drew; conv => whnf) | (refine V.treeS ttOk hL 4 (b := t6) rfl (.q 0 (.q 1 (.q 2 (.q 3 (.q 4 (.q 5 (.q 6 (.q 7 (.q 8 (.q 9 (.q 10 (.q 11 (.q 12 (.q 13 (.q 14 (.q 15 (.q 16 (.q 17 (.q 18 (.q 19 (.q 20 (.q 21 (.q 22 (.q 23 (.q 24 (.q 25 (.q 26 (.q 27 (.q 28 (.q 29 (.alt 30 (.q 31 .nil) .stop))))))))))))))))))))))))))))))) mixed (by decide +kernel) ?_; replace hL := hL.drew; conv => whnf) | (refine V.tailA ttOk mixed (by decide +kernel) ?_; replace hL := hL.drew; conv => whnf) | (refine Both.mk ?_ ?_ <;> conv => whnf) | fail)
    rw [show (dd == dd) = true from by simp]
    exact ⟨⟨fun _ => ⟨_, rfl, hL.ownR (i := 1) rfl⟩, fun h => absurd hyR h⟩, hL.below⟩
end Go.Proofs.YtpkealgeigpjpaaDoor
