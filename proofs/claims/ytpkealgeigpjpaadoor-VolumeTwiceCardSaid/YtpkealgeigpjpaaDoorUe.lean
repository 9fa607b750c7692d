/- volume: Get. Nothing is claimed here. -/
import Derived.Test.YtpkealgeigpjpaaDoorUd
namespace Go.Proofs.YtpkealgeigpjpaaDoor
open Go.RowKit
open Go.Maps (Keyed)
set_option linter.unusedVariables false
set_option linter.unusedSimpArgs false
set_option maxRecDepth 100000

def datS (S : List Fl) (nm : ByteArray) : List UInt8 := match getS S nm with
  | some f => f.d
  | none => []
theorem datS_len (S : List Fl) (nm : ByteArray) : (datS S nm).length = szS S nm := by unfold datS szS; cases getS S nm <;> rfl
def vgetE (S : List Fl) (nm : ByteArray) (ps : List Pc) (key cook : Nat) : Nat := match getP ps key with
  | none => 7
  | some p => if p.dead = true then 9 else if p.cook ≠ cook then 10 else if readOk (datS S nm) p then 0 else 4
def vgetD (S : List Fl) (nm : ByteArray) (ps : List Pc) (key : Nat) : List UInt8 := match getP ps key with
  | none => []
  | some p => dData (rec (datS S nm) p)
/-- records of this size alone -/
def OkP (ps : List Pc) : Prop := ∀ p ∈ ps, p.key < 18446744073709551616 ∧ p.cook < 4294967296 ∧ p.at_ ≤ 1073741824 ∧ 28 ≤ p.n ∧ p.n ≤ 65571
section
variable {B d v m room id : Nat} {nm : ByteArray} {S : List Fl} {ps : List Pc} {F : List Res} {w0 w : World}
def vgetPost (B : Nat) (w0 : World) (d room : Nat) (S : List Fl) (F : List Res) (nm : ByteArray) (ps : List Pc) (key cook : Nat) (r : Value) (w' : World) : Prop :=
  if vgetE S nm ps key cook = 0 then ∃ u, r = .tuple #[u, .int .i64 0] ∧ DkS B w0 w' d room S (.row 5 1 u (vgetD S nm ps key).length (bv (vgetD S nm ps key)) :: F)
  else r = .tuple #[.slice none 0 0, .int .i64 (vgetE S nm ps key cook : Nat)] ∧ DkS B w0 w' d room S F
set_option maxHeartbeats 8000000 in
theorem vget_fn (hn : NameIs id nm) (key cook : Nat) (hk : key < 18446744073709551616) (hnd : NdP ps) (hok : OkP ps)
    (hD : DkS B w0 w d room S (.blk v (volC d id nm m) 63 :: .mp 32 m (ps.map pcE) :: F)) :
    Fn Tryd.prog 15 #[ptr v, .int .u64 (key : Int), .int .u32 (cook : Int)] w fun r w' => vgetPost B w0 d room S (.blk v (volC d id nm m) 63 :: .mp 32 m (ps.map pcE) :: F) nm ps key cook r w' := by
  have hnn := hn.1
  have hn6 : nm.size ≤ 1000000 := by omega
  have hpost : ∀ {r : Value} {w' : World}, vgetPost B w0 d room S (.blk v (volC d id nm m) 63 :: .mp 32 m (ps.map pcE) :: F) nm ps key cook r w' = (if vgetE S nm ps key cook = 0 then ∃ u, r = .tuple #[u, .int .i64 0] ∧ DkS B w0 w' d room S (.row 5 1 u (vgetD S nm ps key).length (bv (vgetD S nm ps key)) :: .blk v (volC d id nm m) 63 :: .mp 32 m (ps.map pcE) :: F)
    else r = .tuple #[.slice none 0 0, .int .i64 (vgetE S nm ps key cook : Nat)] ∧ DkS B w0 w' d room S (.blk v (volC d id nm m) 63 :: .mp 32 m (ps.map pcE) :: F)) := rfl
  have hE : vgetE S nm ps key cook = match getP ps key with | none => 7 | some p => if p.dead = true then 9 else if p.cook ≠ cook then 10 else if readOk (datS S nm) p then 0 else 4 := rfl
  have hDt : vgetD S nm ps key = match getP ps key with | none => [] | some p => dData (rec (datS S nm) p) := rfl
  have hmem : ∀ {p : Pc}, getP ps key = some p → p ∈ ps := fun h => (getA_some h).2
  have hdat : datS S nm = match getS S nm with | some f => f.d | none => [] := rfl
  generalize vgetE S nm ps key cook = E at *
  generalize vgetD S nm ps key = D at *
  simp only [hpost]
  clear hpost
  obtain ⟨dL, hL, hB, close⟩ := hD.open
  clear hD
  rw [volC] at hL
  have done : ∀ {w : World} {X dL : List Res} {e : Nat}, (∀ {w' : World} {F' : List Res}, Sep Tryd.prog B w0 w' (F' ++ dL) → B ≤ w'.heap.size → DkS B w0 w' d room S F') → E = e → e ≠ 0 → Sep Tryd.prog B w0 w (X ++ (.blk v (volC d id nm m) 63 :: .mp 32 m (ps.map pcE) :: (F ++ dL))) → B ≤ w.heap.size → (if E = 0 then ∃ u, (Value.tuple #[.slice none 0 0, .int .i64 (e : Nat)]) = .tuple #[u, .int .i64 0] ∧ DkS B w0 w d room S (.row 5 1 u D.length (bv D) :: .blk v (volC d id nm m) 63 :: .mp 32 m (ps.map pcE) :: F)
    else (Value.tuple #[.slice none 0 0, .int .i64 (e : Nat)]) = .tuple #[.slice none 0 0, .int .i64 (E : Nat)] ∧ DkS B w0 w d room S (.blk v (volC d id nm m) 63 :: .mp 32 m (ps.map pcE) :: F)) := fun cl h1 h2 h3 h4 => by
    rw [if_neg (by omega), h1]
    exact ⟨rfl, cl (F' := _ :: _ :: F) (h3.sub (List.sublist_append_right _ _)) h4⟩
  have doneOk : ∀ {w : World} {dL : List Res} {x : Value}, (∀ {w' : World} {F' : List Res}, Sep Tryd.prog B w0 w' (F' ++ dL) → B ≤ w'.heap.size → DkS B w0 w' d room S F') → E = 0 → Sep Tryd.prog B w0 w (.row 5 1 x D.length (bv D) :: .blk v (volC d id nm m) 63 :: .mp 32 m (ps.map pcE) :: (F ++ dL)) → B ≤ w.heap.size → (if E = 0 then ∃ u, (Value.tuple #[x, .int .i64 0]) = .tuple #[u, .int .i64 0] ∧ DkS B w0 w d room S (.row 5 1 u D.length (bv D) :: .blk v (volC d id nm m) 63 :: .mp 32 m (ps.map pcE) :: F)
    else (Value.tuple #[x, .int .i64 0]) = .tuple #[.slice none 0 0, .int .i64 (E : Nat)] ∧ DkS B w0 w d room S (.blk v (volC d id nm m) 63 :: .mp 32 m (ps.map pcE) :: F)) := fun cl h1 h3 h4 => by
    rw [if_pos h1]
    exact ⟨_, rfl, cl (F' := _ :: _ :: _ :: F) h3 h4⟩
  cases hg : getP ps key with
  | none =>
    rw [hg] at hE
    refine Fn.mk Tryd.func15 rfl (by kernel_rfl) Tryd.ntmps15 rfl (by rw [Tryd.results15]) ?_
    repeat (first | (refine RunH ?_; intro w hL hB; try clear w) | (refine Both.mk ?_ ?_ <;> conv => whnf) | (refine Rv.pcOk hL 1 rfl hnd hk ?_; rw [hg]; dsimp only [pcOf, pcV, pcC]; conv => whnf) | (refine Nw.sep hL hB (fun t8 w hL hB ht8 => ?_); conv => whnf) | fail)
    exact done (X := [_]) close hE (by decide) hL hB
  | some p =>
    have hpp := hok p (hmem hg)
    rw [hg] at hE hDt
    dsimp only at hE hDt
    obtain ⟨pk, pa, pn, pc, pd⟩ := p
    dsimp only at hE hDt hpp
    by_cases hpd : pd = true
    · subst hpd
      rw [if_pos rfl] at hE
      refine Fn.mk Tryd.func15 rfl (by kernel_rfl) Tryd.ntmps15 rfl (by rw [Tryd.results15]) ?_
      repeat (first | (refine RunH ?_; intro w hL hB; try clear w) | (refine Both.mk ?_ ?_ <;> conv => whnf) | (refine Rv.pcOk hL 1 rfl hnd hk ?_; rw [hg]; dsimp only [pcOf, pcV, pcC]; conv => whnf) | (refine Nw.sep hL hB (fun t8 w hL hB ht8 => ?_); conv => whnf) | fail)
      exact done (X := [_]) close hE (by decide) hL hB
    obtain rfl : pd = false := by cases pd; rfl; exact absurd rfl hpd
    rw [if_neg (by decide)] at hE
    by_cases hpc : pc = cook
    case neg =>
      rw [if_pos hpc] at hE
      refine Fn.mk Tryd.func15 rfl (by kernel_rfl) Tryd.ntmps15 rfl (by rw [Tryd.results15]) ?_
      repeat (first | (refine RunH ?_; intro w hL hB; try clear w) | (refine Both.mk ?_ ?_ <;> conv => whnf) | (refine Rv.pcOk hL 1 rfl hnd hk ?_; rw [hg]; dsimp only [pcOf, pcV, pcC]; conv => whnf) | (refine Nw.sep hL hB (fun t8 w hL hB ht8 => ?_); conv => whnf) | fail)
      exact done (X := [_]) close hE (by decide) hL hB
    subst hpc
    rw [if_neg (fun h => h rfl)] at hE
    refine Fn.mk Tryd.func15 rfl (by kernel_rfl) Tryd.ntmps15 rfl (by rw [Tryd.results15]) ?_
    repeat (first | (refine RunK ?_; intro w hL hB; try clear w) | (refine V.tree ttOk (fun x0 => Sep Tryd.prog _ w0 x0 [.blk v [ptr d, .int .i64 (id : Int), .string nm, .map (some m)] 63]) (.q 0 (.q 1 (.q 2 (.q 3 (.q 4 (.q 5 (.q 6 (.q 7 (.alt 8 (.q 9 (.q 10 (.q 11 (.q 12 (.q 13 .nil))))) .stop))))))))) mixed (by decide +kernel) (hL.drew.one (i := 1) rfl) ?_; replace hL := hL.drew; conv => whnf) | (refine V.tailA ttOk mixed (by decide +kernel) ?_; replace hL := hL.drew; conv => whnf) | (refine Both.mk ?_ ?_ <;> conv => whnf) | (refine Rv.pcOk hL 1 rfl hnd hk ?_; rw [hg]; dsimp only [pcOf, pcV, pcC]; conv => whnf) | (refine Nw.sep hL hB (fun t8 w hL hB ht8 => ?_); conv => whnf) | fail)
    refine (read_fn nm hn6 (close (F' := _ :: _ :: _ :: F) hL hB)).mono fun r w hD => ?_
    cases hgs : getS S nm with
    | none =>
      rw [hgs] at hD hdat
      dsimp only at hdat
      obtain ⟨hr, hD⟩ := hD
      subst hr
      obtain ⟨dL', hL', hB', close'⟩ := hD.open
      clear hL hB
      have hnR : ¬ readOk (datS S nm) ⟨pk, pa, pn, pc, false⟩ := fun h => by
        have := h.1
        rw [hdat] at this
        simp at this; omega
      rw [if_neg hnR] at hE
      have hL := hL'
      have hB := hB'
      conv => whnf
      refine ⟨hL.one (i := 1) rfl, ?_⟩
      conv => whnf
      repeat (first | (refine RunH ?_; intro w hL hB; try clear w) | (refine Both.mk ?_ ?_ <;> conv => whnf) | fail)
      refine (vread_fn _ _ [] ⟨pk, pa, pn, pc, false⟩ ⟨hpp.2.2.1, hpp.2.2.2.1, by have := hpp.2.2.2.2; dsimp only at this ⊢; omega⟩ _ (Sl.nil _)).mono fun r w ⟨hr, hw⟩ => ?_
      obtain ⟨k', c', d', a', n', cp', rfl⟩ := hr.2 (by rw [← hdat]; exact hnR)
      replace hL := hL.call hB (Turns.of_below hw)
      replace hB := Nat.le_trans hB hw.size
      conv => whnf
      repeat (first | (refine RunH ?_; intro w hL hB; try clear w) | (refine Both.mk ?_ ?_ <;> conv => whnf) | fail)
      (refine Nw.sep hL hB (fun t12 w hL hB ht12 => ?_); conv => whnf)
      repeat (first | (refine RunH ?_; intro w hL hB; try clear w) | (refine Both.mk ?_ ?_ <;> conv => whnf) | fail)
      exact done (X := [_, _]) close' hE (by decide) hL hB
    | some f =>
      rw [hgs] at hD hdat
      dsimp only at hdat
      obtain ⟨u, hr, hD⟩ := hD
      subst hr
      obtain ⟨dL', hL', hB', close'⟩ := hD.open
      clear hL hB
      have hL := hL'
      have hB := hB'
      obtain ⟨ua, uc, rfl⟩ := (show SlN w 1 u _ _ from hL.rowN (i := 0) rfl).shape
      conv => whnf
      refine ⟨hL.one (i := 2) rfl, ?_⟩
      conv => whnf
      repeat (first | (refine RunH ?_; intro w hL hB; try clear w) | (refine Both.mk ?_ ?_ <;> conv => whnf) | fail)
      refine (vread_fn _ _ f.d ⟨pk, pa, pn, pc, false⟩ ⟨hpp.2.2.1, hpp.2.2.2.1, by have := hpp.2.2.2.2; dsimp only at this ⊢; omega⟩ _ (hL.row (i := 0) rfl)).mono fun r w ⟨hr, hw⟩ => ?_
      rw [hdat] at hE hDt
      by_cases hR : readOk f.d ⟨pk, pa, pn, pc, false⟩
      case neg =>
        rw [if_neg hR] at hE
        obtain ⟨k', c', d', a', n', cp', rfl⟩ := hr.2 hR
        replace hL := hL.call hB (Turns.of_below hw)
        replace hB := Nat.le_trans hB hw.size
        conv => whnf
        repeat (first | (refine RunH ?_; intro w hL hB; try clear w) | (refine Both.mk ?_ ?_ <;> conv => whnf) | fail)
        (refine Nw.sep hL hB (fun t12 w hL hB ht12 => ?_); conv => whnf)
        repeat (first | (refine RunH ?_; intro w hL hB; try clear w) | (refine Both.mk ?_ ?_ <;> conv => whnf) | fail)
        exact done (X := [_, _, _]) close' hE (by decide) hL hB
      rw [if_pos hR] at hE
      obtain ⟨x, rfl, ho⟩ := hr.1 hR
      rw [← hDt] at ho
      replace hL := hL.addRow hB hw ho
      replace hB := Nat.le_trans hB hw.size
      obtain ⟨xa, xc, rfl⟩ := (show SlN w 1 x _ _ from hL.rowN (i := 0) rfl).shape
      rw [ndC]
      conv => whnf
      repeat (first | (refine RunH ?_; intro w hL hB; try clear w) | (refine Both.mk ?_ ?_ <;> conv => whnf) | fail)
      (refine Nw.sep hL hB (fun t12 w hL hB ht12 => ?_); conv => whnf)
      repeat (first | (refine RunH ?_; intro w hL hB; try clear w) | (refine Both.mk ?_ ?_ <;> conv => whnf) | fail)
      exact doneOk close' hE (hL.sub (.cons _ (.cons_cons _ (.cons _ (.cons _ (.refl _)))))) hB
end
end Go.Proofs.YtpkealgeigpjpaaDoor
