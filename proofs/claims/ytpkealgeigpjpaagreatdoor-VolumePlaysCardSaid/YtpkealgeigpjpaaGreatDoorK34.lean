/- garnerref12: Raw, load, Get. garnerref12: Get, Put, Size. Nothing is claimed here. -/
import Derived.Test.YtpkealgeigpjpaaGreatDoorK33
namespace Go.Proofs.YtpkealgeigpjpaaGreatDoor
open Go.RowKit Go.Lib
set_option linter.unusedVariables false
set_option linter.unusedSimpArgs false
set_option maxRecDepth 100000
section
variable {B k x room id : Nat} {rv : Value} {R : List Fl} {F : List Res} {w0 w : World}
set_option maxHeartbeats 2000000 in
theorem rawR_fn {nm : ByteArray} (hid : id ≤ 99999999) (hnm : vnmG id = nm) (p : Pc) (hp : p.at_ ≤ 1073741824 ∧ 28 ≤ p.n ∧ p.n ≤ 1073741824) (hD : RkS B w0 w k room R (.blk x [ptr k, .int .i64 (id : Int), rv] 80 :: F)) :
    Fn Tryz.prog 105 #[ptr x, pcV p] w fun r w' => RkS B w0 w' k room R (.blk x [ptr k, .int .i64 (id : Int), rv] 80 :: F) ∧
      (p.at_ + p.n ≤ (datS R nm).length → Sl w' r (bv (rec (datS R nm) p))) ∧ (¬ p.at_ + p.n ≤ (datS R nm).length → r = .slice none 0 0) := by
  have hname := nameR_fn id hid
  rw [hnm] at hname
  obtain ⟨key, at_, n, cook, dead⟩ := p
  have hszb : (datS R nm).length ≤ 1073741824 := by
    rw [datS_len]
    obtain ⟨L, fs, rfl, hok, _⟩ := hD.of
    have h1 := len1 hok.ok
    rw [szS, getF_fl]
    cases hg : getF fs nm with
    | none => simp
    | some f => exact h1 f (getF_mem hg)
  obtain ⟨dL, hL, hB, close⟩ := hD.open
  clear hD
  dsimp only at hp ⊢
  rw [pcV, pcC]
  dsimp only
  have hrec : rec (datS R nm) ⟨key, at_, n, cook, dead⟩ = Go.Proofs.YtpkealgeigpjpaaGreatDoor.win (datS R nm) at_ n := rfl
  rw [hrec]
  refine Fn.mk Tryz.func105 rfl (by kernel_rfl) Tryz.ntmps105 rfl (by rw [Tryz.results105]) ?_
  repeat (first | (refine RunH ?_; intro w hL hB; try clear w) | (refine Both.mk ?_ ?_ <;> conv => whnf) | fail)
  (refine Nw.sep hL hB (fun t3 w hL hB ht3 => ?_); conv => whnf)
  replace hL := hL.perm (.swap _ _ _)
  repeat (first | (refine RunK ?_; intro w hL hB; try clear w) | (refine V.tree ttOk (fun x0 => Sep Tryz.prog _ w0 x0 [.blk x [ptr k, .int .i64 (id : Int), rv] 80]) (.q 0 (.q 1 (.q 2 (.q 3 (.q 4 (.q 5 (.q 6 (.q 7 (.alt 8 (.alt 9 (.q 10 (.q 11 (.q 12 (.q 13 (.q 14 .nil))))) .stop) .stop))))))))) mixed (by decide +kernel) (hL.drew.one (i := 0) rfl) ?_; replace hL := hL.drew; conv => whnf) | (refine V.tailA ttOk mixed (by decide +kernel) ?_; replace hL := hL.drew; conv => whnf) | (refine Both.mk ?_ ?_ <;> conv => whnf) | fail)
  refine (hname _).mono fun r w ⟨hr, hw⟩ => ?_
  subst hr
  replace hL := hL.call hB (Turns.of_below hw)
  replace hB := Nat.le_trans hB hw.size
  conv => whnf
  refine ⟨hL.one (i := 0) rfl, ?_⟩
  conv => whnf
  repeat (first | (refine RunH ?_; intro w hL hB; try clear w) | (refine Both.mk ?_ ?_ <;> conv => whnf) | fail)
  refine (readR4_fn nm (close (F' := _ :: _ :: F) hL hB)).mono fun r w hD => ?_
  clear close hL hB
  have hdat : datS R nm = match getS R nm with | some f => f.d | none => [] := rfl
  cases hg : getS R nm with
  | none =>
    rw [hg] at hD hdat
    dsimp only at hdat
    rw [hdat] at hszb ⊢
    obtain ⟨hr, hD⟩ := hD
    subst hr
    obtain ⟨dL, hL, hB, close⟩ := hD.open
    clear hD
    conv => whnf
    refine ⟨hL.one (i := 0) rfl, ?_⟩
    conv => whnf
    repeat (first | (refine RunH ?_; intro w hL hB; try clear w) | (refine Both.mk ?_ ?_ <;> conv => whnf) | fail)
    exact ⟨close (F' := _ :: F) (hL.sub (.cons_cons _ (.cons _ (.refl _)))) hB, (fun h => by simp at h; omega), fun _ => rfl⟩
  | some f =>
    rw [hg] at hD hdat
    dsimp only at hdat
    rw [hdat] at hszb ⊢
    obtain ⟨u, hr, hD⟩ := hD
    subst hr
    obtain ⟨dL, hL, hB, close⟩ := hD.open
    clear hD
    obtain ⟨ua, uc, rfl⟩ := (show SlN w 1 u _ _ from hL.rowN (i := 0) rfl).shape
    conv => whnf
    refine ⟨hL.one (i := 1) rfl, ?_⟩
    conv => whnf
    by_cases hfit : at_ + n ≤ f.d.length
    · obtain ⟨bb, o, rfl, _⟩ := SlN.addr (show SlN w 1 (.slice ua f.d.length uc) f.d.length _ from hL.rowN (i := 0) rfl) (by omega)
      have hcap := (show Sl w (.slice (some ⟨bb, o, none⟩) f.d.length uc) (bv f.d) from hL.row (i := 0) rfl).len
      simp only [bv_length] at hcap
      repeat (first | (refine RunH ?_; intro w hL hB; try clear w) | (refine Both.mk ?_ ?_ <;> conv => whnf) | fail)
      intro o1 n1 c1 z1 z2 z3 z4
      obtain rfl : n1 = n := by omega
      conv => whnf
      repeat (first | (refine RunH ?_; intro w hL hB; try clear w) | (refine Both.mk ?_ ?_ <;> conv => whnf) | fail)
      refine ⟨close (F' := _ :: F) (hL.sub (.cons _ (.cons_cons _ (.cons _ (.refl _))))) hB, fun _ => ?_, fun h => absurd hfit h⟩
      have hsl := hL.row (i := 0) rfl
      have := ((show Sl w (.slice (some ⟨bb, o, none⟩) f.d.length uc) (bv f.d) from hsl).drop (k := at_) (o' := o1) (n' := f.d.length - at_) (c' := c1) (by rw [bv_length]; omega) (by omega) (by omega) (by omega)).take (k := n1) (c' := c1) (by simp; omega) (by omega) (by omega)
      rw [Go.Proofs.YtpkealgeigpjpaaGreatDoor.win, bv_take, bv_drop]
      exact this
    · repeat (first | (refine RunH ?_; intro w hL hB; try clear w) | (refine Both.mk ?_ ?_ <;> conv => whnf) | fail)
      exact ⟨close (F' := _ :: F) (hL.sub (.cons _ (.cons_cons _ (.cons _ (.refl _))))) hB, fun h => absurd h hfit, fun _ => rfl⟩
set_option maxHeartbeats 8000000 in
theorem loadR_fn {nm : ByteArray} (hid : id ≤ 99999999) (hnm : vnmG id = nm) (p : Pc) (hp : p.at_ ≤ 1073741824 ∧ 28 ≤ p.n ∧ p.n ≤ 1073741824) (hD : RkS B w0 w k room R (.blk x [ptr k, .int .i64 (id : Int), rv] 80 :: F)) :
    Fn Tryz.prog 79 #[ptr x, pcV p] w fun r w' =>
      (readOk (datS R nm) p → ∃ u, r = .tuple #[.agg (ndC p.key p.cook p.dead u).toArray, .bool true] ∧ RkS B w0 w' k room R (.row 5 1 u (dData (rec (datS R nm) p)).length (bv (dData (rec (datS R nm) p))) :: .blk x [ptr k, .int .i64 (id : Int), rv] 80 :: F)) ∧
      (¬ readOk (datS R nm) p → r = .tuple #[zeroN, .bool false] ∧ RkS B w0 w' k room R (.blk x [ptr k, .int .i64 (id : Int), rv] 80 :: F)) := by
  have hraw := fun w F => rawR_fn (B := B) (w0 := w0) (w := w) (room := room) (R := R) (F := F) (rv := rv) (x := x) (k := k) hid hnm p hp
  have hok : readOk (datS R nm) p = (p.at_ + p.n ≤ (datS R nm).length ∧ dE (rec (datS R nm) p) = 0 ∧ szN (dSize (rec (datS R nm) p)) = p.n ∧ dKey (rec (datS R nm) p) = p.key ∧ dCook (rec (datS R nm) p) = p.cook ∧ dDead (rec (datS R nm) p) = p.dead) := rfl
  obtain ⟨dL, hL, hB, close⟩ := hD.open
  clear hD
  obtain ⟨key, at_, n, cook, dead⟩ := p
  dsimp only at hp hok ⊢
  rw [pcV, pcC] at *
  dsimp only at *
  generalize readOk (datS R nm) ⟨key, at_, n, cook, dead⟩ = RO at *
  generalize rec (datS R nm) ⟨key, at_, n, cook, dead⟩ = W at *
  refine Fn.mk Tryz.func79 rfl (by kernel_rfl) Tryz.ntmps79 rfl (by rw [Tryz.results79]) ?_
  repeat (first | (refine RunH ?_; intro w hL hB; try clear w) | (refine Both.mk ?_ ?_ <;> conv => whnf) | fail)
  (refine Nw.sep hL hB (fun t3 w hL hB ht3 => ?_); conv => whnf)
  repeat (first | (refine RunH ?_; intro w hL hB; try clear w) | (refine Both.mk ?_ ?_ <;> conv => whnf) | fail)
  (refine Nw.sep hL hB (fun t4 w hL hB ht4 => ?_); conv => whnf)
  repeat (first | (refine RunH ?_; intro w hL hB; try clear w) | (refine Both.mk ?_ ?_ <;> conv => whnf) | fail)
  replace hL := hL.perm (List.perm_middle (l₁ := [_, _]))
  refine (hraw _ _ (close (F' := _ :: _ :: _ :: F) hL hB)).mono fun r w ⟨hD, hr1, hr2⟩ => ?_
  clear close hL hB
  obtain ⟨dL, hL, hB, close⟩ := hD.open
  clear hD
  by_cases hlen : at_ + n ≤ (datS R nm).length
  case neg =>
    have hnR : ¬ RO := fun h => by rw [hok] at h; exact hlen h.1
    rw [hr2 hlen]
    conv => whnf
    repeat (first | (refine RunH ?_; intro w hL hB; try clear w) | (refine Both.mk ?_ ?_ <;> conv => whnf) | fail)
    refine (decNR_fn _ [] _ (Sl.nil _)).mono fun r w ⟨hr, hw⟩ => ?_
    have e2 : dE [] = 2 := rfl
    rcases hr with ⟨hE, rfl⟩ | ⟨hE, rfl⟩ | ⟨hE, u, rfl, ho⟩
    · rw [e2, zeroN]
      replace hL := hL.call hB (Turns.of_below hw)
      replace hB := Nat.le_trans hB hw.size
      conv => whnf
      (refine Nw.sep hL hB (fun t6 w hL hB ht6 => ?_); conv => whnf)
      repeat (first | (refine RunH ?_; intro w hL hB; try clear w) | (refine Both.mk ?_ ?_ <;> conv => whnf) | fail)
      exact ⟨fun h => absurd h hnR, fun _ => ⟨rfl, close (F' := _ :: F) (hL.sub (.cons _ (.cons_cons _ (.cons _ (.cons _ (.refl _)))))) hB⟩⟩
    · rw [e2] at hE; cases hE
    · rw [e2] at hE; cases hE
  have hsl := hr1 hlen
  clear hr1 hr2
  conv => whnf
  repeat (first | (refine RunH ?_; intro w hL hB; try clear w) | (refine Both.mk ?_ ?_ <;> conv => whnf) | fail)
  refine (decNR_fn _ W _ hsl).mono fun r w ⟨hr, hw⟩ => ?_
  have fin : ∀ {w : World} {X : List Res}, ¬ RO → Sep Tryz.prog B w0 w (X ++ (.blk x [ptr k, .int .i64 (id : Int), rv] 80 :: (F ++ dL))) → True := fun _ _ => trivial
  rcases hr with ⟨hE, rfl⟩ | ⟨hE, rfl⟩ | ⟨hE, u, rfl, ho⟩
  · have hnR : ¬ RO := fun h => by rw [hok] at h; omega
    have h0 : dE W ≠ 0 := by omega
    rw [zeroN]
    replace hL := hL.call hB (Turns.of_below hw)
    replace hB := Nat.le_trans hB hw.size
    generalize dE W = e at *
    conv => whnf
    (refine Nw.sep hL hB (fun t6 w hL hB ht6 => ?_); conv => whnf)
    repeat (first | (refine RunH ?_; intro w hL hB; try clear w) | (refine Both.mk ?_ ?_ <;> conv => whnf) | fail)
    exact ⟨fun h => absurd h hnR, fun _ => ⟨rfl, close (F' := _ :: F) (hL.sub (.cons _ (.cons_cons _ (.cons _ (.cons _ (.refl _)))))) hB⟩⟩
  · have hnR : ¬ RO := fun h => by rw [hok] at h; omega
    rw [ndC]
    replace hL := hL.call hB (Turns.of_below hw)
    replace hB := Nat.le_trans hB hw.size
    conv => whnf
    (refine Nw.sep hL hB (fun t6 w hL hB ht6 => ?_); conv => whnf)
    repeat (first | (refine RunH ?_; intro w hL hB; try clear w) | (refine Both.mk ?_ ?_ <;> conv => whnf) | fail)
    exact ⟨fun h => absurd h hnR, fun _ => ⟨rfl, close (F' := _ :: F) (hL.sub (.cons _ (.cons_cons _ (.cons _ (.cons _ (.refl _)))))) hB⟩⟩
  · replace hL := hL.addRow hB hw ho
    replace hB := Nat.le_trans hB hw.size
    obtain ⟨ua, uc, rfl⟩ := (show SlN w 1 u _ _ from hL.rowN (i := 0) rfl).shape
    rw [ndC]
    by_cases hc : szN (dSize W) = n
    case neg =>
      have hnR : ¬ RO := fun h => by rw [hok] at h; omega
      conv => whnf
      (refine Nw.sep hL hB (fun t6 w hL hB ht6 => ?_); conv => whnf)
      repeat (first | (refine RunH ?_; intro w hL hB; try clear w) | (refine Both.mk ?_ ?_ <;> conv => whnf) | fail)
      exact ⟨fun h => absurd h hnR, fun _ => ⟨rfl, close (F' := _ :: F) (hL.sub (.cons _ (.cons _ (.cons_cons _ (.cons _ (.cons _ (.refl _))))))) hB⟩⟩
    by_cases hck : dKey W = key
    case neg =>
      have hnR : ¬ RO := fun h => by rw [hok] at h; omega
      conv => whnf
      (refine Nw.sep hL hB (fun t6 w hL hB ht6 => ?_); conv => whnf)
      repeat (first | (refine RunH ?_; intro w hL hB; try clear w) | (refine Both.mk ?_ ?_ <;> conv => whnf) | fail)
      exact ⟨fun h => absurd h hnR, fun _ => ⟨rfl, close (F' := _ :: F) (hL.sub (.cons _ (.cons _ (.cons_cons _ (.cons _ (.cons _ (.refl _))))))) hB⟩⟩
    by_cases hcc : dCook W = cook
    case neg =>
      have hnR : ¬ RO := fun h => by rw [hok] at h; omega
      conv => whnf
      (refine Nw.sep hL hB (fun t6 w hL hB ht6 => ?_); conv => whnf)
      repeat (first | (refine RunH ?_; intro w hL hB; try clear w) | (refine Both.mk ?_ ?_ <;> conv => whnf) | fail)
      exact ⟨fun h => absurd h hnR, fun _ => ⟨rfl, close (F' := _ :: F) (hL.sub (.cons _ (.cons _ (.cons_cons _ (.cons _ (.cons _ (.refl _))))))) hB⟩⟩
    subst hck
    subst hcc
    generalize hdd : dDead W = dd at *
    by_cases hcd : dd = dead
    case neg =>
      have hnR : ¬ RO := fun h => by rw [hok] at h; exact hcd h.2.2.2.2.2
      conv => whnf
      (refine Nw.sep hL hB (fun t6 w hL hB ht6 => ?_); conv => whnf)
      repeat (first | (refine RunH ?_; intro w hL hB; try clear w) | (refine Both.mk ?_ ?_ <;> conv => whnf) | (refine Br.no (by simpa using hcd) ?_; conv => whnf) | (refine Br.yes (by simpa using hcd) ?_; conv => whnf) | fail)
      exact ⟨fun h => absurd h hnR, fun _ => ⟨rfl, close (F' := _ :: F) (hL.sub (.cons _ (.cons _ (.cons_cons _ (.cons _ (.cons _ (.refl _))))))) hB⟩⟩
    subst hcd
    have hyR : RO := by rw [hok]; exact ⟨hlen, hE, hc, rfl, rfl, rfl⟩
    conv => whnf
    (refine Nw.sep hL hB (fun t6 w hL hB ht6 => ?_); conv => whnf)
    repeat (first | (refine RunH ?_; intro w hL hB; try clear w) | (refine Both.mk ?_ ?_ <;> conv => whnf) | (refine Br.yes (by simp) ?_; conv => whnf) | (refine Br.no (by simp) ?_; conv => whnf) | fail)
    exact ⟨fun _ => ⟨_, rfl, close (F' := _ :: _ :: F) (hL.sub (.cons _ (.cons_cons _ (.cons_cons _ (.cons _ (.cons _ (.refl _))))))) hB⟩, fun h => absurd hyR h⟩
end
end Go.Proofs.YtpkealgeigpjpaaGreatDoor
namespace Go.Proofs.YtpkealgeigpjpaaGreatDoor
open Go.RowKit Go.Lib
set_option linter.unusedVariables false
set_option linter.unusedSimpArgs false
set_option maxRecDepth 100000
theorem Rv.goB {P : Program} {t : TypeId} {n : Nat} {ps : Array (Nat × Value)} {w : World} {K : Value → World → Prop} (h : Rv P (Instr.buildSlice t n ps) w K) : Rv P (Instr.buildSlice t n ps) w K := h
theorem Rv.goA {P : Program} {ts : Array TypeId} {t : TypeId} {vs : Array Value} {w : World} {K : Value → World → Prop} (h : Rv P (Builtin.append_ ts t vs) w K) : Rv P (Builtin.append_ ts t vs) w K := h
section
variable {B k x room id : Nat} {ra : Option Addr} {rc : Nat} {ps rL : List Pc} {R : List Fl} {F : List Res} {w0 w : World}
/-- the reference's volume, and its list -/
def rvRes (x k id : Nat) (ra : Option Addr) (rc : Nat) (rL : List Pc) (F : List Res) : List Res := .blk x [ptr k, .int .i64 (id : Int), .slice ra rL.length rc] 80 :: .row 97 5 (.slice ra rL.length rc) rL.length (rL.flatMap pcC) :: F
set_option maxHeartbeats 2000000 in
theorem rsize_fn {nm : ByteArray} {rv : Value} (hid : id ≤ 99999999) (hnm : vnmG id = nm) (hD : RkS B w0 w k room R (.blk x [ptr k, .int .i64 (id : Int), rv] 80 :: F)) :
    Fn Tryz.prog 53 #[ptr x] w fun r w' => r = .int .i64 (szS R nm : Nat) ∧ RkS B w0 w' k room R (.blk x [ptr k, .int .i64 (id : Int), rv] 80 :: F) := by
  have hname := nameR_fn id hid
  rw [hnm] at hname
  obtain ⟨dL, hL, hB, close⟩ := hD.open
  clear hD
  refine Fn.mk Tryz.func53 rfl (by kernel_rfl) Tryz.ntmps53 rfl (by rw [Tryz.results53]) ?_
  repeat (first | (refine RunK ?_; intro w hL hB; try clear w) | (refine V.tree ttOk (fun x0 => Sep Tryz.prog _ w0 x0 [.blk x [ptr k, .int .i64 (id : Int), rv] 80]) (.q 0 (.q 1 (.q 2 (.q 3 (.q 4 (.q 5 (.q 6 (.q 7 (.alt 8 (.alt 9 (.q 10 (.q 11 (.q 12 (.q 13 (.q 14 .nil))))) .stop) .stop))))))))) mixed (by decide +kernel) (hL.drew.one (i := 0) rfl) ?_; replace hL := hL.drew; conv => whnf) | (refine V.tailA ttOk mixed (by decide +kernel) ?_; replace hL := hL.drew; conv => whnf) | (refine Both.mk ?_ ?_ <;> conv => whnf) | fail)
  refine (hname _).mono fun r w ⟨hr, hw⟩ => ?_
  subst hr
  replace hL := hL.call hB (Turns.of_below hw)
  replace hB := Nat.le_trans hB hw.size
  conv => whnf
  refine ⟨hL.one (i := 0) rfl, ?_⟩
  conv => whnf
  repeat (first | (refine RunH ?_; intro w hL hB; try clear w) | (refine Both.mk ?_ ?_ <;> conv => whnf) | fail)
  refine (sizeR4_fn nm (close (F' := _ :: F) hL hB)).mono fun r w ⟨hr, hD⟩ => ?_
  subst hr
  clear close hL hB
  obtain ⟨dL, hL, hB, close⟩ := hD.open
  clear hD
  conv => whnf
  refine ⟨hL.one (i := 0) rfl, ?_⟩
  conv => whnf
  repeat (first | (refine RunH ?_; intro w hL hB; try clear w) | (refine Both.mk ?_ ?_ <;> conv => whnf) | fail)
  exact ⟨rfl, close (F' := _ :: F) hL hB⟩
def rgetPost (B : Nat) (w0 : World) (k room : Nat) (R : List Fl) (F : List Res) (nm : ByteArray) (ps : List Pc) (key cook : Nat) (r : Value) (w' : World) : Prop :=
  (vgetE R nm ps key cook = 0 → ∃ u, r = .tuple #[u, .int .i64 0] ∧ RkS B w0 w' k room R (.row 5 1 u (vgetD R nm ps key).length (bv (vgetD R nm ps key)) :: F)) ∧
  (vgetE R nm ps key cook ≠ 0 → r = .tuple #[.slice none 0 0, .int .i64 (vgetE R nm ps key cook : Nat)] ∧ RkS B w0 w' k room R F)
set_option maxHeartbeats 4000000 in
theorem rget_fn {nm : ByteArray} (hid : id ≤ 99999999) (hnm : vnmG id = nm) (key cook : Nat) (hrel : Rel ps rL) (hok : OkP rL) (hD : RkS B w0 w k room R (rvRes x k id ra rc rL F)) :
    Fn Tryz.prog 40 #[ptr x, .int .u64 (key : Int), .int .u32 (cook : Int)] w fun r w' => rgetPost B w0 k room R (rvRes x k id ra rc rL F) nm ps key cook r w' := by
  have hload := fun p hp w F => loadR_fn (B := B) (w0 := w0) (w := w) (room := room) (R := R) (F := F) (rv := .slice ra rL.length rc) (x := x) (k := k) hid hnm p hp
  have hE : vgetE R nm ps key cook = match getP ps key with | none => 7 | some p => if p.dead = true then 9 else if p.cook ≠ cook then 10 else if readOk (datS R nm) p then 0 else 4 := rfl
  have hDt : vgetD R nm ps key = match getP ps key with | none => [] | some p => dData (rec (datS R nm) p) := rfl
  rw [hrel.get] at hE hDt
  rw [rvRes] at *
  unfold rgetPost
  generalize vgetE R nm ps key cook = E at *
  generalize vgetD R nm ps key = D at *
  obtain ⟨dL, hL, hB, close⟩ := hD.open
  clear hD
  refine Fn.mk Tryz.func40 rfl (by kernel_rfl) Tryz.ntmps40 rfl (by rw [Tryz.results40]) ?_
  repeat (first | (refine RunH ?_; intro w hL hB; try clear w) | (refine Both.mk ?_ ?_ <;> conv => whnf) | fail)
  refine (thereR_fn key (hL.blk (i := 0) rfl) (hL.rowN (i := 1) rfl)).mono fun r w ⟨hr, hw⟩ => ?_
  subst hr
  replace hL := hL.call hB (Turns.of_below hw)
  replace hB := Nat.le_trans hB hw.size
  cases hg : there none rL key with
  | none =>
    rw [hg] at hE
    dsimp only at hE
    dsimp only [pcOf]
    conv => whnf
    (refine Nw.sep hL hB (fun t8 w hL hB ht8 => ?_); conv => whnf)
    repeat (first | (refine RunH ?_; intro w hL hB; try clear w) | (refine Both.mk ?_ ?_ <;> conv => whnf) | fail)
    exact ⟨fun h => by omega, fun _ => ⟨by rw [hE]; rfl, close (F' := _ :: _ :: F) hL.tl hB⟩⟩
  | some p =>
    have hpp := hok p (there_mem hg).2
    rw [hg] at hE hDt
    dsimp only at hE hDt
    dsimp only [pcOf, pcV, pcC]
    obtain ⟨pk, pa, pn, pc, pd⟩ := p
    dsimp only at *
    cases pd with
    | true =>
      rw [if_pos rfl] at hE
      conv => whnf
      (refine Nw.sep hL hB (fun t8 w hL hB ht8 => ?_); conv => whnf)
      repeat (first | (refine RunH ?_; intro w hL hB; try clear w) | (refine Both.mk ?_ ?_ <;> conv => whnf) | fail)
      exact ⟨fun h => by omega, fun _ => ⟨by rw [hE]; rfl, close (F' := _ :: _ :: F) hL.tl hB⟩⟩
    | false =>
      rw [if_neg (by decide)] at hE
      by_cases hc : pc = cook
      case neg =>
        rw [if_pos hc] at hE
        conv => whnf
        (refine Nw.sep hL hB (fun t8 w hL hB ht8 => ?_); conv => whnf)
        repeat (first | (refine RunH ?_; intro w hL hB; try clear w) | (refine Both.mk ?_ ?_ <;> conv => whnf) | fail)
        exact ⟨fun h => by omega, fun _ => ⟨by rw [hE]; rfl, close (F' := _ :: _ :: F) hL.tl hB⟩⟩
      rw [if_neg (fun h => h hc)] at hE
      conv => whnf
      (refine Nw.sep hL hB (fun t8 w hL hB ht8 => ?_); conv => whnf)
      replace hL := hL.perm (.swap _ _ _)
      repeat (first | (refine RunH ?_; intro w hL hB; try clear w) | (refine Both.mk ?_ ?_ <;> conv => whnf) | fail)
      refine (hload ⟨pk, pa, pn, pc, false⟩ ⟨hpp.2.2.1, hpp.2.2.2.1, by have := hpp.2.2.2.2; dsimp only at *; omega⟩ _ _ (close (F' := _ :: _ :: _ :: F) hL hB)).mono fun r w ⟨h1, h2⟩ => ?_
      clear close hL hB
      by_cases hro : readOk (datS R nm) ⟨pk, pa, pn, pc, false⟩
      · rw [if_pos hro] at hE
        obtain ⟨u, hr, hD⟩ := h1 hro
        rw [← hDt] at hD
        clear h1 h2
        subst hr
        obtain ⟨dL, hL, hB, close⟩ := hD.open
        clear hD
        obtain ⟨ua, uc, rfl⟩ := (show SlN w 1 u _ _ from hL.rowN (i := 0) rfl).shape
        rw [ndC]
        conv => whnf
        (refine Nw.sep hL hB (fun t10 w hL hB ht10 => ?_); conv => whnf)
        repeat (first | (refine RunH ?_; intro w hL hB; try clear w) | (refine Both.mk ?_ ?_ <;> conv => whnf) | fail)
        exact ⟨fun _ => ⟨_, rfl, close (F' := _ :: _ :: _ :: F) (hL.sub (.cons _ (.cons_cons _ (.cons_cons _ (.cons _ (.cons_cons _ (.refl _))))))) hB⟩, fun h => absurd hE h⟩
      · rw [if_neg hro] at hE
        obtain ⟨hr, hD⟩ := h2 hro
        clear h1 h2
        subst hr
        obtain ⟨dL, hL, hB, close⟩ := hD.open
        clear hD
        rw [zeroN]
        conv => whnf
        (refine Nw.sep hL hB (fun t10 w hL hB ht10 => ?_); conv => whnf)
        repeat (first | (refine RunH ?_; intro w hL hB; try clear w) | (refine Both.mk ?_ ?_ <;> conv => whnf) | fail)
        exact ⟨fun h => by omega, fun _ => ⟨by rw [hE]; rfl, close (F' := _ :: _ :: F) (hL.sub (.cons _ (.cons_cons _ (.cons _ (.cons_cons _ (.refl _)))))) hB⟩⟩
def vputL (room : Nat) (R : List Fl) (nm : ByteArray) (ps rL : List Pc) (key cook : Nat) (dead : Bool) (xs : List UInt8) : List Pc :=
  if vputE room R nm ps key dead xs.length = 0 then rL ++ [⟨key, szS R nm, szN xs.length, cook, dead⟩] else rL
theorem szRk_le {B : Nat} {w0 w : World} {b room : Nat} {S : List Fl} {F : List Res} (h : RkS B w0 w b room S F) (nm : ByteArray) : szS S nm ≤ 1073741824 := by
  obtain ⟨L, fs, rfl, hok, _⟩ := h.of
  have h1 := len1 hok.ok
  rw [szS, getF_fl]
  cases hg : getF fs nm with
  | none => simp
  | some f => exact h1 f (getF_mem hg)
set_option maxHeartbeats 8000000 in
theorem rput_fn {nm : ByteArray} (hid : id ≤ 99999999) (hnm : vnmG id = nm) (key cook : Nat) (dead : Bool) (nv : Value) (xs : List UInt8) (hk : key < 18446744073709551616) (hc : cook < 4294967296) (hrel : Rel ps rL) (hrl : rL.length ≤ 1000000) (hone : OneN nm R)
    (hnv : ∀ w', Sep Tryz.prog B w0 w' F → Sl w' nv (bv xs)) (hD : RkS B w0 w k room R (rvRes x k id ra rc rL F)) :
    Fn Tryz.prog 37 #[ptr x, .agg (ndC key cook dead nv).toArray] w fun r w' => r = .int .i64 (vputE room R nm ps key dead xs.length : Nat) ∧ ∃ ra' rc', RkS B w0 w' k room (vputS room R nm ps key cook dead xs) (rvRes x k id ra' rc' (vputL room R nm ps rL key cook dead xs) F) := by
  have hsz := szRk_le hD nm
  have hns := vnmG_size hid
  have hname := nameR_fn id hid
  rw [hnm] at hname hns
  have hnm6 : nm.size ≤ 140737488355328 := by omega
  have hsize := fun w F => rsize_fn (B := B) (w0 := w0) (w := w) (room := room) (R := R) (F := F) (rv := .slice ra rL.length rc) (x := x) (k := k) hid hnm
  have hnv' : ∀ {w : World} {X Y : List Res}, Sep Tryz.prog B w0 w (X ++ (F ++ Y)) → Sl w nv (bv xs) := fun h => hnv _ (h.sub ((List.sublist_append_left _ _).trans (List.sublist_append_right _ _)))
  have hB0 : vputB ps key dead = match there none rL key with | some o => if o.dead = true then 9 else if dead = false then 8 else 0 | none => 0 := by rw [← hrel.get]; rfl
  have hdef : vputE room R nm ps key dead xs.length = if encNE dead xs.length ≠ 0 then encNE dead xs.length else if vputB ps key dead ≠ 0 then vputB ps key dead else if 4194304 < szS R nm + szN xs.length then 6 else appE room R nm (szN xs.length) := rfl
  have hS : vputE room R nm ps key dead xs.length ≠ 0 → vputS room R nm ps key cook dead xs = R := fun h => if_neg h
  have hP : vputE room R nm ps key dead xs.length ≠ 0 → vputL room R nm ps rL key cook dead xs = rL := fun h => if_neg h
  have hS0 : vputE room R nm ps key dead xs.length = 0 → vputS room R nm ps key cook dead xs = syncS (appS room R nm (encN key cook dead xs)) nm := fun h => if_pos h
  have hP0 : vputE room R nm ps key dead xs.length = 0 → vputL room R nm ps rL key cook dead xs = rL ++ [⟨key, szS R nm, szN xs.length, cook, dead⟩] := fun h => if_pos h
  generalize vputE room R nm ps key dead xs.length = E at *
  generalize vputS room R nm ps key cook dead xs = S' at *
  generalize vputL room R nm ps rL key cook dead xs = P' at *
  rw [rvRes] at hD
  obtain ⟨dL, hL, hB, close⟩ := hD.open
  clear hD
  have hnv0 := hnv' (X := [_, _]) (Y := dL) hL
  obtain ⟨na, nc, rfl⟩ := hnv0.shape
  simp only [bv_length] at *
  have same : ∀ {w : World} {dL X : List Res}, (∀ {w' : World} {F' : List Res}, Sep Tryz.prog B w0 w' (F' ++ dL) → B ≤ w'.heap.size → RkS B w0 w' k room R F') → E ≠ 0 → Sep Tryz.prog B w0 w (X ++ (.blk x [ptr k, .int .i64 (id : Int), .slice ra rL.length rc] 80 :: .row 97 5 (.slice ra rL.length rc) rL.length (rL.flatMap pcC) :: (F ++ dL))) → B ≤ w.heap.size → ∃ ra' rc', RkS B w0 w k room S' (rvRes x k id ra' rc' P' F) := fun cl h1 h2 h3 => by
    rw [hS h1, hP h1]
    exact ⟨ra, rc, cl (F' := _ :: _ :: F) (h2.sub (List.sublist_append_right _ _)) h3⟩
  rw [ndC]
  refine Fn.mk Tryz.func37 rfl (by kernel_rfl) Tryz.ntmps37 rfl (by rw [Tryz.results37]) ?_
  repeat (first | (refine RunH ?_; intro w hL hB; try clear w) | (refine Both.mk ?_ ?_ <;> conv => whnf) | fail)
  (refine Nw.sep hL hB (fun t3 w hL hB ht3 => ?_); conv => whnf)
  repeat (first | (refine RunH ?_; intro w hL hB; try clear w) | (refine Both.mk ?_ ?_ <;> conv => whnf) | fail)
  by_cases hE1 : encNE dead xs.length = 0
  case neg =>
    rw [if_pos hE1] at hdef
    have h0 : E ≠ 0 := by rw [hdef]; exact hE1
    refine (encNR_bad key cook dead _ xs _ (hnv' (X := [_, _, _]) (Y := dL) hL) hE1).mono fun r w ⟨hr, hw⟩ => ?_
    subst hr
    replace hL := hL.call hB (Turns.of_below hw)
    replace hB := Nat.le_trans hB hw.size
    rw [← hdef]
    conv => whnf
    repeat (first | (refine RunH ?_; intro w hL hB; try clear w) | (refine Both.mk ?_ ?_ <;> conv => whnf) | (refine Br.yes (by simp; omega) ?_; conv => whnf) | fail)
    exact ⟨rfl, same (X := [_]) close h0 hL hB⟩
  rw [if_neg (fun h => h hE1)] at hdef
  have hxl : xs.length ≤ 65536 := by
    rw [encNE] at hE1
    split at hE1
    · cases hE1
    · split at hE1
      · cases hE1
      · omega
  have hel := encN_len key cook dead xs
  have hszn := szN_le xs.length
  refine (encNR_fn key cook dead _ xs hk hc _ (hnv' (X := [_, _, _]) (Y := dL) hL) hE1).mono fun r w ⟨u, hr, ho, hw⟩ => ?_
  subst hr
  replace hL := hL.addRow hB hw ho
  replace hB := Nat.le_trans hB hw.size
  obtain ⟨ua, uc, rfl⟩ := (show SlN w 1 u _ _ from hL.rowN (i := 0) rfl).shape
  rw [hel] at hL ⊢
  generalize hEE : encN key cook dead xs = EE at *
  clear ho hw
  conv => whnf
  repeat (first | (refine RunH ?_; intro w hL hB; try clear w) | (refine Both.mk ?_ ?_ <;> conv => whnf) | fail)
  refine (thereR_fn key (hL.blk (i := 2) rfl) (hL.rowN (i := 3) rfl)).mono fun r w ⟨hr, hw⟩ => ?_
  subst hr
  replace hL := hL.call hB (Turns.of_below hw)
  replace hB := Nat.le_trans hB hw.size
  generalize hpv : pcOf (there none rL key) = pv
  obtain ⟨pk, pa, pn, pc, pd, hpv', hpB⟩ : ∃ (pk pa pn pc : Int) (pd : Bool), pv = .agg #[.int .u64 pk, .int .i64 pa, .int .i64 pn, .int .u32 pc, .bool pd] ∧ (vputB ps key dead = if (there none rL key).isSome = true ∧ pd = true then 9 else if (there none rL key).isSome = true ∧ dead = false then 8 else 0) := by
    subst hpv
    rw [hB0]
    cases hg : there none rL key with
    | none => exact ⟨0, 0, 0, 0, false, rfl, by simp⟩
    | some o => exact ⟨o.key, o.at_, o.n, o.cook, o.dead, rfl, by simp⟩
  subst hpv'
  generalize hso : (there none rL key).isSome = so at *
  conv => whnf
  (refine Nw.sep hL hB (fun t7 w hL hB ht7 => ?_); conv => whnf)
  replace hL := hL.front (i := 3) rfl
  dsimp only [List.eraseIdx] at hL
  by_cases h9 : so = true ∧ pd = true
  · obtain ⟨rfl, rfl⟩ := h9
    rw [if_pos ⟨rfl, rfl⟩] at hpB
    rw [hpB, if_pos (by decide)] at hdef
    have h0 : E ≠ 0 := by rw [hdef]; decide
    rw [hdef]
    repeat (first | (refine RunH ?_; intro w hL hB; try clear w) | (refine Both.mk ?_ ?_ <;> conv => whnf) | fail)
    exact ⟨rfl, same (X := []) close h0 (hL.sub (.cons_cons _ (.cons _ (.cons _ (.cons _ (.refl _)))))) hB⟩
  by_cases h8 : so = true ∧ dead = false
  · obtain ⟨rfl, rfl⟩ := h8
    obtain rfl : pd = false := by cases pd; rfl; exact absurd ⟨rfl, rfl⟩ h9
    rw [if_neg h9, if_pos ⟨rfl, rfl⟩] at hpB
    rw [hpB, if_pos (by decide)] at hdef
    have h0 : E ≠ 0 := by rw [hdef]; decide
    rw [hdef]
    repeat (first | (refine RunH ?_; intro w hL hB; try clear w) | (refine Both.mk ?_ ?_ <;> conv => whnf) | fail)
    exact ⟨rfl, same (X := []) close h0 (hL.sub (.cons_cons _ (.cons _ (.cons _ (.cons _ (.refl _)))))) hB⟩
  rw [if_neg h9, if_neg h8] at hpB
  rw [hpB, if_neg (fun h => h rfl)] at hdef
  have hgo : so = false ∨ (so = true ∧ pd = false ∧ dead = true) := by
    cases so
    · exact .inl rfl
    · refine .inr ⟨rfl, ?_, ?_⟩
      · cases pd; rfl; exact absurd ⟨rfl, rfl⟩ h9
      · cases dead; exact absurd ⟨rfl, rfl⟩ h8; rfl
  rcases hgo with rfl | ⟨rfl, rfl, hdt⟩ <;> (
    repeat (first | (refine RunH ?_; intro w hL hB; try clear w) | (refine Both.mk ?_ ?_ <;> conv => whnf) | fail)
    refine (hsize _ _ (close (F' := _ :: _ :: _ :: _ :: _ :: F) hL hB)).mono fun r w ⟨hr, hD⟩ => ?_
    subst hr
    clear close hL hB
    obtain ⟨dL, hL, hB, close⟩ := hD.open
    clear hD
    by_cases h6 : 4194304 < szS R nm + szN xs.length
    case' pos =>
      rw [if_pos h6] at hdef
      have h0 : E ≠ 0 := by rw [hdef]; decide
      rw [hdef]
      conv => whnf
      repeat (first | (refine RunH ?_; intro w hL hB; try clear w) | (refine Both.mk ?_ ?_ <;> conv => whnf) | fail)
      exact ⟨rfl, same (X := []) close h0 (hL.sub (.cons_cons _ (.cons _ (.cons _ (.cons _ (.refl _)))))) hB⟩
    rw [if_neg h6] at hdef
    conv => whnf
    repeat (first | (refine RunK ?_; intro w hL hB; try clear w) | (refine V.tree ttOk (fun x0 => Sep Tryz.prog _ w0 x0 [.blk x [ptr k, .int .i64 (id : Int), .slice ra rL.length rc] 80]) (.q 0 (.q 1 (.q 2 (.q 3 (.q 4 (.q 5 (.q 6 (.q 7 (.q 9 (.alt 8 (.alt 10 (.q 11 .nil) .stop) .stop)))))))))) mixed (by decide +kernel) (hL.drew.one (i := 0) rfl) ?_; replace hL := hL.drew; conv => whnf) | (refine V.tailA ttOk mixed (by decide +kernel) ?_; replace hL := hL.drew; conv => whnf) | (refine Both.mk ?_ ?_ <;> conv => whnf) | fail)
    refine (hname _).mono fun r w ⟨hr, hw⟩ => ?_
    subst hr
    replace hL := hL.call hB (Turns.of_below hw)
    replace hB := Nat.le_trans hB hw.size
    conv => whnf
    refine ⟨hL.one (i := 0) rfl, ?_⟩
    conv => whnf
    repeat (first | (refine RunH ?_; intro w hL hB; try clear w) | (refine Both.mk ?_ ?_ <;> conv => whnf) | fail)
    refine (appendR_fn nm hnm6 _ EE (by omega) (fun w' h => by have := h.row (i := 2) rfl; exact this) (close (F' := _ :: _ :: _ :: _ :: _ :: F) hL hB)).mono fun r w ⟨hr, R', hp', hD⟩ => ?_
    rw [hel] at hr
    subst hr
    obtain rfl := (hone.app room EE).perm hp'
    clear close hL hB hp'
    obtain ⟨dL, hL, hB, close⟩ := hD.open
    clear hD
    by_cases hA : appE room R nm (szN xs.length) = 0
    case' neg =>
      have h0 : E ≠ 0 := by rw [hdef]; exact hA
      rw [show appS room R nm EE = R from by rw [appS, hel, if_neg hA]] at close
      rw [← hdef]
      conv => whnf
      refine ⟨hL.one (i := 0) rfl, ?_⟩
      conv => whnf
      repeat (first | (refine RunH ?_; intro w hL hB; try clear w) | (refine Both.mk ?_ ?_ <;> conv => whnf) | (refine Br.yes (by simp; omega) ?_; conv => whnf) | fail)
      exact ⟨rfl, same (X := []) close h0 (hL.sub (.cons_cons _ (.cons _ (.cons _ (.cons _ (.refl _)))))) hB⟩
    rw [hA] at hdef ⊢
    rw [hS0 hdef, hP0 hdef]
    conv => whnf
    refine ⟨hL.one (i := 0) rfl, ?_⟩
    conv => whnf
    repeat (first | (refine RunK ?_; intro w hL hB; try clear w) | (refine V.tree ttOk (fun x0 => Sep Tryz.prog _ w0 x0 [.blk x [ptr k, .int .i64 (id : Int), .slice ra rL.length rc] 80]) (.q 0 (.q 1 (.q 2 (.q 3 (.q 4 (.q 5 (.q 6 (.q 7 (.alt 8 (.alt 9 .nil .stop) .stop))))))))) mixed (by decide +kernel) (hL.drew.one (i := 0) rfl) ?_; replace hL := hL.drew; conv => whnf) | (refine V.tailA ttOk mixed (by decide +kernel) ?_; replace hL := hL.drew; conv => whnf) | (refine Both.mk ?_ ?_ <;> conv => whnf) | fail)
    refine (hname _).mono fun r w ⟨hr, hw⟩ => ?_
    subst hr
    replace hL := hL.call hB (Turns.of_below hw)
    replace hB := Nat.le_trans hB hw.size
    conv => whnf
    refine ⟨hL.one (i := 0) rfl, ?_⟩
    conv => whnf
    repeat (first | (refine RunH ?_; intro w hL hB; try clear w) | (refine Both.mk ?_ ?_ <;> conv => whnf) | fail)
    refine (syncR_fn nm (close (F' := _ :: _ :: _ :: _ :: _ :: F) hL hB)).mono fun r w ⟨hr, hD⟩ => ?_
    clear close hL hB
    obtain ⟨dL, hL, hB, close⟩ := hD.open
    clear hD
    conv => whnf
    refine ⟨hL.one (i := 0) rfl, ?_⟩
    conv => whnf
    repeat (first | (refine RunH ?_; intro w hL hB; try clear w) | (refine Both.mk ?_ ?_ <;> conv => whnf) | fail)
    have hpcs : ∀ u ∈ rL.flatMap pcC, u.oneCell' = true := fun u hu => by
      obtain ⟨q, _, hq⟩ := List.mem_flatMap.1 hu
      simp only [pcC, List.mem_cons, List.not_mem_nil, or_false] at hq
      rcases hq with rfl | rfl | rfl | rfl | rfl <;> rfl
    have hpc1 : ∀ u ∈ pcC ⟨key, szS R nm, szN xs.length, cook, dead⟩, u.oneCell' = true := fun u hq => by
      simp only [pcC, List.mem_cons, List.not_mem_nil, or_false] at hq
      rcases hq with rfl | rfl | rfl | rfl | rfl <;> rfl
    generalize hq1 : szS R nm = q1 at *
    generalize hq2 : szN xs.length = q2 at *
    clear hB0 hsize hname hE1 hpB h9 h8
    have hfin : ∀ {w : World} {vb : Option Addr} {vd : Nat}, Sep Tryz.prog B w0 w (.row 97 5 (.slice vb (rL.length + 1) vd) (rL.length + 1) (rL.flatMap pcC ++ pcC ⟨key, q1, q2, cook, dead⟩) :: .blk x [ptr k, .int .i64 (id : Int), .slice vb (rL.length + 1) vd] 80 :: (F ++ dL)) → Sep Tryz.prog B w0 w (rvRes x k id vb vd (rL ++ [⟨key, q1, q2, cook, dead⟩]) (F ++ dL)) := fun h => by
      rw [rvRes, List.flatMap_append, List.length_append]
      have := h.perm (.swap _ _ _)
      simpa using this
    refine V.join (α := Option Addr × Nat) (fun z => []) (fun z w' => B ≤ w'.heap.size ∧ Sep Tryz.prog B w0 w' (rvRes x k id z.1 z.2 (rL ++ [⟨key, q1, q2, cook, dead⟩]) (F ++ dL))) ?_ ?_
    · repeat (first | (refine RunK ?_; intro w hL hB; try clear w) | (refine V.tree ttOk (fun x0 => Sep Tryz.prog _ w0 x0 (.blk t3 [.int .u64 (key : Int), .int .u32 (cook : Int), .bool dead, .slice na xs.length nc] 49 :: .row 97 5 (.slice ra rL.length rc) rL.length (rL.flatMap pcC) :: (F ++ dL))) (.q 0 (.q 2 (.q 3 (.q 4 (.q 7 (.q 8 (.q 9 (.q 10 (.q 11 (.q 12 (.q 13 (.q 14 (.q 15 (.q 16 (.alt 1 (.alt 5 (.alt 6 (.alt 17 (.alt 18 (.q 19 (.q 20 (.alt 21 .nil .stop))) .stop) .stop) (.alt 17 (.alt 6 (.alt 18 (.q 19 (.q 20 (.alt 21 .nil .stop))) .stop) .stop) .stop)) (.alt 17 (.alt 5 (.alt 6 (.alt 18 (.q 19 (.q 20 (.alt 21 .nil .stop))) .stop) .stop) .stop) .stop)) (.alt 5 (.alt 1 (.alt 6 (.alt 17 (.alt 18 (.q 19 (.q 20 (.alt 21 .nil .stop))) .stop) .stop) (.alt 17 (.alt 6 (.alt 18 (.q 19 (.q 20 (.alt 21 .nil .stop))) .stop) .stop) .stop)) (.alt 17 (.alt 1 (.alt 6 (.alt 18 (.q 19 (.q 20 (.alt 21 .nil .stop))) .stop) .stop) .stop) .stop)) (.alt 17 (.alt 1 (.alt 5 (.alt 6 (.alt 18 (.q 19 (.q 20 (.alt 21 .nil .stop))) .stop) .stop) .stop) (.alt 5 (.alt 1 (.alt 6 (.alt 18 (.q 19 (.q 20 (.alt 21 .nil .stop))) .stop) .stop) .stop) .stop)) .stop))))))))))))))))) mixed (by decide +kernel) (hL.drew.sub (.cons _ (.cons _ (.cons _ (.refl _))))) ?_; replace hL := hL.drew; conv => whnf) | (refine V.tailA ttOk mixed (by decide +kernel) ?_; replace hL := hL.drew; conv => whnf) | (refine Both.mk ?_ ?_ <;> conv => whnf) | fail)
      refine Rv.buildS (len := 0) (vs := []) ttOk hL tl78 tl97 rfl rfl (by intro u hu; cases hu) (by decide) (by decide) hB fun bo w hL hB => ?_
      conv => whnf
      repeat (first | (refine RunH ?_; intro w hL hB; try clear w) | (refine Both.mk ?_ ?_ <;> conv => whnf) | fail)
      refine Rv.appendS (m := rL.length) ttOk hL tl78 tl97 rfl (by decide) 0 rfl (hL.rowN (i := 5) rfl) hpcs (by simp only [maxLen]; omega) (by omega) hB fun vo w hL hB => ?_
      dsimp only [List.set] at hL
      rw [Nat.zero_add, List.flatMap_nil, List.nil_append] at hL
      obtain ⟨va, vc, rfl⟩ := (show SlN w 5 vo rL.length _ from hL.rowN (i := 0) rfl).shape
      conv => whnf
      repeat (first | (refine RunH ?_; intro w hL hB; try clear w) | (refine Both.mk ?_ ?_ <;> conv => whnf) | fail)
      refine Rv.buildS (len := 1) (vs := [pcV ⟨key, q1, q2, cook, dead⟩]) ttOk hL tl78 tl97 rfl rfl (by intro u hu; simp only [List.mem_singleton] at hu; subst hu; rfl) (by decide) (by decide) hB fun bp w hL hB => ?_
      replace hL : Sep Tryz.prog B w0 w (.row 97 5 (.slice (some ⟨bp, 0, none⟩) 1 1) 1 (pcC ⟨key, q1, q2, cook, dead⟩) :: _) := hL
      conv => whnf
      repeat (first | (refine RunH ?_; intro w hL hB; try clear w) | (refine Both.mk ?_ ?_ <;> conv => whnf) | fail)
      refine Rv.appendS (m := 1) ttOk hL tl78 tl97 rfl (by decide) 1 rfl (hL.rowN (i := 0) rfl) hpc1 (by simp only [maxLen]; omega) (by omega) hB fun vo w hL hB => ?_
      dsimp only [List.set] at hL
      obtain ⟨vb, vd, rfl⟩ := (show SlN w 5 vo (rL.length + 1) _ from hL.rowN (i := 1) rfl).shape
      conv => whnf
      repeat (first | (refine RunH ?_; intro w hL hB; try clear w) | (refine Both.mk ?_ ?_ <;> conv => whnf) | fail)
      exact ⟨(vb, vd), trivial, hB, hfin (hL.sub (.cons _ (.cons_cons _ (.cons_cons _ (.cons _ (.cons _ (.cons _ (.cons _ (.refl _)))))))))⟩
      repeat (first | (refine RunH ?_; intro w hL hB; try clear w) | (refine Both.mk ?_ ?_ <;> conv => whnf) | fail)
      refine Rv.buildS (len := 1) (vs := [pcV ⟨key, q1, q2, cook, dead⟩]) ttOk hL tl78 tl97 rfl rfl (by intro u hu; simp only [List.mem_singleton] at hu; subst hu; rfl) (by decide) (by decide) hB fun bp w hL hB => ?_
      replace hL : Sep Tryz.prog B w0 w (.row 97 5 (.slice (some ⟨bp, 0, none⟩) 1 1) 1 (pcC ⟨key, q1, q2, cook, dead⟩) :: _) := hL
      conv => whnf
      repeat (first | (refine RunH ?_; intro w hL hB; try clear w) | (refine Both.mk ?_ ?_ <;> conv => whnf) | fail)
      refine Rv.appendS (m := rL.length) ttOk hL tl78 tl97 rfl (by decide) 1 rfl (hL.rowN (i := 6) rfl) hpcs (by simp only [maxLen]; omega) (by omega) hB fun vo w hL hB => ?_
      dsimp only [List.set] at hL
      rw [Nat.zero_add, List.flatMap_nil, List.nil_append] at hL
      obtain ⟨va, vc, rfl⟩ := (show SlN w 5 vo rL.length _ from hL.rowN (i := 1) rfl).shape
      conv => whnf
      repeat (first | (refine RunH ?_; intro w hL hB; try clear w) | (refine Both.mk ?_ ?_ <;> conv => whnf) | fail)
      refine Rv.appendS (m := 1) ttOk hL tl78 tl97 rfl (by decide) 1 rfl (hL.rowN (i := 0) rfl) hpc1 (by simp only [maxLen]; omega) (by omega) hB fun vo w hL hB => ?_
      dsimp only [List.set] at hL
      obtain ⟨vb, vd, rfl⟩ := (show SlN w 5 vo (rL.length + 1) _ from hL.rowN (i := 1) rfl).shape
      conv => whnf
      repeat (first | (refine RunH ?_; intro w hL hB; try clear w) | (refine Both.mk ?_ ?_ <;> conv => whnf) | fail)
      exact ⟨(vb, vd), trivial, hB, hfin (hL.sub (.cons _ (.cons_cons _ (.cons_cons _ (.cons _ (.cons _ (.cons _ (.cons _ (.refl _)))))))))⟩
      repeat (first | (refine RunH ?_; intro w hL hB; try clear w) | (refine Both.mk ?_ ?_ <;> conv => whnf) | fail)
      refine Rv.buildS (len := 1) (vs := [pcV ⟨key, q1, q2, cook, dead⟩]) ttOk hL tl78 tl97 rfl rfl (by intro u hu; simp only [List.mem_singleton] at hu; subst hu; rfl) (by decide) (by decide) hB fun bp w hL hB => ?_
      replace hL : Sep Tryz.prog B w0 w (.row 97 5 (.slice (some ⟨bp, 0, none⟩) 1 1) 1 (pcC ⟨key, q1, q2, cook, dead⟩) :: _) := hL
      conv => whnf
      repeat (first | (refine RunH ?_; intro w hL hB; try clear w) | (refine Both.mk ?_ ?_ <;> conv => whnf) | fail)
      refine Rv.appendS (m := rL.length) ttOk hL tl78 tl97 rfl (by decide) 1 rfl (hL.rowN (i := 6) rfl) hpcs (by simp only [maxLen]; omega) (by omega) hB fun vo w hL hB => ?_
      dsimp only [List.set] at hL
      rw [Nat.zero_add, List.flatMap_nil, List.nil_append] at hL
      obtain ⟨va, vc, rfl⟩ := (show SlN w 5 vo rL.length _ from hL.rowN (i := 1) rfl).shape
      conv => whnf
      repeat (first | (refine RunH ?_; intro w hL hB; try clear w) | (refine Both.mk ?_ ?_ <;> conv => whnf) | fail)
      refine Rv.appendS (m := 1) ttOk hL tl78 tl97 rfl (by decide) 1 rfl (hL.rowN (i := 0) rfl) hpc1 (by simp only [maxLen]; omega) (by omega) hB fun vo w hL hB => ?_
      dsimp only [List.set] at hL
      obtain ⟨vb, vd, rfl⟩ := (show SlN w 5 vo (rL.length + 1) _ from hL.rowN (i := 1) rfl).shape
      conv => whnf
      repeat (first | (refine RunH ?_; intro w hL hB; try clear w) | (refine Both.mk ?_ ?_ <;> conv => whnf) | fail)
      exact ⟨(vb, vd), trivial, hB, hfin (hL.sub (.cons _ (.cons_cons _ (.cons_cons _ (.cons _ (.cons _ (.cons _ (.cons _ (.refl _)))))))))⟩
      repeat (first | (refine RunH ?_; intro w hL hB; try clear w) | (refine Both.mk ?_ ?_ <;> conv => whnf) | fail)
      refine Rv.buildS (len := 0) (vs := []) ttOk hL tl78 tl97 rfl rfl (by intro u hu; cases hu) (by decide) (by decide) hB fun bo w hL hB => ?_
      conv => whnf
      repeat (first | (refine RunH ?_; intro w hL hB; try clear w) | (refine Both.mk ?_ ?_ <;> conv => whnf) | fail)
      refine Rv.appendS (m := rL.length) ttOk hL tl78 tl97 rfl (by decide) 0 rfl (hL.rowN (i := 5) rfl) hpcs (by simp only [maxLen]; omega) (by omega) hB fun vo w hL hB => ?_
      dsimp only [List.set] at hL
      rw [Nat.zero_add, List.flatMap_nil, List.nil_append] at hL
      obtain ⟨va, vc, rfl⟩ := (show SlN w 5 vo rL.length _ from hL.rowN (i := 0) rfl).shape
      conv => whnf
      repeat (first | (refine RunH ?_; intro w hL hB; try clear w) | (refine Both.mk ?_ ?_ <;> conv => whnf) | fail)
      refine Rv.buildS (len := 1) (vs := [pcV ⟨key, q1, q2, cook, dead⟩]) ttOk hL tl78 tl97 rfl rfl (by intro u hu; simp only [List.mem_singleton] at hu; subst hu; rfl) (by decide) (by decide) hB fun bp w hL hB => ?_
      replace hL : Sep Tryz.prog B w0 w (.row 97 5 (.slice (some ⟨bp, 0, none⟩) 1 1) 1 (pcC ⟨key, q1, q2, cook, dead⟩) :: _) := hL
      conv => whnf
      repeat (first | (refine RunH ?_; intro w hL hB; try clear w) | (refine Both.mk ?_ ?_ <;> conv => whnf) | fail)
      refine Rv.appendS (m := 1) ttOk hL tl78 tl97 rfl (by decide) 1 rfl (hL.rowN (i := 0) rfl) hpc1 (by simp only [maxLen]; omega) (by omega) hB fun vo w hL hB => ?_
      dsimp only [List.set] at hL
      obtain ⟨vb, vd, rfl⟩ := (show SlN w 5 vo (rL.length + 1) _ from hL.rowN (i := 1) rfl).shape
      conv => whnf
      repeat (first | (refine RunH ?_; intro w hL hB; try clear w) | (refine Both.mk ?_ ?_ <;> conv => whnf) | fail)
      exact ⟨(vb, vd), trivial, hB, hfin (hL.sub (.cons _ (.cons_cons _ (.cons_cons _ (.cons _ (.cons _ (.cons _ (.cons _ (.refl _)))))))))⟩
      repeat (first | (refine RunH ?_; intro w hL hB; try clear w) | (refine Both.mk ?_ ?_ <;> conv => whnf) | fail)
      refine Rv.buildS (len := 1) (vs := [pcV ⟨key, q1, q2, cook, dead⟩]) ttOk hL tl78 tl97 rfl rfl (by intro u hu; simp only [List.mem_singleton] at hu; subst hu; rfl) (by decide) (by decide) hB fun bp w hL hB => ?_
      replace hL : Sep Tryz.prog B w0 w (.row 97 5 (.slice (some ⟨bp, 0, none⟩) 1 1) 1 (pcC ⟨key, q1, q2, cook, dead⟩) :: _) := hL
      conv => whnf
      repeat (first | (refine RunH ?_; intro w hL hB; try clear w) | (refine Both.mk ?_ ?_ <;> conv => whnf) | fail)
      refine Rv.appendS (m := rL.length) ttOk hL tl78 tl97 rfl (by decide) 1 rfl (hL.rowN (i := 6) rfl) hpcs (by simp only [maxLen]; omega) (by omega) hB fun vo w hL hB => ?_
      dsimp only [List.set] at hL
      rw [Nat.zero_add, List.flatMap_nil, List.nil_append] at hL
      obtain ⟨va, vc, rfl⟩ := (show SlN w 5 vo rL.length _ from hL.rowN (i := 1) rfl).shape
      conv => whnf
      repeat (first | (refine RunH ?_; intro w hL hB; try clear w) | (refine Both.mk ?_ ?_ <;> conv => whnf) | fail)
      refine Rv.appendS (m := 1) ttOk hL tl78 tl97 rfl (by decide) 1 rfl (hL.rowN (i := 0) rfl) hpc1 (by simp only [maxLen]; omega) (by omega) hB fun vo w hL hB => ?_
      dsimp only [List.set] at hL
      obtain ⟨vb, vd, rfl⟩ := (show SlN w 5 vo (rL.length + 1) _ from hL.rowN (i := 1) rfl).shape
      conv => whnf
      repeat (first | (refine RunH ?_; intro w hL hB; try clear w) | (refine Both.mk ?_ ?_ <;> conv => whnf) | fail)
      exact ⟨(vb, vd), trivial, hB, hfin (hL.sub (.cons _ (.cons_cons _ (.cons_cons _ (.cons _ (.cons _ (.cons _ (.cons _ (.refl _)))))))))⟩
      repeat (first | (refine RunH ?_; intro w hL hB; try clear w) | (refine Both.mk ?_ ?_ <;> conv => whnf) | fail)
      refine Rv.buildS (len := 1) (vs := [pcV ⟨key, q1, q2, cook, dead⟩]) ttOk hL tl78 tl97 rfl rfl (by intro u hu; simp only [List.mem_singleton] at hu; subst hu; rfl) (by decide) (by decide) hB fun bp w hL hB => ?_
      replace hL : Sep Tryz.prog B w0 w (.row 97 5 (.slice (some ⟨bp, 0, none⟩) 1 1) 1 (pcC ⟨key, q1, q2, cook, dead⟩) :: _) := hL
      conv => whnf
      repeat (first | (refine RunH ?_; intro w hL hB; try clear w) | (refine Both.mk ?_ ?_ <;> conv => whnf) | fail)
      refine Rv.buildS (len := 0) (vs := []) ttOk hL tl78 tl97 rfl rfl (by intro u hu; cases hu) (by decide) (by decide) hB fun bo w hL hB => ?_
      conv => whnf
      repeat (first | (refine RunH ?_; intro w hL hB; try clear w) | (refine Both.mk ?_ ?_ <;> conv => whnf) | fail)
      refine Rv.appendS (m := rL.length) ttOk hL tl78 tl97 rfl (by decide) 0 rfl (hL.rowN (i := 6) rfl) hpcs (by simp only [maxLen]; omega) (by omega) hB fun vo w hL hB => ?_
      dsimp only [List.set] at hL
      rw [Nat.zero_add, List.flatMap_nil, List.nil_append] at hL
      obtain ⟨va, vc, rfl⟩ := (show SlN w 5 vo rL.length _ from hL.rowN (i := 0) rfl).shape
      conv => whnf
      repeat (first | (refine RunH ?_; intro w hL hB; try clear w) | (refine Both.mk ?_ ?_ <;> conv => whnf) | fail)
      refine Rv.appendS (m := 1) ttOk hL tl78 tl97 rfl (by decide) 0 rfl (hL.rowN (i := 1) rfl) hpc1 (by simp only [maxLen]; omega) (by omega) hB fun vo w hL hB => ?_
      dsimp only [List.set] at hL
      obtain ⟨vb, vd, rfl⟩ := (show SlN w 5 vo (rL.length + 1) _ from hL.rowN (i := 0) rfl).shape
      conv => whnf
      repeat (first | (refine RunH ?_; intro w hL hB; try clear w) | (refine Both.mk ?_ ?_ <;> conv => whnf) | fail)
      exact ⟨(vb, vd), trivial, hB, hfin (hL.sub (.cons_cons _ (.cons _ (.cons_cons _ (.cons _ (.cons _ (.cons _ (.cons _ (.refl _)))))))))⟩
      repeat (first | (refine RunH ?_; intro w hL hB; try clear w) | (refine Both.mk ?_ ?_ <;> conv => whnf) | fail)
      refine Rv.buildS (len := 1) (vs := [pcV ⟨key, q1, q2, cook, dead⟩]) ttOk hL tl78 tl97 rfl rfl (by intro u hu; simp only [List.mem_singleton] at hu; subst hu; rfl) (by decide) (by decide) hB fun bp w hL hB => ?_
      replace hL : Sep Tryz.prog B w0 w (.row 97 5 (.slice (some ⟨bp, 0, none⟩) 1 1) 1 (pcC ⟨key, q1, q2, cook, dead⟩) :: _) := hL
      conv => whnf
      repeat (first | (refine RunH ?_; intro w hL hB; try clear w) | (refine Both.mk ?_ ?_ <;> conv => whnf) | fail)
      refine Rv.buildS (len := 0) (vs := []) ttOk hL tl78 tl97 rfl rfl (by intro u hu; cases hu) (by decide) (by decide) hB fun bo w hL hB => ?_
      conv => whnf
      repeat (first | (refine RunH ?_; intro w hL hB; try clear w) | (refine Both.mk ?_ ?_ <;> conv => whnf) | fail)
      refine Rv.appendS (m := rL.length) ttOk hL tl78 tl97 rfl (by decide) 0 rfl (hL.rowN (i := 6) rfl) hpcs (by simp only [maxLen]; omega) (by omega) hB fun vo w hL hB => ?_
      dsimp only [List.set] at hL
      rw [Nat.zero_add, List.flatMap_nil, List.nil_append] at hL
      obtain ⟨va, vc, rfl⟩ := (show SlN w 5 vo rL.length _ from hL.rowN (i := 0) rfl).shape
      conv => whnf
      repeat (first | (refine RunH ?_; intro w hL hB; try clear w) | (refine Both.mk ?_ ?_ <;> conv => whnf) | fail)
      refine Rv.appendS (m := 1) ttOk hL tl78 tl97 rfl (by decide) 0 rfl (hL.rowN (i := 1) rfl) hpc1 (by simp only [maxLen]; omega) (by omega) hB fun vo w hL hB => ?_
      dsimp only [List.set] at hL
      obtain ⟨vb, vd, rfl⟩ := (show SlN w 5 vo (rL.length + 1) _ from hL.rowN (i := 0) rfl).shape
      conv => whnf
      repeat (first | (refine RunH ?_; intro w hL hB; try clear w) | (refine Both.mk ?_ ?_ <;> conv => whnf) | fail)
      exact ⟨(vb, vd), trivial, hB, hfin (hL.sub (.cons_cons _ (.cons _ (.cons_cons _ (.cons _ (.cons _ (.cons _ (.cons _ (.refl _)))))))))⟩
      repeat (first | (refine RunH ?_; intro w hL hB; try clear w) | (refine Both.mk ?_ ?_ <;> conv => whnf) | fail)
      refine Rv.buildS (len := 0) (vs := []) ttOk hL tl78 tl97 rfl rfl (by intro u hu; cases hu) (by decide) (by decide) hB fun bo w hL hB => ?_
      conv => whnf
      repeat (first | (refine RunH ?_; intro w hL hB; try clear w) | (refine Both.mk ?_ ?_ <;> conv => whnf) | fail)
      refine Rv.appendS (m := rL.length) ttOk hL tl78 tl97 rfl (by decide) 0 rfl (hL.rowN (i := 6) rfl) hpcs (by simp only [maxLen]; omega) (by omega) hB fun vo w hL hB => ?_
      dsimp only [List.set] at hL
      rw [Nat.zero_add, List.flatMap_nil, List.nil_append] at hL
      obtain ⟨va, vc, rfl⟩ := (show SlN w 5 vo rL.length _ from hL.rowN (i := 0) rfl).shape
      conv => whnf
      repeat (first | (refine RunH ?_; intro w hL hB; try clear w) | (refine Both.mk ?_ ?_ <;> conv => whnf) | fail)
      refine Rv.appendS (m := 1) ttOk hL tl78 tl97 rfl (by decide) 0 rfl (hL.rowN (i := 1) rfl) hpc1 (by simp only [maxLen]; omega) (by omega) hB fun vo w hL hB => ?_
      dsimp only [List.set] at hL
      obtain ⟨vb, vd, rfl⟩ := (show SlN w 5 vo (rL.length + 1) _ from hL.rowN (i := 0) rfl).shape
      conv => whnf
      repeat (first | (refine RunH ?_; intro w hL hB; try clear w) | (refine Both.mk ?_ ?_ <;> conv => whnf) | fail)
      exact ⟨(vb, vd), trivial, hB, hfin (hL.sub (.cons_cons _ (.cons _ (.cons_cons _ (.cons _ (.cons _ (.cons _ (.cons _ (.refl _)))))))))⟩
    · rintro ⟨ra', rc'⟩ w ⟨hB, hL⟩
      rw [rvRes] at hL
      clear hfin
      repeat (first | (refine RunH ?_; intro w hL hB; try clear w) | (refine Both.mk ?_ ?_ <;> conv => whnf) | fail)
      exact ⟨by rw [hdef]; rfl, ra', rc', close (F' := _ :: _ :: F) hL hB⟩)
end
end Go.Proofs.YtpkealgeigpjpaaGreatDoor
