/- The table of powers of ten, as the program's text lays it. VacuumPlays. Nothing is claimed here. -/
import Derived.Test.YtladfadcgfdbfaaGreatDoorD31
import Derived.LaidSub
import Derived.Test.YtladfadcgfdbfaaGreatDoorD46
import Derived.Test.YtladfadcgfdbfaaGreatDoorD26
namespace Go.Proofs.YtladfadcgfdbfaaGreatDoor
open Go.RowKit Go.Lib
set_option linter.unusedVariables false
set_option linter.unusedSimpArgs false
set_option maxRecDepth 100000
end Go.Proofs.YtladfadcgfdbfaaGreatDoor
namespace Go.Proofs.YtladfadcgfdbfaaGreatDoor
open Go.RowKit Go.Lib
set_option linter.unusedVariables false
set_option linter.unusedSimpArgs false
set_option maxRecDepth 100000
structure InVst (w0 : World) (s : Vst) : Prop where
  ok : OkVst w0 s
  d : s.d.length ≤ 140737488355328
theorem vnm5 : vnmG 5 = vnm 5 := by
  have e : decDigits 5 = [53] := by rw [decDigits]; rfl
  rw [vnmG, dig8, e]; rfl
set_option maxHeartbeats 32000000 in
theorem vplaysV_fn (room : Int) (v0 : Value) (ss : List Vst) (w0 : World) (hrw : (Lit.int .i64 room).wf = true) (hs : SlN w0 6 v0 ss.length (ss.flatMap vstC)) (hin : ∀ s ∈ ss, InVst w0 s) :
    Fn Tryz.prog 4 #[.int .i64 room, v0] w0 fun r w' => r = .bool true ∧ Below w0.heap.size w0 w' := by
  have hrr := i64_wf hrw
  have hL := Sep.start Tryz.prog w0
  have hB := Nat.le_refl w0.heap.size
  have hle := hs.le
  have hn := nameIs (B := w0.heap.size) (w0 := w0) 5 (by decide)
  have hnm := vnm5
  have hn1 := hn.1.2
  obtain ⟨a1, c1, rfl⟩ := hs.shape
  refine Fn.mk Tryz.func4 rfl (by kernel_rfl) Tryz.ntmps4 rfl (by rw [Tryz.results4]) ?_
  repeat (first | (refine RunH ?_; intro w hL hB; try clear w) | (refine Both.mk ?_ ?_ <;> conv => whnf) | fail)
  refine V.loop (α := Nat × Nat) (fun z => [(0, .int .i64 room), (1, .slice a1 ss.length c1), (5, .int .i64 (z.2 : Int)), (6, .int .i64 (z.1 : Int))])
    (fun z w' => z.1 ≤ ss.length ∧ z.1 ≤ 80 ∧ z.2 ≤ z.1 * 140737488355328 ∧ Sep Tryz.prog w0.heap.size w0 w' []) (fun z => ss.length - z.1) (0, 0) ⟨rfl, rfl, rfl, rfl, trivial⟩ ⟨by simp, by simp, by simp, hL⟩ ?_
  clear hL hB
  rintro ⟨k, n⟩ w ⟨hk, hk8, hn0, hL⟩
  have hB := hL.below.size
  dsimp only at *
  by_cases hkl : k < ss.length ∧ k < 80
  case pos =>
    obtain ⟨hk1, hk2⟩ := hkl
    have hget := List.getElem?_eq_getElem hk1
    have hi := hin _ (List.getElem_mem hk1)
    generalize hsk : ss[k] = s at *
    have h3 := hi.d
    obtain ⟨pa, pc, hpv⟩ : ∃ a c, s.dV = .slice a s.d.length c := by
      obtain ⟨a, c, he⟩ := hi.ok.sl.shape
      rw [bv_length] at he
      exact ⟨a, c, he⟩
    obtain ⟨bb, o, rfl, _⟩ := hs.addr (by omega)
    have hrow : ∀ {w : World}, Sep Tryz.prog w0.heap.size w0 w [] → Row w bb o (ss.flatMap vstC) := fun h => (hs.below h.below).rowOf
    repeat (first | (refine RunH ?_; intro w hL hB; try clear w) | (refine Both.mk ?_ ?_ <;> conv => whnf) | fail)
    intro o1 ho1
    conv => whnf
    repeat (first | (refine RunH ?_; intro w hL hB; try clear w) | (refine Both.mk ?_ ?_ <;> conv => whnf) | fail)
    refine Ld.rowF ttOk vstC_len 5 (hrow hL) tl40 rfl hget (by rw [vstC, hpv]; rfl) (by omega) ?_
    conv => whnf
    repeat (first | (refine RunH ?_; intro w hL hB; try clear w) | (refine Both.mk ?_ ?_ <;> conv => whnf) | fail)
    exact ⟨(k + 1, n + s.d.length), ⟨rfl, rfl, vint (by push_cast; omega), vint (by push_cast; omega), trivial⟩, ⟨by omega, by omega, by omega, hL⟩, (by first | omega | (dsimp only; omega))⟩
  have hstop : (k < ss.length ∧ ¬ k < 80) ∨ ¬ k < ss.length := by omega
  by_cases hbad : 12000 < n ∨ (room < 1000 ∨ 1048576 < room)
  case pos =>
    rcases hstop with ⟨s1, s2⟩ | s1 <;> rcases (by omega : 12000 < n ∨ (¬ 12000 < n ∧ room < 1000) ∨ (¬ 12000 < n ∧ ¬ room < 1000 ∧ 1048576 < room)) with g | ⟨g, g2⟩ | ⟨g, g2, g3⟩ <;> (
      repeat (first | (refine RunH ?_; intro w hL hB; try clear w) | (refine Both.mk ?_ ?_ <;> conv => whnf) | (refine (knownJ_fn _).mono fun r w hr => ?_; obtain ⟨hr, hw⟩ := hr; subst hr; replace hL := hL.call hB (Turns.of_below hw); replace hB := Nat.le_trans hB hw.size; conv => whnf) | fail)
      exact ⟨rfl, hL.below⟩)
  have hr1 : 1000 ≤ room ∧ room ≤ 1048576 := by omega
  have hnl : ¬ 12000 < n := by omega
  have hr2 : ¬ room < 1000 := by omega
  have hr3 : ¬ 1048576 < room := by omega
  rcases hstop with ⟨s1, s2⟩ | s1
  case' inl =>
    repeat (first | (refine RunH ?_; intro w hL hB; try clear w) | (refine Both.mk ?_ ?_ <;> conv => whnf) | fail)
  case' inr =>
    repeat (first | (refine RunH ?_; intro w hL hB; try clear w) | (refine Both.mk ?_ ?_ <;> conv => whnf) | fail)
  all_goals (
    refine (new_fn room hL hB).mono fun r w hr => ?_
    obtain ⟨d, hr, hD⟩ := hr.1 (by omega)
    subst hr
    obtain ⟨dD, hL, hB, clD⟩ := hD.open
    clear hD
    conv => whnf
    repeat (first | (refine RunH ?_; intro w hL hB; try clear w) | (refine Both.mk ?_ ?_ <;> conv => whnf) | fail)
    refine (newR_fn room hL hB).mono fun r w hr => ?_
    obtain ⟨k9, hr, hD⟩ := hr.1 (by omega)
    subst hr
    obtain ⟨dR, hL, hB, clR⟩ := hD.open
    clear hD
    have hrm : room.toNat ≤ 1048576 ∧ 8 ≤ room.toNat := by omega
    generalize room.toNat = rm at *
    have hb : Btw w0.heap.size w0 w d k9 rm [] [] [] := ⟨⟨dD, dR, hL, hB, clD, clR⟩⟩
    clear hL hB clD clR
    obtain ⟨G, hL, hB, cl⟩ := hb.sep
    clear hb
    conv => whnf
    repeat (first | (refine RunH ?_; intro w hL hB; try clear w) | (refine Both.mk ?_ ?_ <;> conv => whnf) | fail)
    (refine Nw.sep hL hB (fun p w hL hB hp => ?_); conv => whnf)
    repeat (first | (refine RunH ?_; intro w hL hB; try clear w) | (refine Both.mk ?_ ?_ <;> conv => whnf) | fail)
    obtain ⟨dX, hD, back⟩ := (cl (F' := [_]) hL hB).dk
    refine (create_fn hn hD).mono fun r w ⟨_, _, h3⟩ => ?_
    clear cl hL hB
    obtain ⟨v, m, hr, hD⟩ := h3 rfl (one_create hn1 hrm.2 (id := 5)).1
    rw [(one_create hn1 hrm.2).2] at hD
    clear h3
    subst hr
    obtain ⟨G, hL, hB, cl⟩ := (back (F' := [_, _, _]) hD).sep
    clear hD back
    conv => whnf
    repeat (first | (refine RunH ?_; intro w hL hB; try clear w) | (refine Both.mk ?_ ?_ <;> conv => whnf) | fail)
    have hcR := fun w F hD => createR_fn (B := w0.heap.size) (w0 := w0) (w := w) (k := k9) (room := rm) (F := F) (id := 5) (by decide) hD
    rw [hnm] at hcR
    obtain ⟨dD, hD, back⟩ := (cl (F' := [_, _, _]) hL hB).rk
    refine (hcR _ _ hD).mono fun r w ⟨_, h2⟩ => ?_
    clear cl hL hB
    obtain ⟨x, hr, hD⟩ := h2 (one_create hn1 hrm.2 (id := 5)).1
    rw [(one_create hn1 hrm.2).2] at hD
    clear h2 hcR
    subst hr
    obtain ⟨G, hL, hB, cl⟩ := (back (F' := [_, _, _, _]) hD).sep
    clear hD back
    rw [volC, rvC] at hL
    conv => whnf
    repeat (first | (refine RunH ?_; intro w hL hB; try clear w) | (refine Both.mk ?_ ?_ <;> conv => whnf) | fail)
    have hstart : Pv w0.heap.size w0 w d k9 rm p (vnm 5) [] := by
      have hLn := hL.nilRow 87 5
      have hb := cl (F' := [_, _, _, _, _]) hLn hB
      refine ⟨[], [], v, m, x, none, 0, .pointer none, .pointer none, [], by simp, .inl rfl, .no, ?_⟩
      have e : oneS (vnm 5) (vhd 5) = volS (vnm 5) (vhd 5 ++ flat []) [] := by simp [flat, volS, oneS]
      rw [e] at hb
      exact hb.perm (F' := [_, _, _, _, _]) (((List.perm_append_comm (l₁ := [_, _]) (l₂ := [_, _, _])).append_right ([])).trans (((List.perm_append_comm (l₁ := [_, _]) (l₂ := [_])).append_right ([_, _])).trans (List.Perm.append_left [_, _, _] (.swap _ _ _))))
    clear hL hB cl
    refine V.loop (α := Nat) (fun j => [(1, .slice a1 ss.length c1), (11, ptr p), (16, .int .i64 (j : Int))])
      (fun j w' => j ≤ ss.length ∧ j ≤ 80 ∧ Pv w0.heap.size w0 w' d k9 rm p (vnm 5) []) (fun j => ss.length - j) 0 ⟨rfl, rfl, rfl, trivial⟩ ⟨Nat.zero_le _, Nat.zero_le _, hstart⟩ ?_
    clear hstart
    rintro j w ⟨hj, hj2, hP⟩
    have hend : ∀ {w : World}, Pv w0.heap.size w0 w d k9 rm p (vnm 5) [] → ∃ L, Sep Tryz.prog w0.heap.size w0 w L ∧ w0.heap.size ≤ w.heap.size := fun h => by
      obtain ⟨Rs, T, v, m, x, ra, rc, jv, kv, J, _, _, _, hb⟩ := h
      obtain ⟨G, hL, hB, _⟩ := hb.sep
      exact ⟨_, hL, hB⟩
    obtain ⟨L, hL, hB⟩ := hend hP
    by_cases hgo : j < ss.length ∧ j < 80
    case neg =>
      have hstop : ¬ j < ss.length ∨ (j < ss.length ∧ ¬ j < 80) := by omega
      clear hgo
      rcases hstop with hst | ⟨hst1, hst2⟩
      · first | (exfalso; omega) | (
          repeat (first | (refine RunH ?_; intro w hL hB; try clear w) | (refine Both.mk ?_ ?_ <;> conv => whnf) | (refine (knownJ_fn _).mono fun r w hr => ?_; obtain ⟨hr, hw⟩ := hr; subst hr; replace hL := hL.call hB (Turns.of_below hw); replace hB := Nat.le_trans hB hw.size; conv => whnf) | fail)
          exact ⟨rfl, hL.below⟩)
      · first | (exfalso; omega) | (
          repeat (first | (refine RunH ?_; intro w hL hB; try clear w) | (refine Both.mk ?_ ?_ <;> conv => whnf) | (refine (knownJ_fn _).mono fun r w hr => ?_; obtain ⟨hr, hw⟩ := hr; subst hr; replace hL := hL.call hB (Turns.of_below hw); replace hB := Nat.le_trans hB hw.size; conv => whnf) | fail)
          exact ⟨rfl, hL.below⟩)
    obtain ⟨g1, g2⟩ := hgo
    have hget := List.getElem?_eq_getElem g1
    have hst := hin _ (List.getElem_mem g1)
    generalize hsk : ss[j] = s at *
    obtain ⟨bb, o, rfl, _⟩ := hs.addr (by omega)
    have hrow : ∀ {w : World} {L : List Res}, Sep Tryz.prog w0.heap.size w0 w L → Row w bb o (ss.flatMap vstC) := fun h => (hs.below h.below).rowOf
    repeat (first | (refine RunH ?_; intro w hL hB; try clear w) | (refine Both.mk ?_ ?_ <;> conv => whnf) | fail)
    intro o1 ho1
    conv => whnf
    refine Ld.rowN ttOk vstC_len (hrow hL) tl44 rfl rfl hget (by omega) ?_
    conv => whnf
    repeat (first | (refine RunH ?_; intro w hL hB; try clear w) | (refine Both.mk ?_ ?_ <;> conv => whnf) | fail)
    refine (pdoesV_fn s hst.ok hn hnm hrm.1 hP).mono fun r w ⟨hr, hP⟩ => ?_
    subst hr
    clear hL hB
    obtain ⟨L, hL, hB⟩ := hend hP
    conv => whnf
    repeat (first | (refine RunH ?_; intro w hL hB; try clear w) | (refine Both.mk ?_ ?_ <;> conv => whnf) | fail)
    refine (pstoodV_fn hn hnm hrm.1 hP).mono fun r w ⟨hr, hP⟩ => ?_
    subst hr
    clear hL hB
    obtain ⟨L, hL, hB⟩ := hend hP
    conv => whnf
    repeat (first | (refine RunH ?_; intro w hL hB; try clear w) | (refine Both.mk ?_ ?_ <;> conv => whnf) | fail)
    exact ⟨j + 1, ⟨rfl, rfl, vint (by push_cast; rfl), trivial⟩, ⟨by omega, by omega, hP⟩, (by first | omega | (dsimp only; omega))⟩)
/-! ### a script that comes in -/
theorem six' {l : List Value} (h : l.length = 6) : ∃ a b c d e f, l = [a, b, c, d, e, f] := by
  match l, h with
  | [a, b, c, d, e, f], _ => exact ⟨a, b, c, d, e, f, rfl⟩
theorem vst_open {w : World} {l : List Value} (h : opz Tryz.prog TT 140737488355328 w 4 44 l) : ∃ s : Vst, l = vstC s ∧ InVst w s := by
  obtain ⟨hlen, h1, h2, h3, _⟩ := h
  obtain ⟨a, b, c, d, e, f, rfl⟩ := six' hlen
  obtain ⟨n1, e1, w1⟩ := h1
  obtain ⟨n2, e2, w2⟩ := h2
  obtain ⟨x, hx, ox⟩ := needle_open (d := 0) h3
  have e1' : [a] = [.int .i64 n1] := e1
  have e2' : [b] = [.int .i64 n2] := e2
  have hx' : [c, d, e, f] = inC x := hx
  injection e1' with e1'
  injection e2' with e2'
  subst e1'; subst e2'
  simp only [inC, ndC, List.cons.injEq, and_true] at hx'
  obtain ⟨rfl, rfl, rfl, rfl⟩ := hx'
  exact ⟨⟨n1, n2, x.key, x.cook, x.dead, x.v, x.d⟩, rfl, ⟨i64_wf w2, ox.key, ox.cook, ox.sl⟩, ox.len⟩
theorem vsts_open {w : World} {v : Value} (h : opz Tryz.prog TT 140737488355328 w 5 37 [v]) : ∃ ss : List Vst, SlN w 6 v ss.length (ss.flatMap vstC) ∧ ∀ s ∈ ss, InVst w s := by
  obtain ⟨ss, h1, h2, _⟩ := sl_open (α := Vst) tl37 tl44 (by decide) vstC vstC_len (fun s => InVst w s) (fun es _ h => vst_open h) h
  exact ⟨ss, h1, h2⟩
end Go.Proofs.YtladfadcgfdbfaaGreatDoor
