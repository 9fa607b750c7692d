/- WalPlays. The table of powers of ten, as the program's text lays it (any seat with Itoa). Nothing is claimed here. -/
import Derived.Test.YtjafamiaahabgaaGreatDoorK37
import Derived.Test.YtjafamiaahabgaaGreatDoorK07
import Derived.LaidSub
namespace Go.Proofs.YtjafamiaahabgaaGreatDoor
open Go.RowKit Go.Lib
set_option linter.unusedVariables false
set_option linter.unusedSimpArgs false
set_option maxRecDepth 100000

structure Wtp where
  kind : Int
  n : Int
  at_ : Int
  bV : Value
  b : List UInt8
  by_ : UInt8
def wtpC (s : Wtp) : List Value := [.int .i64 s.kind, .int .i64 s.n, .int .i64 s.at_, s.bV, .int .u8 (s.by_.toNat : Int)]
theorem wtpC_len (s : Wtp) : (wtpC s).length = 5 := rfl
/-- a step that came in: its sizes are those of the machine -/
structure InWtp (w0 : World) (s : Wtp) : Prop where
  k : -9223372036854775808 ≤ s.kind ∧ s.kind ≤ 9223372036854775807
  n : -9223372036854775808 ≤ s.n ∧ s.n ≤ 9223372036854775807
  b : s.b.length ≤ 140737488355328
  sl : Sl w0 s.bV (bv s.b)
theorem wbV_shape {w0 : World} {s : Wtp} (h : InWtp w0 s) : ∃ a c, s.bV = .slice a s.b.length c := by
  obtain ⟨a, c, he⟩ := h.sl.shape
  rw [bv_length] at he
  exact ⟨a, c, he⟩
set_option maxHeartbeats 4000000 in
theorem heavyW_fn (v : Value) (ss : List Wtp) (w0 : World) (hs : SlN w0 5 v ss.length (ss.flatMap wtpC)) (hin : ∀ s ∈ ss, InWtp w0 s) :
    Fn Tryz.prog 18 #[v] w0 fun r w' => (∃ h, r = .bool h ∧ (h = false → ∀ (i : Nat) (s : Wtp), ss[i]? = some s → i < 120 → s.b.length ≤ 20000)) ∧ Below w0.heap.size w0 w' := by
  have hL := Sep.start Tryz.prog w0
  have hB := Nat.le_refl w0.heap.size
  have hle := hs.le
  obtain ⟨a1, c1, rfl⟩ := hs.shape
  refine Fn.mk Tryz.func18 rfl (by kernel_rfl) Tryz.ntmps18 rfl (by rw [Tryz.results18]) ?_
  repeat (first | (refine RunH ?_; intro w hL hB; try clear w) | (refine Both.mk ?_ ?_ <;> conv => whnf) | fail)
  refine V.loop (α := Nat × Nat) (fun z => [(0, .slice a1 ss.length c1), (3, .int .i64 (z.2 : Int)), (4, .int .i64 (z.1 : Int))])
    (fun z w' => z.1 ≤ ss.length ∧ z.2 ≤ 20000 ∧ (∀ (i : Nat) (s : Wtp), ss[i]? = some s → i < z.1 → s.b.length ≤ 20000) ∧ Sep Tryz.prog w0.heap.size w0 w' []) (fun z => ss.length - z.1) (0, 0) ⟨rfl, rfl, rfl, trivial⟩ ⟨by simp, by simp, by intro i s _ h; simp at h, hL⟩ ?_
  clear hL hB
  rintro ⟨k, n⟩ w ⟨hk, hn, hall, hL⟩
  have hB := hL.below.size
  dsimp only at *
  by_cases hkl : k < ss.length
  case neg =>
    repeat (first | (refine RunH ?_; intro w hL hB; try clear w) | (refine Both.mk ?_ ?_ <;> conv => whnf) | fail)
    exact ⟨⟨false, rfl, fun _ i s hs hi => hall i s hs (by have := (List.getElem?_eq_some_iff.1 hs).1; omega)⟩, hL.below⟩
  by_cases hk2 : k < 120
  case neg =>
    repeat (first | (refine RunH ?_; intro w hL hB; try clear w) | (refine Both.mk ?_ ?_ <;> conv => whnf) | fail)
    exact ⟨⟨false, rfl, fun _ i s hs hi => hall i s hs (by omega)⟩, hL.below⟩
  have hget := List.getElem?_eq_getElem hkl
  have hi := hin _ (List.getElem_mem hkl)
  generalize hsk : ss[k] = s at *
  obtain ⟨pa, pc, hpv⟩ := wbV_shape hi
  have h3 := hi.b
  obtain ⟨bb, o, rfl, _⟩ := hs.addr (by omega)
  have hrow : ∀ {w : World}, Sep Tryz.prog w0.heap.size w0 w [] → Row w bb o (ss.flatMap wtpC) := fun h => (hs.below h.below).rowOf
  repeat (first | (refine RunH ?_; intro w hL hB; try clear w) | (refine Both.mk ?_ ?_ <;> conv => whnf) | fail)
  intro o1 ho1
  conv => whnf
  repeat (first | (refine RunH ?_; intro w hL hB; try clear w) | (refine Both.mk ?_ ?_ <;> conv => whnf) | fail)
  refine Ld.rowF ttOk wtpC_len 3 (hrow hL) tl23 rfl hget (by rw [wtpC, hpv]; rfl) (by omega) ?_
  conv => whnf
  repeat (first | (refine RunH ?_; intro w hL hB; try clear w) | (refine Both.mk ?_ ?_ <;> conv => whnf) | fail)
  by_cases hbig : 20000 < n + s.b.length
  · repeat (first | (refine RunH ?_; intro w hL hB; try clear w) | (refine Both.mk ?_ ?_ <;> conv => whnf) | fail)
    exact ⟨⟨true, rfl, fun h => by cases h⟩, hL.below⟩
  · repeat (first | (refine RunH ?_; intro w hL hB; try clear w) | (refine Both.mk ?_ ?_ <;> conv => whnf) | fail)
    refine ⟨(k + 1, n + s.b.length), ⟨rfl, vint (by push_cast; omega), vint (by push_cast; omega), trivial⟩, ⟨by omega, by omega, fun i x hx hi' => ?_, hL⟩, (by first | omega | (dsimp only; omega))⟩
    dsimp only at hi'
    by_cases he : i = k
    · subst he
      rw [hget] at hx
      injection hx with hx
      subst hx
      omega
    · exact hall i x hx (by omega)
set_option maxHeartbeats 32000000 in
theorem walPlays_fn (room : Int) (other : ByteArray) (v : Value) (ss : List Wtp) (w0 : World) (htab : TabIs Tryz.prog w0 "internal/strconv.uint64pow10" .u64 pow10Tab) (hrw : (Lit.int .i64 room).wf = true) (hon : other.size ≤ 140737488355328) (hs : SlN w0 5 v ss.length (ss.flatMap wtpC)) (hin : ∀ s ∈ ss, InWtp w0 s) :
    Fn Tryz.prog 6 #[.int .i64 room, .string other, v] w0 fun r w' => r = .bool true ∧ Below w0.heap.size w0 w' := by
  have hrr := i64_wf hrw
  have ht : TabW w0.heap.size w0 := fun w h => tab_belowW htab h
  have hL := Sep.start Tryz.prog w0
  have hB := Nat.le_refl w0.heap.size
  have hle := hs.le
  obtain ⟨a1, c1, rfl⟩ := hs.shape
  have hkn : ∀ {w : World} {L : List Res}, Sep Tryz.prog w0.heap.size w0 w L → Fn Tryz.prog 15 #[] w fun r w' => r = .bool true ∧ Below w.heap.size w w' := fun h => known_fn _ (tab_belowW htab h.below)
  refine Fn.mk Tryz.func6 rfl (by kernel_rfl) Tryz.ntmps6 rfl (by rw [Tryz.results6]) ?_
  repeat (first | (refine RunH ?_; intro w hL hB; try clear w) | (refine Both.mk ?_ ?_ <;> conv => whnf) | fail)
  refine (heavyW_fn _ ss _ hs hin).mono fun r w ⟨⟨h, hr, hh⟩, hw⟩ => ?_
  subst hr
  replace hL := hL.call hB (Turns.of_below hw)
  replace hB := Nat.le_trans hB hw.size
  cases h with
  | true =>
    conv => whnf
    repeat (first | (refine RunH ?_; intro w hL hB; try clear w) | (refine Both.mk ?_ ?_ <;> conv => whnf) | (refine (hkn hL).mono fun r w hr => ?_; obtain ⟨hr, hw⟩ := hr; subst hr; replace hL := hL.call hB (Turns.of_below hw); replace hB := Nat.le_trans hB hw.size; conv => whnf) | fail)
    exact ⟨rfl, hL.below⟩
  | false =>
  have hh' := hh rfl
  by_cases ho60 : 60 < other.size
  · conv => whnf
    repeat (first | (refine RunH ?_; intro w hL hB; try clear w) | (refine Both.mk ?_ ?_ <;> conv => whnf) | (refine (hkn hL).mono fun r w hr => ?_; obtain ⟨hr, hw⟩ := hr; subst hr; replace hL := hL.call hB (Turns.of_below hw); replace hB := Nat.le_trans hB hw.size; conv => whnf) | fail)
    exact ⟨rfl, hL.below⟩
  conv => whnf
  repeat (first | (refine RunH ?_; intro w hL hB; try clear w) | (refine Both.mk ?_ ?_ <;> conv => whnf) | fail)
  refine (new_fn room hL hB).mono fun r w hr => ?_
  by_cases hroom : 0 ≤ room ∧ room ≤ 1073741824
  case neg =>
    obtain ⟨hr, hw⟩ := hr.2 hroom
    subst hr; subst hw
    conv => whnf
    repeat (first | (refine RunH ?_; intro w hL hB; try clear w) | (refine Both.mk ?_ ?_ <;> conv => whnf) | fail)
    refine (newR_fn room hL hB).mono fun r w hr => ?_
    obtain ⟨hr, hL, hB⟩ := hr.2 hroom
    subst hr
    conv => whnf
    repeat (first | (refine RunH ?_; intro w hL hB; try clear w) | (refine Both.mk ?_ ?_ <;> conv => whnf) | (refine (hkn hL).mono fun r w hr => ?_; obtain ⟨hr, hw⟩ := hr; subst hr; replace hL := hL.call hB (Turns.of_below hw); replace hB := Nat.le_trans hB hw.size; conv => whnf) | fail)
    exact ⟨rfl, hL.below⟩
  obtain ⟨d, hr, hD⟩ := hr.1 hroom
  subst hr
  obtain ⟨dD, hL, hB, clD⟩ := hD.open
  clear hD
  conv => whnf
  repeat (first | (refine RunH ?_; intro w hL hB; try clear w) | (refine Both.mk ?_ ?_ <;> conv => whnf) | fail)
  refine (newR_fn room hL hB).mono fun r w hr => ?_
  obtain ⟨k, hr, hD⟩ := hr.1 hroom
  subst hr
  obtain ⟨dR, hL, hB, clR⟩ := hD.open
  clear hD
  generalize room.toNat = rm at *
  have hb : Bo w0.heap.size w0 w (DkP w0.heap.size w0 d rm []) (RkP w0.heap.size w0 k rm []) [] := ⟨⟨dD, dR, hL, hB, clD, clR⟩⟩
  clear hL hB clR clD
  obtain ⟨G0, hL, hB, cl⟩ := hb.sep
  clear hb
  conv => whnf
  repeat (first | (refine RunH ?_; intro w hL hB; try clear w) | (refine Both.mk ?_ ?_ <;> conv => whnf) | fail)
  refine Rv.lit hL [120] rfl (by decide) hB fun bo w hL hB => ?_
  conv => whnf
  repeat (first | (refine RunH ?_; intro w hL hB; try clear w) | (refine Both.mk ?_ ?_ <;> conv => whnf) | fail)
  refine Rv.sameS ttOk hL 0 tl23 tl5 rfl hB fun w hL hB => ?_
  conv => whnf
  repeat (first | (refine RunH ?_; intro w hL hB; try clear w) | (refine Both.mk ?_ ?_ <;> conv => whnf) | fail)
  obtain ⟨dX, hD, back⟩ := (cl (F' := [_]) hL hB).left
  have hD : DkS _ _ _ _ _ _ _ := hD
  refine (append_fn other (by omega) _ [120] (fun w' h => h.roSl (i := 0) rfl) hD).mono fun r w ⟨hr, hD⟩ => ?_
  subst hr
  obtain ⟨G0, hL, hB, cl⟩ := (back (F' := [_]) DkP.o hD).sep
  clear back hD
  conv => whnf
  repeat (first | (refine RunH ?_; intro w hL hB; try clear w) | (refine Both.mk ?_ ?_ <;> conv => whnf) | fail)
  refine Rv.lit hL [120] rfl (by decide) hB fun bo2 w hL hB => ?_
  conv => whnf
  repeat (first | (refine RunH ?_; intro w hL hB; try clear w) | (refine Both.mk ?_ ?_ <;> conv => whnf) | fail)
  refine Rv.sameS ttOk hL 0 tl23 tl5 rfl hB fun w hL hB => ?_
  conv => whnf
  repeat (first | (refine RunH ?_; intro w hL hB; try clear w) | (refine Both.mk ?_ ?_ <;> conv => whnf) | fail)
  obtain ⟨dX, hD, back⟩ := (cl (F' := [_, _]) hL hB).right
  have hD : RkS _ _ _ _ _ _ _ := hD
  refine (appendR_fn other (by omega) _ [120] (by decide) (fun w' h => h.roSl (i := 0) rfl) hD).mono fun r w ⟨hr, R0, hp0, hD⟩ => ?_
  subst hr
  obtain ⟨G0, hL, hB, cl⟩ := (back (F' := [_, _]) RkP.o hD).sep
  clear back hD
  conv => whnf
  repeat (first | (refine RunH ?_; intro w hL hB; try clear w) | (refine Both.mk ?_ ?_ <;> conv => whnf) | fail)
  (refine Nw.sep hL hB (fun p w hL hB hp => ?_); conv => whnf)
  repeat (first | (refine RunH ?_; intro w hL hB; try clear w) | (refine Both.mk ?_ ?_ <;> conv => whnf) | fail)
  have hb := (cl (F' := [.blk p [ptr d, ptr k, .pointer none, .pointer none] 55, _, _]) hL hB).sub (F' := [.blk p [ptr d, ptr k, .pointer none, .pointer none] 55]) (.cons_cons _ (List.nil_sublist _))
  clear hL hB cl
  refine (popenW_fn (q := 256) ht hp0 (Nat.le_refl _) ⟨⟨rfl, rfl⟩, ⟨rfl, rfl⟩⟩ hb).mono fun r w ⟨hr, hP⟩ => ?_
  subst hr
  clear hb
  have hend : ∀ {w : World} {q : Nat}, Pw w0.heap.size w0 w d k rm p logB q [] → ∃ L, Sep Tryz.prog w0.heap.size w0 w L ∧ w0.heap.size ≤ w.heap.size := fun h => by
    obtain ⟨_, _, _, _, _, _, _, _, _, _, hb⟩ := h.of
    obtain ⟨G0, hL, hB, _⟩ := hb.sep
    exact ⟨_, hL, hB⟩
  obtain ⟨L0, hL, hB⟩ := hend hP
  conv => whnf
  repeat (first | (refine RunH ?_; intro w hL hB; try clear w) | (refine Both.mk ?_ ?_ <;> conv => whnf) | fail)
  clear hL hB
  refine V.loop (α := Nat) (fun i => [(2, .slice a1 ss.length c1), (11, ptr p), (12, .int .i64 (i : Int))])
    (fun i w' => i ≤ ss.length ∧ i ≤ 120 ∧ Pw w0.heap.size w0 w' d k rm p logB (256 + i) []) (fun i => ss.length - i) 0 ⟨rfl, rfl, rfl, trivial⟩ ⟨by simp, by simp, hP⟩ ?_
  clear hP
  rintro i w ⟨hi, hi2, hP⟩
  try dsimp only at *
  by_cases hgo : i < ss.length ∧ i < 120
  case neg =>
    obtain ⟨L0, hL, hB⟩ := hend hP
    have hstop : ¬ i < ss.length ∨ (i < ss.length ∧ ¬ i < 120) := by omega
    rcases hstop with hst | ⟨hst1, hst2⟩
    case' inl =>
      repeat (first | (refine RunH ?_; intro w hL hB; try clear w) | (refine Both.mk ?_ ?_ <;> conv => whnf) | fail)
    case' inr =>
      repeat (first | (refine RunH ?_; intro w hL hB; try clear w) | (refine Both.mk ?_ ?_ <;> conv => whnf) | fail)
    all_goals
      clear hL hB
      refine (pstoodW_fn hP).mono fun r w ⟨hr, hP⟩ => ?_
      subst hr
      obtain ⟨L1, hL, hB⟩ := hend hP
      conv => whnf
      repeat (first | (refine RunH ?_; intro w hL hB; try clear w) | (refine Both.mk ?_ ?_ <;> conv => whnf) | (refine (hkn hL).mono fun r w hr => ?_; obtain ⟨hr, hw⟩ := hr; subst hr; replace hL := hL.call hB (Turns.of_below hw); replace hB := Nat.le_trans hB hw.size; conv => whnf) | fail)
      exact ⟨rfl, hL.below⟩
  have hget := List.getElem?_eq_getElem hgo.1
  have hsz := hh' i _ hget hgo.2
  have hst := hin _ (List.getElem_mem hgo.1)
  generalize hsk : ss[i] = s at *
  obtain ⟨bb, o, rfl, _⟩ := hs.addr (by omega)
  have hrow : ∀ {w : World} {L : List Res}, Sep Tryz.prog w0.heap.size w0 w L → Row w bb o (ss.flatMap wtpC) := fun h => (hs.below h.below).rowOf
  obtain ⟨hg1, hg2⟩ := hgo
  obtain ⟨L0, hL, hB⟩ := hend hP
  repeat (first | (refine RunH ?_; intro w hL hB; try clear w) | (refine Both.mk ?_ ?_ <;> conv => whnf) | fail)
  intro o1 ho1
  conv => whnf
  refine Ld.rowN ttOk wtpC_len (hrow hL) tl58 rfl rfl hget (by omega) ?_
  conv => whnf
  repeat (first | (refine RunH ?_; intro w hL hB; try clear w) | (refine Both.mk ?_ ?_ <;> conv => whnf) | fail)
  clear hL hB
  refine (pdoesW_fn ht (by omega) s.kind s.n s.at_ s.bV s.b s.by_ hst.n hsz hst.sl hP).mono fun r w ⟨hr, hP⟩ => ?_
  subst hr
  obtain ⟨L1, hL, hB⟩ := hend hP
  conv => whnf
  repeat (first | (refine RunH ?_; intro w hL hB; try clear w) | (refine Both.mk ?_ ?_ <;> conv => whnf) | fail)
  refine Rem.at i 7 rfl rfl (by decide) ?_
  have hkr := hst.k
  by_cases h7 : i % 7 = 0
  · have h7' : ((i % 7 : Nat) : Int) = 0 := by omega
    conv => whnf
    repeat (first | (refine RunH ?_; intro w hL hB; try clear w) | (refine Both.mk ?_ ?_ <;> conv => whnf) | fail)
    clear hL hB
    refine (pstoodW_fn hP).mono fun r w ⟨hr, hP⟩ => ?_
    subst hr
    obtain ⟨L2, hL, hB⟩ := hend hP
    conv => whnf
    repeat (first | (refine RunH ?_; intro w hL hB; try clear w) | (refine Both.mk ?_ ?_ <;> conv => whnf) | fail)
    exact ⟨i + 1, ⟨rfl, rfl, vint (by push_cast; omega), trivial⟩, ⟨by omega, by omega, hP⟩, (by first | omega | (dsimp only; omega))⟩
  have h7' : ¬ ((i % 7 : Nat) : Int) = 0 := by omega
  conv => whnf
  repeat (first | (refine RunH ?_; intro w hL hB; try clear w) | (refine Both.mk ?_ ?_ <;> conv => whnf) | fail)
  intro o2 ho2
  conv => whnf
  repeat (first | (refine RunH ?_; intro w hL hB; try clear w) | (refine Both.mk ?_ ?_ <;> conv => whnf) | fail)
  refine Ld.rowF ttOk wtpC_len 0 (hrow hL) tl3 rfl hget rfl (by omega) ?_
  conv => whnf
  by_cases h4 : 4 ≤ s.kind
  · repeat (first | (refine RunH ?_; intro w hL hB; try clear w) | (refine Both.mk ?_ ?_ <;> conv => whnf) | fail)
    clear hL hB
    refine (pstoodW_fn hP).mono fun r w ⟨hr, hP⟩ => ?_
    subst hr
    obtain ⟨L2, hL, hB⟩ := hend hP
    conv => whnf
    repeat (first | (refine RunH ?_; intro w hL hB; try clear w) | (refine Both.mk ?_ ?_ <;> conv => whnf) | fail)
    exact ⟨i + 1, ⟨rfl, rfl, vint (by push_cast; omega), trivial⟩, ⟨by omega, by omega, hP⟩, (by first | omega | (dsimp only; omega))⟩
  · repeat (first | (refine RunH ?_; intro w hL hB; try clear w) | (refine Both.mk ?_ ?_ <;> conv => whnf) | fail)
    exact ⟨i + 1, ⟨rfl, rfl, vint (by push_cast; omega), trivial⟩, ⟨by omega, by omega, hP⟩, (by first | omega | (dsimp only; omega))⟩
theorem str_openW {w : World} {S d : Nat} {v : Value} (h : opz Tryz.prog TT S w (d + 1) 9 [v]) : ∃ s : ByteArray, v = .string s ∧ s.size ≤ S := by
  obtain ⟨s, e, hw⟩ := h
  have e' : [v] = [.string s] := e
  injection e' with e'
  exact ⟨s, e', hw⟩
theorem fiveW {l : List Value} (h : l.length = 5) : ∃ a b c d e, l = [a, b, c, d, e] := by
  match l, h with
  | [a, b, c, d, e], _ => exact ⟨a, b, c, d, e, rfl⟩
theorem wtp_open {w : World} {l : List Value} (h : opz Tryz.prog TT 140737488355328 w 3 58 l) : ∃ s : Wtp, l = wtpC s ∧ InWtp w s := by
  obtain ⟨hlen, h1, h2, h3, h5, h6, _⟩ := h
  obtain ⟨a, b, c, e, f, rfl⟩ := fiveW hlen
  obtain ⟨n1, e1, w1⟩ := h1
  obtain ⟨n2, e2, w2⟩ := h2
  obtain ⟨n3, e3, w3⟩ := h3
  obtain ⟨l5, hl5, w5⟩ := bytes_open (d := 0) h5
  obtain ⟨n6, e6, w6⟩ := h6
  have e1' : [a] = [.int .i64 n1] := e1
  have e2' : [b] = [.int .i64 n2] := e2
  have e3' : [c] = [.int .i64 n3] := e3
  have e6' : [f] = [.int .u8 n6] := e6
  injection e1' with e1'
  injection e2' with e2'
  injection e3' with e3'
  injection e6' with e6'
  subst e1'; subst e2'; subst e3'; subst e6'
  obtain ⟨x, rfl⟩ := wf_u8 w6
  exact ⟨⟨n1, n2, n3, e, l5, x⟩, rfl, i64_wf w1, i64_wf w2, w5, hl5⟩
theorem wsteps_open {w : World} {v : Value} (h : opz Tryz.prog TT 140737488355328 w 4 45 [v]) : ∃ ss : List Wtp, SlN w 5 v ss.length (ss.flatMap wtpC) ∧ ∀ s ∈ ss, InWtp w s := by
  obtain ⟨ss, h1, h2, _⟩ := sl_open (α := Wtp) tl45 tl58 (by decide) wtpC wtpC_len (fun s => InWtp w s) (fun es _ h => wtp_open h) h
  exact ⟨ss, h1, h2⟩
end Go.Proofs.YtjafamiaahabgaaGreatDoor
namespace Go.Proofs.YtjafamiaahabgaaGreatDoor
open Go.RowKit Go.Lib
set_option linter.unusedVariables false
set_option linter.unusedSimpArgs false
set_option maxRecDepth 100000
theorem tab_pow {W : World} {l : List (String × DataW Unit)} (h : laidMetH Tryz.prog l W) (hl : (l.filter fun x => x.2.handleName?.isNone).filter (fun x => x.1 == "internal/strconv.uint64pow10") = [("internal/strconv.uint64pow10", tabData .u64 pow10Tab)]) : TabIs Tryz.prog W "internal/strconv.uint64pow10" .u64 pow10Tab :=
  tabIs_of_head (rest := []) (g := 0) (t := 195) (e := 74) (n := 20) (by kernel_rfl) (by kernel_rfl) (by kernel_rfl) (by kernel_rfl) (by kernel_rfl) (by kernel_rfl) (hl ▸ (laidMetH_iff.1 h).1.filter _)
end Go.Proofs.YtjafamiaahabgaaGreatDoor
