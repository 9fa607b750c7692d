/- KeepPlays. Nothing is claimed here. -/
import Derived.Test.YtjgiailgidbkmaaJs
import Derived.Test.YtjgiailgidbkmaaOg
namespace Go.Proofs.Ytjgiailgidbkmaa
open Go.RowKit
set_option linter.unusedVariables false
set_option linter.unusedSimpArgs false
set_option maxRecDepth 100000

/-- a step that came in: its sizes are those of the machine -/
structure InKtp (w0 : World) (s : Ktp) : Prop where
  n : -9223372036854775808 ≤ s.n ∧ s.n ≤ 9223372036854775807
  a : s.a.size ≤ 140737488355328
  b : s.b.length ≤ 140737488355328
  sl : Sl w0 s.bV (bv s.b)
theorem kbV_shape {w0 : World} {s : Ktp} (h : InKtp w0 s) : ∃ a c, s.bV = .slice a s.b.length c := by
  obtain ⟨a, c, he⟩ := h.sl.shape
  rw [bv_length] at he
  exact ⟨a, c, he⟩
set_option maxHeartbeats 4000000 in
theorem heavy_fn (v : Value) (ss : List Ktp) (w0 : World) (hs : SlN w0 5 v ss.length (ss.flatMap ktpC)) (hin : ∀ s ∈ ss, InKtp w0 s) :
    Fn Try.prog 15 #[v] w0 fun r w' => (∃ h, r = .bool h ∧ (h = false → ∀ (i : Nat) (s : Ktp), ss[i]? = some s → i < 100 → s.a.size ≤ 8000 ∧ s.b.length ≤ 8000)) ∧ Below w0.heap.size w0 w' := by
  have hL := Sep.start Try.prog w0
  have hB := Nat.le_refl w0.heap.size
  have hle := hs.le
  obtain ⟨a1, c1, rfl⟩ := hs.shape
  refine Fn.mk Try.func15 rfl (by kernel_rfl) Try.ntmps15 rfl (by rw [Try.results15]) ?_
  repeat (first | (refine RunH ?_; intro w hL hB; try clear w) | (refine Both.mk ?_ ?_ <;> conv => whnf) | fail)
  refine V.loop (α := Nat × Nat) (fun z => [(0, .slice a1 ss.length c1), (3, .int .i64 (z.2 : Int)), (4, .int .i64 (z.1 : Int))])
    (fun z w' => z.1 ≤ ss.length ∧ z.2 ≤ 8000 ∧ (∀ (i : Nat) (s : Ktp), ss[i]? = some s → i < z.1 → s.a.size ≤ 8000 ∧ s.b.length ≤ 8000) ∧ Sep Try.prog w0.heap.size w0 w' []) (fun z => ss.length - z.1) (0, 0) ⟨rfl, rfl, rfl, trivial⟩ ⟨by simp, by simp, by intro i s _ h; simp at h, hL⟩ ?_
  clear hL hB
  rintro ⟨k, n⟩ w ⟨hk, hn, hall, hL⟩
  have hB := hL.below.size
  dsimp only at *
  by_cases hkl : k < ss.length
  case neg =>
    repeat (first | (refine RunH ?_; intro w hL hB; try clear w) | (refine Both.mk ?_ ?_ <;> conv => whnf) | fail)
    exact ⟨⟨false, rfl, fun _ i s hs hi => hall i s hs (by have := (List.getElem?_eq_some_iff.1 hs).1; omega)⟩, hL.below⟩
  by_cases hk2 : k < 100
  case neg =>
    repeat (first | (refine RunH ?_; intro w hL hB; try clear w) | (refine Both.mk ?_ ?_ <;> conv => whnf) | fail)
    exact ⟨⟨false, rfl, fun _ i s hs hi => hall i s hs (by omega)⟩, hL.below⟩
  have hget := List.getElem?_eq_getElem hkl
  have hi := hin _ (List.getElem_mem hkl)
  generalize hsk : ss[k] = s at *
  obtain ⟨pa, pc, hpv⟩ := kbV_shape hi
  have h1 := hi.a
  have h3 := hi.b
  obtain ⟨bb, o, rfl, _⟩ := hs.addr (by omega)
  have hrow : ∀ {w : World}, Sep Try.prog w0.heap.size w0 w [] → Row w bb o (ss.flatMap ktpC) := fun h => (hs.below h.below).rowOf
  repeat (first | (refine RunH ?_; intro w hL hB; try clear w) | (refine Both.mk ?_ ?_ <;> conv => whnf) | fail)
  refine V.quiet ttOk (fun x => x = World.drew _) mixed (by kernel_rfl) rfl ?_
  replace hL := hL.drew
  conv => whnf
  repeat (first | (refine RunH ?_; intro w hL hB; try clear w) | (refine Both.mk ?_ ?_ <;> conv => whnf) | fail)
  intro o1 ho1
  conv => whnf
  repeat (first | (refine RunH ?_; intro w hL hB; try clear w) | (refine Both.mk ?_ ?_ <;> conv => whnf) | fail)
  refine Lq.of_row (Ld.rowF ttOk ktpC_len 2 (hrow hL) tl9 rfl hget rfl (by omega) rfl) ?_
  conv => whnf
  repeat (first | (refine RunH ?_; intro w hL hB; try clear w) | (refine Both.mk ?_ ?_ <;> conv => whnf) | fail)
  intro o3 ho3
  conv => whnf
  repeat (first | (refine RunH ?_; intro w hL hB; try clear w) | (refine Both.mk ?_ ?_ <;> conv => whnf) | fail)
  refine Lq.of_row (v := .slice pa s.b.length pc) (Ld.rowF ttOk ktpC_len 3 (hrow hL) tl22 rfl hget (by rw [ktpC, hpv]; rfl) (by omega) rfl) ?_
  conv => whnf
  repeat (first | (refine RunH ?_; intro w hL hB; try clear w) | (refine Both.mk ?_ ?_ <;> conv => whnf) | fail)
  rintro w rfl
  by_cases hbig : 8000 < n + s.a.size + s.b.length
  · conv => whnf
    repeat (first | (refine RunH ?_; intro w hL hB; try clear w) | (refine Both.mk ?_ ?_ <;> conv => whnf) | fail)
    exact ⟨⟨true, rfl, fun h => by cases h⟩, hL.below⟩
  · conv => whnf
    repeat (first | (refine RunH ?_; intro w hL hB; try clear w) | (refine Both.mk ?_ ?_ <;> conv => whnf) | fail)
    refine ⟨(k + 1, n + s.a.size + s.b.length), ⟨rfl, vint (by push_cast; omega), vint (by push_cast; omega), trivial⟩, ⟨by omega, by omega, fun i x hx hi' => ?_, hL⟩, (by first | omega | (dsimp only; omega))⟩
    dsimp only at hi'
    by_cases he : i = k
    · subst he
      rw [hget] at hx
      injection hx with hx
      subst hx
      omega
    · exact hall i x hx (by omega)
set_option maxHeartbeats 8000000 in
theorem plays_fn (room : Int) (v : Value) (ss : List Ktp) (w0 : World) (hrw : (Lit.int .i64 room).wf = true) (hs : SlN w0 5 v ss.length (ss.flatMap ktpC)) (hin : ∀ s ∈ ss, InKtp w0 s) :
    Fn Try.prog 6 #[.int .i64 room, v] w0 fun r w' => r = .bool true ∧ Below w0.heap.size w0 w' := by
  have hrr := i64_wf hrw
  have hL := Sep.start Try.prog w0
  have hB := Nat.le_refl w0.heap.size
  have hle := hs.le
  obtain ⟨a1, c1, rfl⟩ := hs.shape
  refine Fn.mk Try.func6 rfl (by kernel_rfl) Try.ntmps6 rfl (by rw [Try.results6]) ?_
  repeat (first | (refine RunH ?_; intro w hL hB; try clear w) | (refine Both.mk ?_ ?_ <;> conv => whnf) | fail)
  refine (heavy_fn _ ss _ hs hin).mono fun r w ⟨⟨h, hr, hh⟩, hw⟩ => ?_
  subst hr
  replace hL := hL.call hB (Turns.of_below hw)
  replace hB := Nat.le_trans hB hw.size
  cases h with
  | true =>
    conv => whnf
    repeat (first | (refine RunH ?_; intro w hL hB; try clear w) | (refine Both.mk ?_ ?_ <;> conv => whnf) | (refine (known_fn _).mono fun r w hr => ?_; obtain ⟨hr, hw⟩ := hr; subst hr; replace hL := hL.call hB (Turns.of_below hw); replace hB := Nat.le_trans hB hw.size; conv => whnf) | fail)
    exact ⟨rfl, hL.below⟩
  | false =>
  have hh' := hh rfl
  conv => whnf
  repeat (first | (refine RunH ?_; intro w hL hB; try clear w) | (refine Both.mk ?_ ?_ <;> conv => whnf) | fail)
  refine (new_fn room hL hB).mono fun r w hr => ?_
  by_cases hroom : 0 ≤ room ∧ room ≤ 1073741824
  case neg =>
    obtain ⟨hr, hw⟩ := hr.2 hroom
    subst hr; subst hw
    conv => whnf
    repeat (first | (refine RunH ?_; intro w hL hB; try clear w) | (refine Both.mk ?_ ?_ <;> conv => whnf) | fail)
    refine (newR_fn room hL hB).mono fun r w hr => ?_
    obtain ⟨hr, hL, hB⟩ := hr.2 hroom
    subst hr
    conv => whnf
    repeat (first | (refine RunH ?_; intro w hL hB; try clear w) | (refine Both.mk ?_ ?_ <;> conv => whnf) | (refine (known_fn _).mono fun r w hr => ?_; obtain ⟨hr, hw⟩ := hr; subst hr; replace hL := hL.call hB (Turns.of_below hw); replace hB := Nat.le_trans hB hw.size; conv => whnf) | fail)
    exact ⟨rfl, hL.below⟩
  obtain ⟨d, hr, hD⟩ := hr.1 hroom
  subst hr
  obtain ⟨dD, hL, hB, clD⟩ := hD.open
  clear hD
  conv => whnf
  repeat (first | (refine RunH ?_; intro w hL hB; try clear w) | (refine Both.mk ?_ ?_ <;> conv => whnf) | fail)
  refine (newR_fn room hL hB).mono fun r w hr => ?_
  obtain ⟨k, hr, hD⟩ := hr.1 hroom
  subst hr
  have h2 : Two w0.heap.size w0 w d k room.toNat [] [] := Two.mk' (F := []) (.refl _) hD clD
  obtain ⟨dR, hL, hB, clR⟩ := hD.open
  clear hD
  conv => whnf
  repeat (first | (refine RunH ?_; intro w hL hB; try clear w) | (refine Both.mk ?_ ?_ <;> conv => whnf) | fail)
  clear hL hB clR clD
  refine V.loop (α := Nat) (fun i => [(1, .slice a1 ss.length c1), (5, ptr d), (7, ptr k), (9, .int .i64 (i : Int))])
    (fun i w' => i ≤ ss.length ∧ i ≤ 100 ∧ ∃ S, Two w0.heap.size w0 w' d k room.toNat S []) (fun i => ss.length - i) 0 ⟨rfl, rfl, rfl, rfl, trivial⟩ ⟨by simp, by simp, [], h2⟩ ?_
  clear h2
  rintro i w ⟨hi, hi2, S, h2⟩
  dsimp only at *
  have hend : ∀ {w : World} {S : List Fl}, Two w0.heap.size w0 w d k room.toNat S [] → ∃ dD, Sep Try.prog w0.heap.size w0 w dD ∧ w0.heap.size ≤ w.heap.size := fun h => by
    obtain ⟨⟨R, dR, hp, hD, clR⟩⟩ := h
    obtain ⟨dD, hL, hB, clD⟩ := hD.open
    exact ⟨_, hL, hB⟩
  by_cases hgo : i < ss.length ∧ i < 100
  case neg =>
    obtain ⟨dD, hL, hB⟩ := hend h2
    have hstop : ¬ i < ss.length ∨ (i < ss.length ∧ ¬ i < 100) := by omega
    rcases hstop with hst | ⟨hst1, hst2⟩ <;> (
      repeat (first | (refine RunH ?_; intro w hL hB; try clear w) | (refine Both.mk ?_ ?_ <;> conv => whnf) | (refine (known_fn _).mono fun r w hr => ?_; obtain ⟨hr, hw⟩ := hr; subst hr; replace hL := hL.call hB (Turns.of_below hw); replace hB := Nat.le_trans hB hw.size; conv => whnf) | fail)
      exact ⟨rfl, hL.below⟩)
  have hget := List.getElem?_eq_getElem hgo.1
  have hsz := hh' i _ hget hgo.2
  have hst := hin _ (List.getElem_mem hgo.1)
  generalize hsk : ss[i] = s at *
  obtain ⟨bb, o, rfl, _⟩ := hs.addr (by omega)
  have hrow : ∀ {w : World} {L : List Res}, Sep Try.prog w0.heap.size w0 w L → Row w bb o (ss.flatMap ktpC) := fun h => (hs.below h.below).rowOf
  obtain ⟨dD, hL, hB⟩ := hend h2
  repeat (first | (refine RunH ?_; intro w hL hB; try clear w) | (refine Both.mk ?_ ?_ <;> conv => whnf) | fail)
  intro o1 ho1
  conv => whnf
  refine Ld.rowN ttOk ktpC_len (hrow hL) tl47 rfl rfl hget (by omega) ?_
  conv => whnf
  repeat (first | (refine RunH ?_; intro w hL hB; try clear w) | (refine Both.mk ?_ ?_ <;> conv => whnf) | fail)
  clear hL hB
  refine (does_fn s ⟨hst.n, hsz.1, hsz.2, hst.sl⟩ h2).mono fun r w ⟨hr, S3, h2⟩ => ?_
  subst hr
  obtain ⟨dD, hL, hB⟩ := hend h2
  conv => whnf
  repeat (first | (refine RunH ?_; intro w hL hB; try clear w) | (refine Both.mk ?_ ?_ <;> conv => whnf) | fail)
  clear hL hB
  refine (stood_fn h2).mono fun r w ⟨hr, h2⟩ => ?_
  subst hr
  conv => whnf
  refine RunR ?_
  exact ⟨i + 1, ⟨rfl, rfl, rfl, vint (by push_cast; omega), trivial⟩, ⟨by omega, by omega, S3, h2⟩, (by first | omega | (dsimp only; omega))⟩
theorem five' {l : List Value} (h : l.length = 5) : ∃ a b c d e, l = [a, b, c, d, e] := by
  match l, h with
  | [a, b, c, d, e], _ => exact ⟨a, b, c, d, e, rfl⟩
theorem ktp_open {w : World} {l : List Value} (h : opz Try.prog TT 140737488355328 w 3 47 l) : ∃ s : Ktp, l = ktpC s ∧ InKtp w s := by
  obtain ⟨hlen, h1, h2, h3, h5, h6, _⟩ := h
  obtain ⟨a, b, c, e, f, rfl⟩ := five' hlen
  obtain ⟨n1, e1, w1⟩ := h1
  obtain ⟨n2, e2, w2⟩ := h2
  obtain ⟨n3, e3, w3⟩ := h3
  obtain ⟨l5, hl5, w5⟩ := bytes_open (d := 0) h5
  obtain ⟨n6, e6, w6⟩ := h6
  have e1' : [a] = [.int .i64 n1] := e1
  have e2' : [b] = [.int .i64 n2] := e2
  have e3' : [c] = [.string n3] := e3
  have e6' : [f] = [.int .u8 n6] := e6
  injection e1' with e1'
  injection e2' with e2'
  injection e3' with e3'
  injection e6' with e6'
  subst e1'; subst e2'; subst e3'; subst e6'
  obtain ⟨x, rfl⟩ := wf_u8 w6
  exact ⟨⟨n1, n2, n3, e, l5, x⟩, rfl, i64_wf w2, w3, w5, hl5⟩
theorem steps_open {w : World} {v : Value} (h : opz Try.prog TT 140737488355328 w 4 40 [v]) : ∃ ss : List Ktp, SlN w 5 v ss.length (ss.flatMap ktpC) ∧ ∀ s ∈ ss, InKtp w s := by
  obtain ⟨ss, h1, h2, _⟩ := sl_open (α := Ktp) tl40 tl47 (by decide) ktpC ktpC_len (fun s => InKtp w s) (fun es _ h => ktp_open h) h
  exact ⟨ss, h1, h2⟩
end Go.Proofs.Ytjgiailgidbkmaa
