/- VolumePlays: what is laid; numbers that are no volume's; heavy. VolumePlays. Nothing is claimed here. -/
import Derived.Test.YtpkealgeigpjpaaGreatDoorK38
import Derived.WalkSmall
import Derived.Test.YtpkealgeigpjpaaGreatDoorK24
namespace Go.Proofs.YtpkealgeigpjpaaGreatDoor
open Go.RowKit Go.Lib
open Go.Maps (Keyed)
set_option linter.unusedVariables false
set_option linter.unusedSimpArgs false
set_option maxRecDepth 100000
theorem tab_below {P : Program} {w0 w : World} {name : String} {k : IntKind} {zs : List Int} (h : TabIs P w0 name k zs) (hb : Below w0.heap.size w0 w) : TabIs P w name k zs := by
  unfold TabIs at *
  cases hg : P.globalNamed name with
  | none => simp [World.var?, hg] at h
  | some g =>
    refine var?_below hb hg ?_ h
    refine Nat.lt_of_not_le fun hge => ?_
    simp only [World.var?, hg, Option.bind_some] at h
    rw [Array.getElem?_eq_none hge] at h
    cases h
theorem nameInG {w0 : World} (htab : TabIs Tryz.prog w0 "internal/strconv.uint64pow10" .u64 pow10Tab) {id : Nat} (hi : id ≤ 99999999) : NameIn w0.heap.size w0 id (vnmG id) :=
  ⟨⟨hi, by rw [vnmG_size hi]; decide, by rw [vnmG_size hi]; decide⟩, fun w L hL _ => vnameG_fn id hi w (tab_below htab hL.below)⟩
section
variable {B : Nat} {w0 w : World} {F : List Res}
theorem vcreate_bad (d : Nat) (id : Int) (h : ¬ (0 ≤ id ∧ id ≤ 99999999)) (w : World) : Fn Tryz.prog 8 #[ptr d, .int .i64 id] w fun r w' => r = .tuple #[.pointer none, .int .i64 1] ∧ w' = w := by
  have hL := Sep.start Tryz.prog w
  have hB := Nat.le_refl w.heap.size
  have hid := isID_fn id
  rw [decide_eq_false h] at hid
  refine Fn.mk Tryz.func8 rfl (by kernel_rfl) Tryz.ntmps8 rfl (by rw [Tryz.results8]) ?_
  repeat (first | (refine RunH ?_; intro w hL hB; try clear w) | (refine Both.mk ?_ ?_ <;> conv => whnf) | (refine (hid _).mono fun r w1 hr => ?_; obtain ⟨hr, hw⟩ := hr; subst hr; subst hw; conv => whnf) | fail)
  exact ⟨rfl, rfl⟩
theorem vopen_bad (d : Nat) (id : Int) (h : ¬ (0 ≤ id ∧ id ≤ 99999999)) (w : World) : Fn Tryz.prog 34 #[ptr d, .int .i64 id] w fun r w' => r = .tuple #[.pointer none, .int .i64 1] ∧ w' = w := by
  have hL := Sep.start Tryz.prog w
  have hB := Nat.le_refl w.heap.size
  have hid := isID_fn id
  rw [decide_eq_false h] at hid
  refine Fn.mk Tryz.func34 rfl (by kernel_rfl) Tryz.ntmps34 rfl (by rw [Tryz.results34]) ?_
  repeat (first | (refine RunH ?_; intro w hL hB; try clear w) | (refine Both.mk ?_ ?_ <;> conv => whnf) | (refine (hid _).mono fun r w1 hr => ?_; obtain ⟨hr, hw⟩ := hr; subst hr; subst hw; conv => whnf) | fail)
  exact ⟨rfl, rfl⟩
theorem rcreate_bad (k : Nat) (id : Int) (h : ¬ (0 ≤ id ∧ id ≤ 99999999)) (w : World) : Fn Tryz.prog 9 #[ptr k, .int .i64 id] w fun r w' => r = .tuple #[.pointer none, .int .i64 1] ∧ w' = w := by
  have hL := Sep.start Tryz.prog w
  have hB := Nat.le_refl w.heap.size
  refine Fn.mk Tryz.func9 rfl (by kernel_rfl) Tryz.ntmps9 rfl (by rw [Tryz.results9]) ?_
  repeat (first | (refine RunH ?_; intro w hL hB; try clear w) | (refine Both.mk ?_ ?_ <;> conv => whnf) | (refine (nameR_bad id h _).mono fun r w1 hr => ?_; obtain ⟨hr, hw⟩ := hr; subst hr; subst hw; conv => whnf) | fail)
  exact ⟨rfl, rfl⟩
theorem ropen_bad (k : Nat) (id : Int) (h : ¬ (0 ≤ id ∧ id ≤ 99999999)) (w : World) : Fn Tryz.prog 35 #[ptr k, .int .i64 id] w fun r w' => r = .tuple #[.pointer none, .int .i64 1] ∧ w' = w := by
  have hL := Sep.start Tryz.prog w
  have hB := Nat.le_refl w.heap.size
  refine Fn.mk Tryz.func35 rfl (by kernel_rfl) Tryz.ntmps35 rfl (by rw [Tryz.results35]) ?_
  repeat (first | (refine RunH ?_; intro w hL hB; try clear w) | (refine Both.mk ?_ ?_ <;> conv => whnf) | (refine (nameR_bad id h _).mono fun r w1 hr => ?_; obtain ⟨hr, hw⟩ := hr; subst hr; subst hw; conv => whnf) | fail)
  exact ⟨rfl, rfl⟩
theorem popen_bad {d k p : Nat} {pv px : Value} (id : Int) (h : ¬ (0 ≤ id ∧ id ≤ 99999999)) (hpv : pv.oneCell' = true ∧ px.oneCell' = true) (hL : Sep Tryz.prog B w0 w (.blk p [ptr d, ptr k, pv, px, .int .i64 id] 36 :: F)) (hB : B ≤ w.heap.size) :
    Fn Tryz.prog 12 #[ptr p] w fun r w' => r = .tuple #[.bool true, .bool false] ∧ Sep Tryz.prog B w0 w' F ∧ B ≤ w'.heap.size := by
  refine Fn.mk Tryz.func12 rfl (by kernel_rfl) Tryz.ntmps12 rfl (by rw [Tryz.results12]) ?_
  repeat (first | (refine RunK ?_; intro w hL hB; try clear w) | (refine V.tree ttOk (fun x0 => Sep Tryz.prog _ w0 x0 [.blk p [ptr d, ptr k, pv, px, .int .i64 id] 36]) (.q 0 (.q 1 (.q 2 (.q 3 (.q 4 (.q 5 (.q 6 (.q 7 (.alt 8 (.q 9 (.q 10 (.q 11 (.q 12 (.q 13 .nil))))) .stop))))))))) mixed (by decide +kernel) (hL.drew.one (i := 0) rfl) ?_; replace hL := hL.drew; conv => whnf) | (refine V.tailA ttOk mixed (by decide +kernel) ?_; replace hL := hL.drew; conv => whnf) | (refine Both.mk ?_ ?_ <;> conv => whnf) | fail)
  refine (vopen_bad _ _ h _).mono fun r w' ⟨hr, hw⟩ => ?_
  subst hr; subst hw
  conv => whnf
  refine ⟨hL.one (i := 0) rfl, ?_⟩
  conv => whnf
  repeat (first | (refine RunK ?_; intro w hL hB; try clear w) | (refine V.tree ttOk (fun x0 => Sep Tryz.prog _ w0 x0 [.blk p [ptr d, ptr k, pv, px, .int .i64 id] 36]) (.q 0 (.q 1 (.q 2 (.q 3 (.q 4 (.q 5 (.q 6 (.q 7 (.alt 8 (.q 9 (.q 10 (.q 11 (.q 12 (.q 13 .nil))))) .stop))))))))) mixed (by decide +kernel) (hL.drew.one (i := 0) rfl) ?_; replace hL := hL.drew; conv => whnf) | (refine V.tailA ttOk mixed (by decide +kernel) ?_; replace hL := hL.drew; conv => whnf) | (refine Both.mk ?_ ?_ <;> conv => whnf) | fail)
  refine (ropen_bad _ _ h _).mono fun r w' ⟨hr, hw⟩ => ?_
  subst hr; subst hw
  conv => whnf
  refine ⟨hL.one (i := 0) rfl, ?_⟩
  conv => whnf
  repeat (first | (refine RunH ?_; intro w hL hB; try clear w) | (refine Both.mk ?_ ?_ <;> conv => whnf) | fail)
  exact ⟨by simp, hL.tl, hB⟩
end
/-- a step that came in: its sizes are those of the machine -/
structure InVtp (w0 : World) (s : Vtp) : Prop where
  n : -9223372036854775808 ≤ s.n ∧ s.n ≤ 9223372036854775807
  key : s.key < 18446744073709551616
  cook : s.cook < 4294967296
  d : s.d.length ≤ 140737488355328
  sl : Sl w0 s.dV (bv s.d)
set_option maxHeartbeats 4000000 in
theorem heavyV_fn (v : Value) (ss : List Vtp) (w0 : World) (hs : SlN w0 7 v ss.length (ss.flatMap vtpC)) (hin : ∀ s ∈ ss, InVtp w0 s) :
    Fn Tryz.prog 4 #[v] w0 fun r w' => (∃ h, r = .bool h ∧ (h = false → ∀ (i : Nat) (s : Vtp), ss[i]? = some s → i < 120 → s.d.length ≤ 20000)) ∧ Below w0.heap.size w0 w' := by
  have hL := Sep.start Tryz.prog w0
  have hB := Nat.le_refl w0.heap.size
  have hle := hs.le
  obtain ⟨a1, c1, rfl⟩ := hs.shape
  refine Fn.mk Tryz.func4 rfl (by kernel_rfl) Tryz.ntmps4 rfl (by rw [Tryz.results4]) ?_
  repeat (first | (refine RunH ?_; intro w hL hB; try clear w) | (refine Both.mk ?_ ?_ <;> conv => whnf) | fail)
  refine V.loop (α := Nat × Nat) (fun z => [(0, .slice a1 ss.length c1), (3, .int .i64 (z.2 : Int)), (4, .int .i64 (z.1 : Int))])
    (fun z w' => z.1 ≤ ss.length ∧ z.2 ≤ 20000 ∧ (∀ (i : Nat) (s : Vtp), ss[i]? = some s → i < z.1 → s.d.length ≤ 20000) ∧ Sep Tryz.prog w0.heap.size w0 w' []) (fun z => ss.length - z.1) (0, 0) ⟨rfl, rfl, rfl, trivial⟩ ⟨by simp, by simp, by intro i s _ h; simp at h, hL⟩ ?_
  clear hL hB
  rintro ⟨k, n⟩ w ⟨hk, hn, hall, hL⟩
  have hB := hL.below.size
  dsimp only at *
  by_cases hkl : k < ss.length
  case neg =>
    repeat (first | (refine RunH ?_; intro w hL hB; try clear w) | (refine Both.mk ?_ ?_ <;> conv => whnf) | fail)
    exact ⟨⟨false, rfl, fun _ i s hs hi => hall i s hs (by have := (List.getElem?_eq_some_iff.1 hs).1; omega)⟩, hL.below⟩
  by_cases hk2 : k < 120
  case neg =>
    repeat (first | (refine RunH ?_; intro w hL hB; try clear w) | (refine Both.mk ?_ ?_ <;> conv => whnf) | fail)
    exact ⟨⟨false, rfl, fun _ i s hs hi => hall i s hs (by omega)⟩, hL.below⟩
  have hget := List.getElem?_eq_getElem hkl
  have hi := hin _ (List.getElem_mem hkl)
  generalize hsk : ss[k] = s at *
  have h3 := hi.d
  obtain ⟨pa, pc, hpv⟩ : ∃ a c, s.dV = .slice a s.d.length c := by
    obtain ⟨a, c, he⟩ := hi.sl.shape
    rw [bv_length] at he
    exact ⟨a, c, he⟩
  obtain ⟨bb, o, rfl, _⟩ := hs.addr (by omega)
  have hrow : ∀ {w : World}, Sep Tryz.prog w0.heap.size w0 w [] → Row w bb o (ss.flatMap vtpC) := fun h => (hs.below h.below).rowOf
  repeat (first | (refine RunH ?_; intro w hL hB; try clear w) | (refine Both.mk ?_ ?_ <;> conv => whnf) | fail)
  intro o1 ho1
  conv => whnf
  repeat (first | (refine RunH ?_; intro w hL hB; try clear w) | (refine Both.mk ?_ ?_ <;> conv => whnf) | fail)
  refine Ld.rowF ttOk vtpC_len 5 (hrow hL) tl47 rfl hget (by rw [vtpC, hpv]; rfl) (by omega) ?_
  conv => whnf
  repeat (first | (refine RunH ?_; intro w hL hB; try clear w) | (refine Both.mk ?_ ?_ <;> conv => whnf) | fail)
  by_cases hbig : 20000 < n + s.d.length
  · repeat (first | (refine RunH ?_; intro w hL hB; try clear w) | (refine Both.mk ?_ ?_ <;> conv => whnf) | fail)
    exact ⟨⟨true, rfl, fun h => by cases h⟩, hL.below⟩
  · repeat (first | (refine RunH ?_; intro w hL hB; try clear w) | (refine Both.mk ?_ ?_ <;> conv => whnf) | fail)
    refine ⟨(k + 1, n + s.d.length), ⟨rfl, vint (by push_cast; omega), vint (by push_cast; omega), trivial⟩, ⟨by omega, by omega, fun i x hx hi' => ?_, hL⟩, (by first | omega | (dsimp only; omega))⟩
    dsimp only at hi'
    by_cases he : i = k
    · subst he
      rw [hget] at hx
      injection hx with hx
      subst hx
      omega
    · exact hall i x hx (by omega)
end Go.Proofs.YtpkealgeigpjpaaGreatDoor
namespace Go.Proofs.YtpkealgeigpjpaaGreatDoor
open Go.RowKit Go.Lib
open Go.Maps (Keyed)
set_option linter.unusedVariables false
set_option linter.unusedSimpArgs false
set_option maxRecDepth 100000
set_option maxHeartbeats 16000000 in
theorem vplays_fn (room id : Int) (v0 : Value) (ss : List Vtp) (w0 : World) (hrw : (Lit.int .i64 room).wf = true) (hiw : (Lit.int .i64 id).wf = true) (htab : TabIs Tryz.prog w0 "internal/strconv.uint64pow10" .u64 pow10Tab) (hs : SlN w0 7 v0 ss.length (ss.flatMap vtpC)) (hin : ∀ s ∈ ss, InVtp w0 s) :
    Fn Tryz.prog 3 #[.int .i64 room, .int .i64 id, v0] w0 fun r w' => r = .bool true ∧ Below w0.heap.size w0 w' := by
  have hrr := i64_wf hrw
  have hii := i64_wf hiw
  have hL := Sep.start Tryz.prog w0
  have hB := Nat.le_refl w0.heap.size
  have hle := hs.le
  obtain ⟨a1, c1, rfl⟩ := hs.shape
  refine Fn.mk Tryz.func3 rfl (by kernel_rfl) Tryz.ntmps3 rfl (by rw [Tryz.results3]) ?_
  repeat (first | (refine RunH ?_; intro w hL hB; try clear w) | (refine Both.mk ?_ ?_ <;> conv => whnf) | fail)
  refine (heavyV_fn _ ss _ hs hin).mono fun r w ⟨⟨h, hr, hh⟩, hw⟩ => ?_
  subst hr
  replace hL := hL.call hB (Turns.of_below hw)
  replace hB := Nat.le_trans hB hw.size
  cases h with
  | true =>
    conv => whnf
    repeat (first | (refine RunH ?_; intro w hL hB; try clear w) | (refine Both.mk ?_ ?_ <;> conv => whnf) | (refine (knownV_fn _).mono fun r w hr => ?_; obtain ⟨hr, hw⟩ := hr; subst hr; replace hL := hL.call hB (Turns.of_below hw); replace hB := Nat.le_trans hB hw.size; conv => whnf) | fail)
    exact ⟨rfl, hL.below⟩
  | false =>
  have hh' := hh rfl
  conv => whnf
  repeat (first | (refine RunH ?_; intro w hL hB; try clear w) | (refine Both.mk ?_ ?_ <;> conv => whnf) | fail)
  refine (new_fn room hL hB).mono fun r w hr => ?_
  by_cases hroom : 0 ≤ room ∧ room ≤ 1073741824
  case neg =>
    obtain ⟨hr, hw⟩ := hr.2 hroom
    subst hr; subst hw
    conv => whnf
    repeat (first | (refine RunH ?_; intro w hL hB; try clear w) | (refine Both.mk ?_ ?_ <;> conv => whnf) | fail)
    refine (newR_fn room hL hB).mono fun r w hr => ?_
    obtain ⟨hr, hL, hB⟩ := hr.2 hroom
    subst hr
    conv => whnf
    repeat (first | (refine RunH ?_; intro w hL hB; try clear w) | (refine Both.mk ?_ ?_ <;> conv => whnf) | (refine (knownV_fn _).mono fun r w hr => ?_; obtain ⟨hr, hw⟩ := hr; subst hr; replace hL := hL.call hB (Turns.of_below hw); replace hB := Nat.le_trans hB hw.size; conv => whnf) | fail)
    exact ⟨rfl, hL.below⟩
  obtain ⟨d, hr, hD⟩ := hr.1 hroom
  subst hr
  obtain ⟨dD, hL, hB, clD⟩ := hD.open
  clear hD
  conv => whnf
  repeat (first | (refine RunH ?_; intro w hL hB; try clear w) | (refine Both.mk ?_ ?_ <;> conv => whnf) | fail)
  refine (newR_fn room hL hB).mono fun r w hr => ?_
  obtain ⟨k, hr, hD⟩ := hr.1 hroom
  subst hr
  obtain ⟨dR, hL, hB, clR⟩ := hD.open
  clear hD
  generalize hrm : room.toNat = rm at *
  have hb : Btw w0.heap.size w0 w d k rm [] [] [] := ⟨⟨dD, dR, hL, hB, clD, clR⟩⟩
  clear hL hB clD clR
  obtain ⟨G, hL, hB, cl⟩ := hb.sep
  clear hb
  conv => whnf
  repeat (first | (refine RunH ?_; intro w hL hB; try clear w) | (refine Both.mk ?_ ?_ <;> conv => whnf) | fail)
  (refine Nw.sep hL hB (fun p w hL hB hp => ?_); conv => whnf)
  repeat (first | (refine RunH ?_; intro w hL hB; try clear w) | (refine Both.mk ?_ ?_ <;> conv => whnf) | fail)
  by_cases hid : 0 ≤ id ∧ id ≤ 99999999
  case neg =>
    refine (vcreate_bad d id hid _).mono fun r w' ⟨hr, hw⟩ => ?_
    subst hr; subst hw
    conv => whnf
    repeat (first | (refine RunH ?_; intro w hL hB; try clear w) | (refine Both.mk ?_ ?_ <;> conv => whnf) | fail)
    refine (rcreate_bad k id hid _).mono fun r w' ⟨hr, hw⟩ => ?_
    subst hr; subst hw
    conv => whnf
    repeat (first | (refine RunH ?_; intro w hL hB; try clear w) | (refine Both.mk ?_ ?_ <;> conv => whnf) | fail)
    refine (vname_bad id hid _).mono fun r w' ⟨hr, hw⟩ => ?_
    subst hr; subst hw
    conv => whnf
    repeat (first | (refine RunH ?_; intro w hL hB; try clear w) | (refine Both.mk ?_ ?_ <;> conv => whnf) | fail)
    refine (nameR_bad id hid _).mono fun r w' ⟨hr, hw⟩ => ?_
    subst hr; subst hw
    conv => whnf
    repeat (first | (refine RunH ?_; intro w hL hB; try clear w) | (refine Both.mk ?_ ?_ <;> conv => whnf) | (refine Br.yes (decide_eq_true rfl) ?_; conv => whnf) | fail)
    refine (popen_bad (F := G) id hid ⟨rfl, rfl⟩ hL hB).mono fun r w ⟨hr, hL, hB⟩ => ?_
    subst hr
    conv => whnf
    repeat (first | (refine RunH ?_; intro w hL hB; try clear w) | (refine Both.mk ?_ ?_ <;> conv => whnf) | (refine (knownV_fn _).mono fun r w hr => ?_; obtain ⟨hr, hw⟩ := hr; subst hr; replace hL := hL.call hB (Turns.of_below hw); replace hB := Nat.le_trans hB hw.size; conv => whnf) | fail)
    exact ⟨rfl, hL.below⟩
  obtain ⟨i, rfl⟩ := Int.eq_ofNat_of_zero_le hid.1
  have hi : i ≤ 99999999 := by omega
  have hn := nameInG htab hi
  have hnR := nameR_fn i hi
  generalize hnm : vnmG i = nm at *
  obtain ⟨dX, hD, back⟩ := (cl (F' := [_]) hL hB).dk
  refine (create_fn hn hD).mono fun r w ⟨_, h2, h3⟩ => ?_
  clear cl hL hB
  have hcR := fun w F hD => createR_fn (B := w0.heap.size) (w0 := w0) (w := w) (k := k) (room := rm) (F := F) hi hD
  rw [hnm] at hcR
  by_cases hE : appE rm [] nm 8 = 0
  case neg =>
    obtain ⟨hr, hD⟩ := h2 rfl hE
    clear h2 h3
    subst hr
    obtain ⟨G, hL, hB, cl⟩ := (back (F' := [_]) hD).sep
    clear hD back
    conv => whnf
    repeat (first | (refine RunH ?_; intro w hL hB; try clear w) | (refine Both.mk ?_ ?_ <;> conv => whnf) | fail)
    obtain ⟨dD, hD, back⟩ := (cl (F' := [_]) hL hB).rk
    refine (hcR _ _ hD).mono fun r w ⟨h2, _⟩ => ?_
    obtain ⟨hr, hD⟩ := h2 hE
    clear h2
    subst hr
    obtain ⟨G, hL, hB, cl⟩ := (back (F' := [_]) hD).sep
    clear hD back
    conv => whnf
    repeat (first | (refine RunH ?_; intro w hL hB; try clear w) | (refine Both.mk ?_ ?_ <;> conv => whnf) | fail)
    refine (hn.2 _ _ hL hB).mono fun r w ⟨hr, hw⟩ => ?_
    subst hr
    replace hL := hL.call hB (Turns.of_below hw)
    replace hB := Nat.le_trans hB hw.size
    conv => whnf
    repeat (first | (refine RunH ?_; intro w hL hB; try clear w) | (refine Both.mk ?_ ?_ <;> conv => whnf) | fail)
    refine (hnR _).mono fun r w ⟨hr, hw⟩ => ?_
    subst hr
    replace hL := hL.call hB (Turns.of_below hw)
    replace hB := Nat.le_trans hB hw.size
    generalize hEE : appE rm [] nm 8 = E at *
    conv => whnf
    repeat (first | (refine RunH ?_; intro w hL hB; try clear w) | (refine Both.mk ?_ ?_ <;> conv => whnf) | (refine Br.yes (decide_eq_true rfl) ?_; conv => whnf) | (refine Br.yes (by simp; omega) ?_; conv => whnf) | fail)
    refine (popen_fn hn hnm (.inl rfl) (cl (F' := [_]) hL hB) ⟨rfl, rfl⟩).mono fun r w ⟨h1, _⟩ => ?_
    obtain ⟨hr, hb⟩ := h1 (fun h => by simp [openE, getS] at h)
    clear cl hL hB
    obtain ⟨G, hL, hB, cl⟩ := hb.sep
    subst hr
    conv => whnf
    repeat (first | (refine RunH ?_; intro w hL hB; try clear w) | (refine Both.mk ?_ ?_ <;> conv => whnf) | (refine (knownV_fn _).mono fun r w hr => ?_; obtain ⟨hr, hw⟩ := hr; subst hr; replace hL := hL.call hB (Turns.of_below hw); replace hB := Nat.le_trans hB hw.size; conv => whnf) | fail)
    exact ⟨rfl, hL.below⟩
  obtain ⟨v, m, hr, hD⟩ := h3 rfl hE
  clear h2 h3
  subst hr
  obtain ⟨G, hL, hB, cl⟩ := (back (F' := [_, _, _]) hD).sep
  clear hD back
  conv => whnf
  repeat (first | (refine RunH ?_; intro w hL hB; try clear w) | (refine Both.mk ?_ ?_ <;> conv => whnf) | fail)
  obtain ⟨dD, hD, back⟩ := (cl (F' := [_, _, _]) hL hB).rk
  refine (hcR _ _ hD).mono fun r w ⟨_, h2⟩ => ?_
  obtain ⟨x, hr, hD⟩ := h2 hE
  clear h2
  subst hr
  obtain ⟨G, hL, hB, cl⟩ := (back (F' := [_, _, _, _]) hD).sep
  clear hD back
  rw [volC, rvC] at hL
  conv => whnf
  repeat (first | (refine RunH ?_; intro w hL hB; try clear w) | (refine Both.mk ?_ ?_ <;> conv => whnf) | fail)
  refine (hn.2 _ _ hL hB).mono fun r w ⟨hr, hw⟩ => ?_
  subst hr
  replace hL := hL.call hB (Turns.of_below hw)
  replace hB := Nat.le_trans hB hw.size
  conv => whnf
  repeat (first | (refine RunH ?_; intro w hL hB; try clear w) | (refine Both.mk ?_ ?_ <;> conv => whnf) | fail)
  refine (hnR _).mono fun r w ⟨hr, hw⟩ => ?_
  subst hr
  replace hL := hL.call hB (Turns.of_below hw)
  replace hB := Nat.le_trans hB hw.size
  conv => whnf
  repeat (first | (refine RunH ?_; intro w hL hB; try clear w) | (refine Both.mk ?_ ?_ <;> conv => whnf) | (refine Br.yes (decide_eq_true rfl) ?_; conv => whnf) | fail)
  have h8 := vhd_len i
  have hS1 : PrS nm (syncS (appS rm [] nm (vhd i)) nm) [] [] ∧ szS (syncS (appS rm [] nm (vhd i)) nm) nm = 8 := by
    have hz := app_sz (nm := nm) (S := []) (.inl rfl) (room := rm) (xs := vhd i) (by rw [h8]; exact hE)
    have h0 : szS [] nm = 0 := rfl
    rw [h8, h0] at hz
    exact ⟨⟨(OneN.app (.inl rfl) rm _).sync, Rel.nil, (fun p hp => by cases hp), (fun p hp => by cases hp), by rw [hz]; simp [sumN], by simp⟩, hz⟩
  generalize syncS (appS rm [] nm (vhd i)) nm = S1 at *
  have hz1 := hS1.2
  refine V.loop (α := Nat) (fun j => [(2, .slice a1 ss.length c1), (11, ptr p), (18, .int .i64 (j : Int))])
    (fun j w' => j ≤ ss.length ∧ j ≤ 120 ∧ ∃ S, szS S nm ≤ 8 + 20100 * j ∧ Pr w0.heap.size w0 w' d k rm i nm p S []) (fun j => ss.length - j) 0 ⟨rfl, rfl, rfl, trivial⟩ ⟨Nat.zero_le _, Nat.zero_le _, S1, by omega, by
    refine ⟨v, m, x, none, 0, [], [], ?_, hS1.1⟩
    have hLn := hL.addRow hB (Below.refl _ _) (e := 97) (sz := 5) (v := .slice none 0 0) (n := 0) (xs := []) ⟨rfl, .inl ⟨rfl, rfl⟩⟩
    have hb := cl (F' := [_, _, _, _, _]) hLn hB
    exact hb.perm (((List.Perm.swap _ _ _).trans ((List.perm_append_comm (l₁ := [_, _]) (l₂ := [_, _, _])))))⟩ ?_
  clear hL hB cl hS1 hcR
  rintro j w ⟨hj, hj2, S, hz, hP⟩
  have hend : ∀ {w : World} {S : List Fl}, Pr w0.heap.size w0 w d k rm i nm p S [] → ∃ L, Sep Tryz.prog w0.heap.size w0 w L ∧ w0.heap.size ≤ w.heap.size := fun h => by
    obtain ⟨v, m, x, ra, rc, ps, rL, hb, _⟩ := h
    obtain ⟨G, hL, hB, _⟩ := hb.sep
    exact ⟨_, hL, hB⟩
  obtain ⟨L, hL, hB⟩ := hend hP
  by_cases hgo : j < ss.length ∧ j < 120
  case neg =>
    have hstop : ¬ j < ss.length ∨ (j < ss.length ∧ ¬ j < 120) := by omega
    rcases hstop with hst | ⟨hst1, hst2⟩ <;> (
      repeat (first | (refine RunH ?_; intro w hL hB; try clear w) | (refine Both.mk ?_ ?_ <;> conv => whnf) | fail)
      refine (pstood_fn hn hnm (by omega) hP).mono fun r w ⟨hr, hP⟩ => ?_
      subst hr
      obtain ⟨L, hL, hB⟩ := hend hP
      conv => whnf
      repeat (first | (refine RunH ?_; intro w hL hB; try clear w) | (refine Both.mk ?_ ?_ <;> conv => whnf) | (refine (knownV_fn _).mono fun r w hr => ?_; obtain ⟨hr, hw⟩ := hr; subst hr; replace hL := hL.call hB (Turns.of_below hw); replace hB := Nat.le_trans hB hw.size; conv => whnf) | fail)
      exact ⟨rfl, hL.below⟩)
  have hget := List.getElem?_eq_getElem hgo.1
  have hsz := hh' j _ hget hgo.2
  have hst := hin _ (List.getElem_mem hgo.1)
  generalize hsk : ss[j] = s at *
  obtain ⟨bb, o, rfl, _⟩ := hs.addr (by omega)
  have hrow : ∀ {w : World} {L : List Res}, Sep Tryz.prog w0.heap.size w0 w L → Row w bb o (ss.flatMap vtpC) := fun h => (hs.below h.below).rowOf
  repeat (first | (refine RunH ?_; intro w hL hB; try clear w) | (refine Both.mk ?_ ?_ <;> conv => whnf) | fail)
  intro o1 ho1
  conv => whnf
  refine Ld.rowN ttOk vtpC_len (hrow hL) tl51 rfl rfl hget (by omega) ?_
  conv => whnf
  repeat (first | (refine RunH ?_; intro w hL hB; try clear w) | (refine Both.mk ?_ ?_ <;> conv => whnf) | fail)
  refine (pdoes_fn s ⟨hst.n, hst.key, hst.cook, hsz, hst.sl⟩ hn hnm (by omega) hP).mono fun r w hdo => ?_
  clear hL hB hP
  rcases hdo with ⟨hr, S', hz', hP⟩ | ⟨hr, hbel⟩
  · subst hr
    obtain ⟨L, hL, hB⟩ := hend hP
    conv => whnf
    repeat (first | (refine RunH ?_; intro w hL hB; try clear w) | (refine Both.mk ?_ ?_ <;> conv => whnf) | (refine Rem.at j 5 rfl rfl (by decide) ?_; conv => whnf) | fail)
    by_cases h7 : s.kind = 7
    · by_cases h5 : j % 5 = 0
      · repeat (first | (refine RunH ?_; intro w hL hB; try clear w) | (refine Both.mk ?_ ?_ <;> conv => whnf) | fail)
        intro o2 ho2
        conv => whnf
        repeat (first | (refine RunH ?_; intro w hL hB; try clear w) | (refine Both.mk ?_ ?_ <;> conv => whnf) | fail)
        refine Ld.rowF ttOk vtpC_len 0 (hrow hL) tl3 rfl hget rfl (by omega) ?_
        conv => whnf
        repeat (first | (refine RunH ?_; intro w hL hB; try clear w) | (refine Both.mk ?_ ?_ <;> conv => whnf) | fail)
        exact ⟨j + 1, ⟨rfl, rfl, vint (by push_cast; rfl), trivial⟩, ⟨by omega, by omega, S', by omega, hP⟩, (by first | omega | (dsimp only; omega))⟩
      · repeat (first | (refine RunH ?_; intro w hL hB; try clear w) | (refine Both.mk ?_ ?_ <;> conv => whnf) | fail)
        intro o2 ho2
        conv => whnf
        repeat (first | (refine RunH ?_; intro w hL hB; try clear w) | (refine Both.mk ?_ ?_ <;> conv => whnf) | fail)
        refine Ld.rowF ttOk vtpC_len 0 (hrow hL) tl3 rfl hget rfl (by omega) ?_
        conv => whnf
        by_cases h3 : 3 ≤ s.kind
        · repeat (first | (refine RunH ?_; intro w hL hB; try clear w) | (refine Both.mk ?_ ?_ <;> conv => whnf) | fail)
          intro o3 ho3
          conv => whnf
          repeat (first | (refine RunH ?_; intro w hL hB; try clear w) | (refine Both.mk ?_ ?_ <;> conv => whnf) | fail)
          refine Ld.rowF ttOk vtpC_len 0 (hrow hL) tl3 rfl hget rfl (by omega) ?_
          conv => whnf
          repeat (first | (refine RunH ?_; intro w hL hB; try clear w) | (refine Both.mk ?_ ?_ <;> conv => whnf) | fail)
          exact ⟨j + 1, ⟨rfl, rfl, vint (by push_cast; rfl), trivial⟩, ⟨by omega, by omega, S', by omega, hP⟩, (by first | omega | (dsimp only; omega))⟩
        · omega
    · by_cases h5 : j % 5 = 0
      · repeat (first | (refine RunH ?_; intro w hL hB; try clear w) | (refine Both.mk ?_ ?_ <;> conv => whnf) | fail)
        intro o2 ho2
        conv => whnf
        repeat (first | (refine RunH ?_; intro w hL hB; try clear w) | (refine Both.mk ?_ ?_ <;> conv => whnf) | fail)
        refine Ld.rowF ttOk vtpC_len 0 (hrow hL) tl3 rfl hget rfl (by omega) ?_
        conv => whnf
        repeat (first | (refine RunH ?_; intro w hL hB; try clear w) | (refine Both.mk ?_ ?_ <;> conv => whnf) | fail)
        refine (pstood_fn hn hnm (by omega) hP).mono fun r w ⟨hr, hP⟩ => ?_
        subst hr
        conv => whnf
        repeat (first | (refine RunH ?_; intro w hL hB; try clear w) | (refine Both.mk ?_ ?_ <;> conv => whnf) | fail)
        exact ⟨j + 1, ⟨rfl, rfl, vint (by push_cast; rfl), trivial⟩, ⟨by omega, by omega, S', by omega, hP⟩, (by first | omega | (dsimp only; omega))⟩
      · repeat (first | (refine RunH ?_; intro w hL hB; try clear w) | (refine Both.mk ?_ ?_ <;> conv => whnf) | fail)
        intro o2 ho2
        conv => whnf
        repeat (first | (refine RunH ?_; intro w hL hB; try clear w) | (refine Both.mk ?_ ?_ <;> conv => whnf) | fail)
        refine Ld.rowF ttOk vtpC_len 0 (hrow hL) tl3 rfl hget rfl (by omega) ?_
        conv => whnf
        by_cases h3 : 3 ≤ s.kind
        · repeat (first | (refine RunH ?_; intro w hL hB; try clear w) | (refine Both.mk ?_ ?_ <;> conv => whnf) | fail)
          intro o3 ho3
          conv => whnf
          repeat (first | (refine RunH ?_; intro w hL hB; try clear w) | (refine Both.mk ?_ ?_ <;> conv => whnf) | fail)
          refine Ld.rowF ttOk vtpC_len 0 (hrow hL) tl3 rfl hget rfl (by omega) ?_
          conv => whnf
          repeat (first | (refine RunH ?_; intro w hL hB; try clear w) | (refine Both.mk ?_ ?_ <;> conv => whnf) | fail)
          refine (pstood_fn hn hnm (by omega) hP).mono fun r w ⟨hr, hP⟩ => ?_
          subst hr
          conv => whnf
          repeat (first | (refine RunH ?_; intro w hL hB; try clear w) | (refine Both.mk ?_ ?_ <;> conv => whnf) | fail)
          exact ⟨j + 1, ⟨rfl, rfl, vint (by push_cast; rfl), trivial⟩, ⟨by omega, by omega, S', by omega, hP⟩, (by first | omega | (dsimp only; omega))⟩
        · repeat (first | (refine RunH ?_; intro w hL hB; try clear w) | (refine Both.mk ?_ ?_ <;> conv => whnf) | fail)
          exact ⟨j + 1, ⟨rfl, rfl, vint (by push_cast; rfl), trivial⟩, ⟨by omega, by omega, S', by omega, hP⟩, (by first | omega | (dsimp only; omega))⟩
  · subst hr
    have hL := (Sep.start Tryz.prog w0).call (Nat.le_refl _) (Turns.of_below hbel)
    have hB := hbel.size
    conv => whnf
    repeat (first | (refine RunH ?_; intro w hL hB; try clear w) | (refine Both.mk ?_ ?_ <;> conv => whnf) | (refine (knownV_fn _).mono fun r w hr => ?_; obtain ⟨hr, hw⟩ := hr; subst hr; replace hL := hL.call hB (Turns.of_below hw); replace hB := Nat.le_trans hB hw.size; conv => whnf) | fail)
    exact ⟨rfl, hL.below⟩
end Go.Proofs.YtpkealgeigpjpaaGreatDoor
