/- DiskPlays. Nothing is claimed here. -/
import Derived.Test.YtpfmnpkjhnbkhaaTm
import Derived.Test.YtpfmnpkjhnbkhaaDp
import Derived.Test.YtpfmnpkjhnbkhaaDk
import Derived.Test.YtpfmnpkjhnbkhaaOg
namespace Go.Proofs.Ytpfmnpkjhnbkhaa
open Go.RowKit
set_option linter.unusedVariables false
set_option linter.unusedSimpArgs false
set_option maxRecDepth 100000

/-- a step that came in: its sizes are those of the machine -/
structure InStp (w0 : World) (s : Stp) : Prop where
  n : -9223372036854775808 ≤ s.n ∧ s.n ≤ 9223372036854775807
  a : s.a.size ≤ 140737488355328
  z : s.z.size ≤ 140737488355328
  b : s.b.length ≤ 140737488355328
  sl : Sl w0 s.bV (bv s.b)
theorem bV_shape {w0 : World} {s : Stp} (h : InStp w0 s) : ∃ a c, s.bV = .slice a s.b.length c := by
  obtain ⟨a, c, he⟩ := h.sl.shape
  rw [bv_length] at he
  exact ⟨a, c, he⟩
set_option maxHeartbeats 4000000 in
theorem heavy_fn (v : Value) (ss : List Stp) (w0 : World) (hs : SlN w0 6 v ss.length (ss.flatMap stpC)) (hin : ∀ s ∈ ss, InStp w0 s) :
    Fn Try.prog 24 #[v] w0 fun r w' => (∃ h, r = .bool h ∧ (h = false → ∀ (i : Nat) (s : Stp), ss[i]? = some s → i < 120 → s.a.size ≤ 8000 ∧ s.z.size ≤ 8000 ∧ s.b.length ≤ 8000)) ∧ Below w0.heap.size w0 w' := by
  have hL := Sep.start Try.prog w0
  have hB := Nat.le_refl w0.heap.size
  have hle := hs.le
  obtain ⟨a1, c1, rfl⟩ := hs.shape
  refine Fn.mk Try.func24 rfl (by kernel_rfl) Try.ntmps24 rfl (by rw [Try.results24]) ?_
  repeat (first | (refine RunH ?_; intro w hL hB; try clear w) | (refine Both.mk ?_ ?_ <;> conv => whnf) | fail)
  refine V.loop (α := Nat × Nat) (fun z => [(0, .slice a1 ss.length c1), (3, .int .i64 (z.2 : Int)), (4, .int .i64 (z.1 : Int))])
    (fun z w' => z.1 ≤ ss.length ∧ z.2 ≤ 8000 ∧ (∀ (i : Nat) (s : Stp), ss[i]? = some s → i < z.1 → s.a.size ≤ 8000 ∧ s.z.size ≤ 8000 ∧ s.b.length ≤ 8000) ∧ Sep Try.prog w0.heap.size w0 w' []) (fun z => ss.length - z.1) (0, 0) ⟨rfl, rfl, rfl, trivial⟩ ⟨by simp, by simp, by intro i s _ h; simp at h, hL⟩ ?_
  clear hL hB
  rintro ⟨k, n⟩ w ⟨hk, hn, hall, hL⟩
  have hB := hL.below.size
  dsimp only at *
  by_cases hkl : k < ss.length
  case neg =>
    repeat (first | (refine RunH ?_; intro w hL hB; try clear w) | (refine Both.mk ?_ ?_ <;> conv => whnf) | fail)
    exact ⟨⟨false, rfl, fun _ i s hs hi => hall i s hs (by have := (List.getElem?_eq_some_iff.1 hs).1; omega)⟩, hL.below⟩
  by_cases hk2 : k < 120
  case neg =>
    repeat (first | (refine RunH ?_; intro w hL hB; try clear w) | (refine Both.mk ?_ ?_ <;> conv => whnf) | fail)
    exact ⟨⟨false, rfl, fun _ i s hs hi => hall i s hs (by omega)⟩, hL.below⟩
  have hget := List.getElem?_eq_getElem hkl
  have hi := hin _ (List.getElem_mem hkl)
  generalize hsk : ss[k] = s at *
  obtain ⟨pa, pc, hpv⟩ := bV_shape hi
  have h1 := hi.a
  have h2 := hi.z
  have h3 := hi.b
  obtain ⟨bb, o, rfl, _⟩ := hs.addr (by omega)
  have hrow : ∀ {w : World}, Sep Try.prog w0.heap.size w0 w [] → Row w bb o (ss.flatMap stpC) := fun h => (hs.below h.below).rowOf
  repeat (first | (refine RunH ?_; intro w hL hB; try clear w) | (refine Both.mk ?_ ?_ <;> conv => whnf) | fail)
  refine V.quiet ttOk (fun x => x = World.drew _) mixed (by kernel_rfl) rfl ?_
  replace hL := hL.drew
  conv => whnf
  repeat (first | (refine RunH ?_; intro w hL hB; try clear w) | (refine Both.mk ?_ ?_ <;> conv => whnf) | fail)
  intro o1 ho1
  conv => whnf
  repeat (first | (refine RunH ?_; intro w hL hB; try clear w) | (refine Both.mk ?_ ?_ <;> conv => whnf) | fail)
  refine Lq.of_row (Ld.rowF ttOk stpC_len 2 (hrow hL) tl9 rfl hget rfl (by omega) rfl) ?_
  conv => whnf
  repeat (first | (refine RunH ?_; intro w hL hB; try clear w) | (refine Both.mk ?_ ?_ <;> conv => whnf) | fail)
  intro o2 ho2
  conv => whnf
  repeat (first | (refine RunH ?_; intro w hL hB; try clear w) | (refine Both.mk ?_ ?_ <;> conv => whnf) | fail)
  refine Lq.of_row (Ld.rowF ttOk stpC_len 3 (hrow hL) tl9 rfl hget rfl (by omega) rfl) ?_
  conv => whnf
  repeat (first | (refine RunH ?_; intro w hL hB; try clear w) | (refine Both.mk ?_ ?_ <;> conv => whnf) | fail)
  intro o3 ho3
  conv => whnf
  repeat (first | (refine RunH ?_; intro w hL hB; try clear w) | (refine Both.mk ?_ ?_ <;> conv => whnf) | fail)
  refine Lq.of_row (v := .slice pa s.b.length pc) (Ld.rowF ttOk stpC_len 4 (hrow hL) tl22 rfl hget (by rw [stpC, hpv]; rfl) (by omega) rfl) ?_
  conv => whnf
  repeat (first | (refine RunH ?_; intro w hL hB; try clear w) | (refine Both.mk ?_ ?_ <;> conv => whnf) | fail)
  rintro w rfl
  by_cases hbig : 8000 < n + s.a.size + s.z.size + s.b.length
  · conv => whnf
    repeat (first | (refine RunH ?_; intro w hL hB; try clear w) | (refine Both.mk ?_ ?_ <;> conv => whnf) | fail)
    exact ⟨⟨true, rfl, fun h => by cases h⟩, hL.below⟩
  · conv => whnf
    repeat (first | (refine RunH ?_; intro w hL hB; try clear w) | (refine Both.mk ?_ ?_ <;> conv => whnf) | fail)
    refine ⟨(k + 1, n + s.a.size + s.z.size + s.b.length), ⟨rfl, vint (by push_cast; omega), vint (by push_cast; omega), trivial⟩, ⟨by omega, by omega, fun i x hx hi' => ?_, hL⟩, (by first | omega | (dsimp only; omega))⟩
    dsimp only at hi'
    by_cases he : i = k
    · subst he
      rw [hget] at hx
      injection hx with hx
      subst hx
      omega
    · exact hall i x hx (by omega)
def nmS : ByteArray := ⟨#[115, 112, 111, 105, 108, 116]⟩
set_option maxHeartbeats 8000000 in
theorem plays_fn (room : Int) (v : Value) (ss : List Stp) (w0 : World) (hrw : (Lit.int .i64 room).wf = true) (hs : SlN w0 6 v ss.length (ss.flatMap stpC)) (hin : ∀ s ∈ ss, InStp w0 s) :
    Fn Try.prog 8 #[.int .i64 room, v] w0 fun r w' => r = .bool true ∧ Below w0.heap.size w0 w' := by
  have hrr := i64_wf hrw
  have hL := Sep.start Try.prog w0
  have hB := Nat.le_refl w0.heap.size
  have hle := hs.le
  obtain ⟨a1, c1, rfl⟩ := hs.shape
  refine Fn.mk Try.func8 rfl (by kernel_rfl) Try.ntmps8 rfl (by rw [Try.results8]) ?_
  repeat (first | (refine RunH ?_; intro w hL hB; try clear w) | (refine Both.mk ?_ ?_ <;> conv => whnf) | fail)
  refine (heavy_fn _ ss _ hs hin).mono fun r w ⟨⟨h, hr, hh⟩, hw⟩ => ?_
  subst hr
  replace hL := hL.call hB (Turns.of_below hw)
  replace hB := Nat.le_trans hB hw.size
  cases h with
  | true =>
    conv => whnf
    repeat (first | (refine RunH ?_; intro w hL hB; try clear w) | (refine Both.mk ?_ ?_ <;> conv => whnf) | (refine (known_fn _).mono fun r w hr => ?_; obtain ⟨hr, hw⟩ := hr; subst hr; replace hL := hL.call hB (Turns.of_below hw); replace hB := Nat.le_trans hB hw.size; conv => whnf) | fail)
    exact ⟨rfl, hL.below⟩
  | false =>
  have hh' := hh rfl
  conv => whnf
  repeat (first | (refine RunH ?_; intro w hL hB; try clear w) | (refine Both.mk ?_ ?_ <;> conv => whnf) | fail)
  refine (new_fn room hL hB).mono fun r w hr => ?_
  by_cases hroom : 0 ≤ room ∧ room ≤ 1073741824
  case neg =>
    obtain ⟨hr, hw⟩ := hr.2 hroom
    subst hr; subst hw
    conv => whnf
    repeat (first | (refine RunH ?_; intro w hL hB; try clear w) | (refine Both.mk ?_ ?_ <;> conv => whnf) | fail)
    refine (newR_fn room hL hB).mono fun r w hr => ?_
    obtain ⟨hr, hL, hB⟩ := hr.2 hroom
    subst hr
    conv => whnf
    repeat (first | (refine RunH ?_; intro w hL hB; try clear w) | (refine Both.mk ?_ ?_ <;> conv => whnf) | (refine (known_fn _).mono fun r w hr => ?_; obtain ⟨hr, hw⟩ := hr; subst hr; replace hL := hL.call hB (Turns.of_below hw); replace hB := Nat.le_trans hB hw.size; conv => whnf) | fail)
    exact ⟨rfl, hL.below⟩
  obtain ⟨d, hr, hD⟩ := hr.1 hroom
  subst hr
  obtain ⟨dD, hL, hB, clD⟩ := hD.open
  clear hD
  conv => whnf
  repeat (first | (refine RunH ?_; intro w hL hB; try clear w) | (refine Both.mk ?_ ?_ <;> conv => whnf) | fail)
  refine (newR_fn room hL hB).mono fun r w hr => ?_
  obtain ⟨k, hr, hD⟩ := hr.1 hroom
  subst hr
  have h2 : Two w0.heap.size w0 w d k room.toNat [] [] := Two.mk' (F := []) (.refl _) hD clD
  obtain ⟨dR, hL, hB, clR⟩ := hD.open
  clear hD
  conv => whnf
  repeat (first | (refine RunH ?_; intro w hL hB; try clear w) | (refine Both.mk ?_ ?_ <;> conv => whnf) | fail)
  clear hL hB clR clD
  refine V.loop (α := Nat × Nat × Nat) (fun z => [(1, .slice a1 ss.length c1), (5, ptr z.2.1), (7, ptr z.2.2), (9, .int .i64 (z.1 : Int))])
    (fun z w' => z.1 ≤ ss.length ∧ z.1 ≤ 120 ∧ ∃ S, Two w0.heap.size w0 w' z.2.1 z.2.2 room.toNat S []) (fun z => ss.length - z.1) (0, d, k) ⟨rfl, rfl, rfl, rfl, trivial⟩ ⟨by simp, by simp, [], h2⟩ ?_
  clear h2
  rintro ⟨i, d, k⟩ w ⟨hi, hi2, S, h2⟩
  dsimp only at *
  have hend : ∀ {w : World} {S : List Fl}, Two w0.heap.size w0 w d k room.toNat S [] → ∃ dD dR R, R.Perm S ∧ Sep Try.prog w0.heap.size w0 w (([] ++ dR) ++ dD) ∧ w0.heap.size ≤ w.heap.size ∧
      (∀ {w' : World} {F' : List Res}, Sep Try.prog w0.heap.size w0 w' (F' ++ dD) → w0.heap.size ≤ w'.heap.size → DkS w0.heap.size w0 w' d room.toNat S F') ∧
      (∀ {w' : World} {F' : List Res}, Sep Try.prog w0.heap.size w0 w' (F' ++ dR) → w0.heap.size ≤ w'.heap.size → RkS w0.heap.size w0 w' k room.toNat R F') := fun h => by
    obtain ⟨⟨R, dR, hp, hD, clR⟩⟩ := h
    obtain ⟨dD, hL, hB, clD⟩ := hD.open
    exact ⟨dD, dR, R, hp, hL, hB, clD, clR⟩
  by_cases hgo : i < ss.length ∧ i < 120
  case neg =>
    obtain ⟨dD, dR, R, hp, hL, hB, clD, clR⟩ := hend h2
    have hstop : ¬ i < ss.length ∨ (i < ss.length ∧ ¬ i < 120) := by omega
    have fin : ∀ {w : World}, w0.heap.size ≤ w.heap.size → Sep Try.prog w0.heap.size w0 w (([] ++ dR) ++ dD) → True := fun _ _ => trivial
    rcases hstop with hst | ⟨hst1, hst2⟩ <;> (
      repeat (first | (refine RunH ?_; intro w hL hB; try clear w) | (refine Both.mk ?_ ?_ <;> conv => whnf) | fail)
      refine (crash_fn 3 (by decide) (clD (F' := [] ++ dR) hL hB)).mono fun r w hD => ?_
      clear clD hL hB
      obtain ⟨dD, hL, hB, clD⟩ := hD.open
      clear hD
      replace hL := Sep.swl (F := []) hL
      conv => whnf
      repeat (first | (refine RunH ?_; intro w hL hB; try clear w) | (refine Both.mk ?_ ?_ <;> conv => whnf) | fail)
      refine (crashR_fn 3 (by decide) (clR (F' := [] ++ dD) hL hB)).mono fun r w hD => ?_
      have h3 : Two w0.heap.size w0 w d k room.toNat _ [] := Two.mk' (F := []) (crashS_perm hp 3) hD clD
      obtain ⟨dR, hL, hB, clR⟩ := hD.open
      clear hD
      conv => whnf
      repeat (first | (refine RunH ?_; intro w hL hB; try clear w) | (refine Both.mk ?_ ?_ <;> conv => whnf) | fail)
      refine (stood_fn h3).mono fun r w ⟨hr, h3⟩ => ?_
      subst hr
      obtain ⟨⟨R, dR, hp, hD, clR⟩⟩ := h3
      obtain ⟨dD, hL, hB, clD⟩ := hD.open
      conv => whnf
      repeat (first | (refine RunH ?_; intro w hL hB; try clear w) | (refine Both.mk ?_ ?_ <;> conv => whnf) | (refine (known_fn _).mono fun r w hr => ?_; obtain ⟨hr, hw⟩ := hr; subst hr; replace hL := hL.call hB (Turns.of_below hw); replace hB := Nat.le_trans hB hw.size; conv => whnf) | fail)
      exact ⟨rfl, hL.below⟩)
  have hget := List.getElem?_eq_getElem hgo.1
  have hsz := hh' i _ hget hgo.2
  have hst := hin _ (List.getElem_mem hgo.1)
  generalize hsk : ss[i] = s at *
  obtain ⟨bb, o, rfl, _⟩ := hs.addr (by omega)
  have hrow : ∀ {w : World} {L : List Res}, Sep Try.prog w0.heap.size w0 w L → Row w bb o (ss.flatMap stpC) := fun h => (hs.below h.below).rowOf
  obtain ⟨dD, dR, R, hp, hL, hB, clD, clR⟩ := hend h2
  by_cases h9 : s.kind = 9
  · repeat (first | (refine RunH ?_; intro w hL hB; try clear w) | (refine Both.mk ?_ ?_ <;> conv => whnf) | fail)
    intro o1 ho1
    conv => whnf
    refine Ld.rowF ttOk stpC_len 0 (hrow hL) tl3 rfl hget (by rw [stpC, h9]; rfl) (by omega) ?_
    conv => whnf
    repeat (first | (refine RunH ?_; intro w hL hB; try clear w) | (refine Both.mk ?_ ?_ <;> conv => whnf) | fail)
    refine (copy_fn (clD (F' := [] ++ dR) hL hB)).mono fun r w ⟨d2, S2, dO, hr, hp2, hD, clO⟩ => ?_
    subst hr
    clear clD hL hB h2
    obtain ⟨dC, hL, hB, clC⟩ := hD.open
    clear hD
    conv => whnf
    repeat (first | (refine RunH ?_; intro w hL hB; try clear w) | (refine Both.mk ?_ ?_ <;> conv => whnf) | fail)
    refine (copyR_fn (clR (F' := dO ++ dC) (hL.perm (by classical exact List.perm_iff_count.2 fun a => by simp only [List.count_append, List.count_cons, List.count_nil]; omega)) hB)).mono fun r w ⟨k2, dK, hr, hR, _⟩ => ?_
    subst hr
    clear clR hL hB
    obtain ⟨dQ, hL, hB, clQ⟩ := hR.open
    clear hR
    conv => whnf
    repeat (first | (refine RunH ?_; intro w hL hB; try clear w) | (refine Both.mk ?_ ?_ <;> conv => whnf) | fail)
    refine Rv.lit (hL.perm (by classical exact List.perm_iff_count.2 fun a => by simp only [List.count_append, List.count_cons, List.count_nil]; omega) : Sep Try.prog w0.heap.size w0 w (dO ++ (dC ++ (dK ++ dQ)))) [120] rfl (by decide) hB fun b2 w hL hB => ?_
    conv => whnf
    repeat (first | (refine RunH ?_; intro w hL hB; try clear w) | (refine Both.mk ?_ ?_ <;> conv => whnf) | fail)
    refine Rv.sameS ttOk hL 0 tl22 tl5 rfl hB fun w hL hB => ?_
    conv => whnf
    repeat (first | (refine RunH ?_; intro w hL hB; try clear w) | (refine Both.mk ?_ ?_ <;> conv => whnf) | fail)
    refine (append_fn nmS (by decide) _ [120] (fun w' h => h.roSl (i := 0) rfl) (clO (F' := _ :: (dC ++ (dK ++ dQ))) (hL.perm (.cons _ List.perm_append_comm)) hB)).mono fun r w ⟨hr, hD⟩ => ?_
    subst hr
    clear clO hL hB
    obtain ⟨dO, hL, hB, clO⟩ := hD.open
    clear hD
    conv => whnf
    repeat (first | (refine RunH ?_; intro w hL hB; try clear w) | (refine Both.mk ?_ ?_ <;> conv => whnf) | fail)
    refine (crash_fn 0 (by decide) (clO (F' := _ :: (dC ++ (dK ++ dQ))) hL hB)).mono fun r w hD => ?_
    have hB := hD.hB
    have hL := hD.rest
    clear hD clO
    have h3 : Two w0.heap.size w0 w d2 k2 room.toNat S2 [] := ⟨⟨R, dQ, hp.trans hp2.symm, clC (F' := [] ++ dQ) ((hL.sub (L' := dC ++ dQ) (.cons _ ((List.Sublist.refl _).append (List.sublist_append_right _ _)))).perm (by classical exact List.perm_iff_count.2 fun a => by simp only [List.count_append, List.count_cons, List.count_nil]; omega)) hB, clQ⟩⟩
    conv => whnf
    refine RunR ?_
    exact ⟨(i + 1, d2, k2), ⟨rfl, rfl, rfl, vint (by push_cast; omega), trivial⟩, ⟨by omega, by omega, S2, h3⟩, (by first | omega | (dsimp only; omega))⟩
  · repeat (first | (refine RunH ?_; intro w hL hB; try clear w) | (refine Both.mk ?_ ?_ <;> conv => whnf) | fail)
    intro o1 ho1
    conv => whnf
    refine Ld.rowF ttOk stpC_len 0 (hrow hL) tl3 rfl hget rfl (by omega) ?_
    conv => whnf
    repeat (first | (refine RunH ?_; intro w hL hB; try clear w) | (refine Both.mk ?_ ?_ <;> conv => whnf) | fail)
    intro o2 ho2
    conv => whnf
    refine Ld.rowN ttOk stpC_len (hrow hL) tl54 rfl rfl hget (by omega) ?_
    conv => whnf
    repeat (first | (refine RunH ?_; intro w hL hB; try clear w) | (refine Both.mk ?_ ?_ <;> conv => whnf) | fail)
    clear clD clR hL hB
    refine (does_fn s ⟨hst.n, hsz.1, hsz.2.1, hsz.2.2, hst.sl⟩ h2).mono fun r w ⟨hr, S3, h2⟩ => ?_
    subst hr
    obtain ⟨dD, dR, R, hp, hL, hB, clD, clR⟩ := hend h2
    conv => whnf
    repeat (first | (refine RunH ?_; intro w hL hB; try clear w) | (refine Both.mk ?_ ?_ <;> conv => whnf) | fail)
    clear clD clR hL hB
    refine (stood_fn h2).mono fun r w ⟨hr, h2⟩ => ?_
    subst hr
    conv => whnf
    refine RunR ?_
    exact ⟨(i + 1, d, k), ⟨rfl, rfl, rfl, vint (by push_cast; omega), trivial⟩, ⟨by omega, by omega, S3, h2⟩, (by first | omega | (dsimp only; omega))⟩
end Go.Proofs.Ytpfmnpkjhnbkhaa
