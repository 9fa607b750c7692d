/- StripIndexes. Nothing is claimed here. -/
import Derived.Test.YtlldgodjfpgbcaaEj
import Derived.Test.YtlldgodjfpgbcaaEf
import Derived.Test.YtlldgodjfpgbcaaOd
namespace Go.Proofs.Ytlldgodjfpgbcaa
open Go.RowKit
set_option linter.unusedVariables false
set_option linter.unusedSimpArgs false
set_option maxRecDepth 100000

theorem wf_n64 {n : Int} (h : (Lit.int .u64 n).wf = true) : ∃ m : Nat, n = m ∧ m < 18446744073709551616 := ⟨n.toNat, by
  simp only [Lit.wf, IntKind.min, IntKind.max, IntKind.bits, IntKind.signed, Bool.and_eq_true, decide_eq_true_eq] at h
  simp at h; omega⟩
theorem wf_n32 {n : Int} (h : (Lit.int .u32 n).wf = true) : ∃ m : Nat, n = m ∧ m < 4294967296 := ⟨n.toNat, by
  simp only [Lit.wf, IntKind.min, IntKind.max, IntKind.bits, IntKind.signed, Bool.and_eq_true, decide_eq_true_eq] at h
  simp at h; omega⟩
theorem five {l : List Value} (h : l.length = 5) : ∃ a b c d e, l = [a, b, c, d, e] := by
  match l, h with
  | [a, b, c, d, e], _ => exact ⟨a, b, c, d, e, rfl⟩
theorem place_open {w : World} {l : List Value} {d : Nat} (h : opn TT w (d + 2) 56 l) : ∃ p : Plc, l = plC p ∧ okP p := by
  obtain ⟨hlen, h1, h2, h3, h4, h5, _⟩ := h
  obtain ⟨a, b, c, d, e, rfl⟩ := five hlen
  obtain ⟨n1, e1, w1⟩ := h1
  obtain ⟨n2, e2, w2⟩ := h2
  obtain ⟨n3, e3, w3⟩ := h3
  obtain ⟨n4, e4, w4⟩ := h4
  obtain ⟨b5, e5⟩ := h5
  obtain rfl : a = .int .u64 n1 := (List.cons.inj (show [a] = [.int .u64 n1] from e1)).1
  obtain rfl : b = .int .i64 n2 := (List.cons.inj (show [b] = [.int .i64 n2] from e2)).1
  obtain rfl : c = .int .i64 n3 := (List.cons.inj (show [c] = [.int .i64 n3] from e3)).1
  obtain rfl : d = .int .u32 n4 := (List.cons.inj (show [d] = [.int .u32 n4] from e4)).1
  obtain rfl : e = .bool b5 := (List.cons.inj (show [e] = [.bool b5] from e5)).1
  obtain ⟨k, rfl, hk⟩ := wf_n64 w1
  obtain ⟨m, rfl, hm⟩ := wf_n32 w4
  exact ⟨⟨k, n2, n3, m, b5⟩, rfl, ⟨hk, w2, w3, hm⟩⟩
theorem places_arg {w : World} {base : Nat} {H : Type} {enc : TypeId × Value → H} {v : Value} {d : DataW H} {ps : List MemPlace} (hok : Value.okWide Try.prog w .any base 45 v) (h : DataW.Trod enc Try.prog w 0 (fun _ => true) true 45 v d ps) :
    ∃ l : List Plc, SlN w 5 v l.length (l.flatMap plC) ∧ ∀ p ∈ l, okP p := by
  obtain ⟨fuel, hf⟩ := h
  have ho := trod_opn ttOk 4 fuel _ _ _ hf
  obtain ⟨a, n, c, rfl⟩ := WideShapes.okWide_slice Try.underlying45 hok
  refine structs_open (d := 3) tl45 tl56 (by decide) ⟨0, 0, 0, 0, false⟩ plC_len (fun es he => place_open (d := 1) he) (fun x hx => ?_) ho
  subst hx
  simp only [Value.okWide, Try.underlying45, Cell.okWide, Cell.ok, World.has] at hok
  exact hok.2.2.2.1
theorem findS_ok {l : List Plc} {key : Nat} {p : Plc} (h : findS l key = some p) (hok : ∀ p ∈ l, okP p) : okP p := hok p (List.mem_of_find?_eq_some h)
theorem ok0 : okP ⟨0, 0, 0, 0, false⟩ := ⟨by decide, by decide, by decide, by decide⟩

set_option maxHeartbeats 4000000 in
theorem stripIndexes_fn (v : Value) (l : List Plc) (key : Nat) (w0 : World) (hs : SlN w0 5 v l.length (l.flatMap plC)) (hok : ∀ p ∈ l, okP p) (hkey : key < 18446744073709551616) :
    Fn Try.prog 8 #[v, .int .u64 (key : Int)] w0 fun r w' => r = .bool true ∧ Below w0.heap.size w0 w' := by
  have hle := hs.le
  obtain ⟨a, c, rfl⟩ := hs.shape
  have hL := Sep.start Try.prog w0
  have hB := Nat.le_refl w0.heap.size
  have hok' : ∀ p ∈ l, p.key < 18446744073709551616 ∧ p.cook < 4294967296 := fun p hp => ⟨(hok p hp).key, (hok p hp).cook⟩
  refine Fn.mk Try.func8 rfl (by kernel_rfl) Try.ntmps8 rfl (by rw [Try.results8]) ?_
  by_cases h0 : 400 < l.length
  · repeat (first | (refine RunH ?_; intro w hL hB; try clear w) | (refine Both.mk ?_ ?_ <;> conv => whnf) | fail)
    exact ⟨rfl, hL.below⟩
  repeat (first | (refine RunH ?_; intro w hL hB; try clear w) | (refine Both.mk ?_ ?_ <;> conv => whnf) | fail)
  by_cases hI : OkI l
  case neg =>
    refine (index_fn _ l (by omega) hok' _ hs).mono fun r w ⟨hr, hw⟩ => ?_
    obtain rfl := hr.2 hI
    replace hL := hL.call hB (Turns.of_below hw)
    replace hB := Nat.le_trans hB hw.size
    clear hr hw
    conv => whnf
    repeat (first | (refine RunH ?_; intro w hL hB; try clear w) | (refine Both.mk ?_ ?_ <;> conv => whnf) | fail)
    refine (indexR_fn _ l (by omega) hok' _ (hs.below hL.below)).mono fun r w ⟨hr, hw⟩ => ?_
    obtain rfl := hr.2 hI
    replace hL := hL.call hB (Turns.of_below hw)
    replace hB := Nat.le_trans hB hw.size
    clear hr hw
    conv => whnf
    repeat (first | (refine RunH ?_; intro w hL hB; try clear w) | (refine Both.mk ?_ ?_ <;> conv => whnf) | fail)
    refine (same_fn _ _ [] [] _ (Sl.nil _) (Sl.nil _)).mono fun r w ⟨hr, hw⟩ => ?_
    subst hr
    replace hL := hL.call hB (Turns.of_below hw)
    replace hB := Nat.le_trans hB hw.size
    conv => whnf
    repeat (first | (refine RunH ?_; intro w hL hB; try clear w) | (refine Both.mk ?_ ?_ <;> conv => whnf) | fail)
    refine (known_fn _).mono fun r w ⟨hr, hw⟩ => ?_
    subst hr
    replace hL := hL.call hB (Turns.of_below hw)
    replace hB := Nat.le_trans hB hw.size
    conv => whnf
    repeat (first | (refine RunH ?_; intro w hL hB; try clear w) | (refine Both.mk ?_ ?_ <;> conv => whnf) | fail)
    exact ⟨rfl, hL.below⟩
  refine (index_fn _ l (by omega) hok' _ hs).mono fun r w ⟨hr, hw⟩ => ?_
  obtain ⟨u1, rfl, ho⟩ := hr.1 hI
  replace hL := hL.addRow hB hw ho
  replace hB := Nat.le_trans hB hw.size
  clear hr hw ho
  conv => whnf
  repeat (first | (refine RunH ?_; intro w hL hB; try clear w) | (refine Both.mk ?_ ?_ <;> conv => whnf) | fail)
  refine (indexR_fn _ l (by omega) hok' _ (hs.below hL.below)).mono fun r w ⟨hr, hw⟩ => ?_
  obtain ⟨u2, rfl, ho⟩ := hr.1 hI
  replace hL := hL.addRow hB hw ho
  replace hB := Nat.le_trans hB hw.size
  clear hr hw ho
  conv => whnf
  repeat (first | (refine RunH ?_; intro w hL hB; try clear w) | (refine Both.mk ?_ ?_ <;> conv => whnf) | fail)
  refine (same_fn _ _ _ _ _ (hL.row (i := 1) rfl) (hL.row (i := 0) rfl)).mono fun r w ⟨hr, hw⟩ => ?_
  subst hr
  rw [decide_eq_true rfl]
  replace hL := hL.call hB (Turns.of_below hw)
  replace hB := Nat.le_trans hB hw.size
  conv => whnf
  repeat (first | (refine RunH ?_; intro w hL hB; try clear w) | (refine Both.mk ?_ ?_ <;> conv => whnf) | fail)
  have hbl : (encF (idxB l)).length ≤ 1000000 := by have := idxB0_len l l.length; rw [encF_len]; unfold idxB; omega
  refine (readIndex_fn _ _ _ (hL.row (i := 1) rfl) (Nat.le_trans hbl (by decide))).mono fun r w1 ⟨⟨rv, hr, hrv⟩, hw⟩ => ?_
  subst hr
  have b1 := (hL.call hB (Turns.of_below hw)).below
  rw [idxS_enc (by omega) hok' hI] at hrv ⊢
  dsimp only at hrv ⊢
  clear hL hB hw
  have hs1 := hs.below b1
  have hL := Sep.start Try.prog w1
  have hB := Nat.le_refl w1.heap.size
  conv => whnf
  repeat (first | (refine RunH ?_; intro w hL hB; try clear w) | (refine Both.mk ?_ ?_ <;> conv => whnf) | fail)
  refine (find_fn _ l key (by omega) hkey (ok_rising hI) _ hs1).mono fun r w ⟨hr, hw⟩ => ?_
  subst hr
  replace hL := hL.call hB (Turns.of_below hw)
  replace hB := Nat.le_trans hB hw.size
  obtain ⟨p, hp, f, hf⟩ : ∃ p, okP p ∧ ∃ f, findV (findS l key) = .tuple #[.agg (plC p).toArray, .bool f] := by
    cases hfs : findS l key with
    | none => exact ⟨_, ok0, false, rfl⟩
    | some p => exact ⟨p, findS_ok hfs hok, true, rfl⟩
  rw [hf]
  conv => whnf
  unfold plC
  repeat (first | (refine RunH ?_; intro w hL hB; try clear w) | (refine Both.mk ?_ ?_ <;> conv => whnf) | (refine Nw.sep hL hB (fun b11 w hL hB hb11 => ?_); conv => whnf) | fail)
  refine (findR_fn _ l key (by omega) _ (hs1.below hL.below)).mono fun r w ⟨hr, hw⟩ => ?_
  subst hr
  replace hL := hL.call hB (Turns.of_below hw)
  replace hB := Nat.le_trans hB hw.size
  rw [hf]
  conv => whnf
  unfold plC
  repeat (first | (refine RunH ?_; intro w hL hB; try clear w) | (refine Both.mk ?_ ?_ <;> conv => whnf) | (refine Nw.sep hL hB (fun b13 w hL hB hb13 => ?_); conv => whnf) | fail)
  refine (places_fn _ _ _ _ _ (hrv.below hL.below) (hs1.below hL.below) hok hok).mono fun r w ⟨hr, hw⟩ => ?_
  subst hr
  rw [decide_eq_true rfl]
  replace hL := hL.call hB (Turns.of_below hw)
  replace hB := Nat.le_trans hB hw.size
  conv => whnf
  repeat (first | (refine RunH ?_; intro w hL hB; try clear w) | (refine Both.mk ?_ ?_ <;> conv => whnf) | fail)
  refine Eg.pl hp hp ?_
  refine Br.yes (decide_eq_true rfl) ?_
  conv => whnf
  repeat (first | (refine RunH ?_; intro w hL hB; try clear w) | (refine Both.mk ?_ ?_ <;> conv => whnf) | fail)
  refine Br.yes (by simp) ?_
  conv => whnf
  repeat (first | (refine RunH ?_; intro w hL hB; try clear w) | (refine Both.mk ?_ ?_ <;> conv => whnf) | fail)
  refine (known_fn _).mono fun r w ⟨hr, hw⟩ => ?_
  subst hr
  replace hL := hL.call hB (Turns.of_below hw)
  replace hB := Nat.le_trans hB hw.size
  conv => whnf
  repeat (first | (refine RunH ?_; intro w hL hB; try clear w) | (refine Both.mk ?_ ?_ <;> conv => whnf) | fail)
  exact ⟨rfl, b1.trans (hL.below.mono b1.size)⟩
end Go.Proofs.Ytlldgodjfpgbcaa
