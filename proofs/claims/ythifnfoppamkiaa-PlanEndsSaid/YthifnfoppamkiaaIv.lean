/- Plan: the code's rule 'uneven'. Nothing is claimed here. -/
import Derived.Test.YthifnfoppamkiaaIu
namespace Go.Proofs.Ythifnfoppamkiaa
open Go.RowKit
set_option linter.unusedVariables false
set_option linter.unusedSimpArgs false
set_option maxRecDepth 100000

set_option maxHeartbeats 16000000 in
theorem uneven_fn (p : PV × Value) (i : Int) (bw : Nat) (vs lv sv : Value) (l : List PV) (c : PC) (live : List Bool) (w0 : World) (hC : Blk w0 bw (wdC vs lv (loadS l) sv c) 55) (hl : SlE w0 lv (boolC live))
    (hn : SlE w0 p.2 (numC p.1.ns)) (ht : p.1.ns.length ≤ 40) (hpl : 0 < p.1.ns.length) (hld : ∀ s, loadS l s ≤ 2400) :
    Fn Try.prog 24 #[.pointer (some ⟨bw, 0, none⟩), .int .i64 i, pvV p] w0 fun r w' => ActS w0 (unevenS l live p.1) r w' := by
  obtain ⟨v, nv⟩ := p
  dsimp only at hn ht hpl
  obtain ⟨na, nc, hnv⟩ := hn.shape
  rw [numC_len] at hnv
  subst hnv
  obtain ⟨bn, on, rfl, _⟩ := hn.sl.toN.addr hpl
  unfold pvV
  dsimp only
  have hL := Sep.start Try.prog w0
  have hB := Nat.le_refl w0.heap.size
  have hf64 := freeS_le l live v.ns
  have hrl : ∀ a, unevenS l live v = a → unevenS l live v = a := fun a e => e
  conv at hrl => enter [a]; lhs; unfold unevenS
  have hfl : ∀ {x f}, freeS l live v.ns = x :: f → liveS live x = true := free_ld
  refine Fn.mk Try.func24 rfl (by kernel_rfl) Try.ntmps24 rfl (by rw [Try.results24]) ?_
  repeat (first | (refine RunH ?_; intro w hL hB; try clear w) | (refine Both.mk ?_ ?_ <;> conv => whnf) | fail)
  (refine Nw.sep hL hB (fun b5 w hL hB hb5 => ?_); conv => whnf)
  repeat (first | (refine RunH ?_; intro w hL hB; try clear w) | (refine Both.mk ?_ ?_ <;> conv => whnf) | fail)
  (refine Nw.sep hL hB (fun b6 w hL hB hb6 => ?_); conv => whnf)
  repeat (first | (refine RunH ?_; intro w hL hB; try clear w) | (refine Both.mk ?_ ?_ <;> conv => whnf) | fail)
  (refine (free_fn bw vs lv sv _ l c live v.ns _ (hL.old rfl hC) (hl.below hL.below) (hn.below hL.below)).mono fun r w hr => ?_; obtain ⟨hown, hbl⟩ := hr; replace hL := hL.addRow hB hbl hown; replace hB := Nat.le_trans hB hbl.size; obtain ⟨fa, fc, rfl⟩ := (hL.rowN (i := 0) rfl).shape; conv => whnf)
  generalize freeS l live v.ns = fr at *
  have hrn : ∀ (a : fr = [] ∨ (v.st ≠ 0 ∧ v.st ≠ 1) ∨ v.fz = true ∨ ¬ wholeS live v), unevenS l live v = none := by
    intro a
    refine hrl none ?_
    split
    · rfl
    · rename_i f t hft
      rw [if_pos]
      rcases a with a | a | a | a
      · cases a
      · exact .inl a
      · exact .inr (.inl a)
      · exact .inr (.inr (.inl a))
  by_cases hs0 : v.st = 0 ∨ v.st = 1
  case neg =>
    rw [hrn (.inr (.inl (by omega)))]
    repeat (first | (refine RunH ?_; intro w hL hB; try clear w) | (refine Both.mk ?_ ?_ <;> conv => whnf) | fail)
    exact ⟨rfl, hL.below⟩
  cases hz : v.fz
  case true =>
    rw [hrn (.inr (.inr (.inl hz)))]
    rcases hs0 with hs0 | hs0
    all_goals
      repeat (first | (refine RunH ?_; intro w hL hB; try clear w) | (refine Both.mk ?_ ?_ <;> conv => whnf) | fail)
      exact ⟨rfl, hL.below⟩
  by_cases hwl : wholeS live v
  case neg =>
    rw [hrn (.inr (.inr (.inr hwl)))]
    rcases hs0 with hs0 | hs0
    all_goals
      repeat (first | (refine RunH ?_; intro w hL hB; try clear w) | (refine Both.mk ?_ ?_ <;> conv => whnf) | (refine (whole_fn (v, .slice (some ⟨bn, on, none⟩) v.ns.length nc) bw vs lv sv (loadS l) c live _ (hL.old rfl hC) (hl.below hL.below) (hn.below hL.below) (by dsimp only; omega)).mono fun r w hr => ?_; obtain ⟨hr, hw⟩ := hr; subst hr; replace hL := hL.call hB (Turns.of_below hw); replace hB := Nat.le_trans hB hw.size; conv => whnf) | (refine Br.dec_f hwl ?_; conv => whnf) | fail)
      exact ⟨rfl, hL.below⟩
  by_cases hf0 : fr.length = 0
  · rw [hrn (.inl (List.length_eq_zero_iff.1 hf0))]
    rcases hs0 with hs0 | hs0
    all_goals
      repeat (first | (refine RunH ?_; intro w hL hB; try clear w) | (refine Both.mk ?_ ?_ <;> conv => whnf) | (refine (whole_fn (v, .slice (some ⟨bn, on, none⟩) v.ns.length nc) bw vs lv sv (loadS l) c live _ (hL.old rfl hC) (hl.below hL.below) (hn.below hL.below) (by dsimp only; omega)).mono fun r w hr => ?_; obtain ⟨hr, hw⟩ := hr; subst hr; replace hL := hL.call hB (Turns.of_below hw); replace hB := Nat.le_trans hB hw.size; conv => whnf) | (refine Br.dec_t hwl ?_; conv => whnf) | fail)
      exact ⟨rfl, hL.below⟩
  · have hall := whole_at hwl
    have hat : ∀ i, i < v.ns.length → ∃ x, v.ns[i]? = some x ∧ v.ns[i]?.getD 0 = x ∧ 0 ≤ x ∧ x < 64 := fun i hi => by
      have h1 := liveS_lt (hall _ (List.getElem_mem hi))
      exact ⟨v.ns[i], List.getElem?_eq_getElem hi, by rw [List.getElem?_eq_getElem hi]; rfl, h1.1, h1.2.1⟩
    obtain ⟨y, f', hfr⟩ : ∃ y f', fr = y :: f' := by
      cases e : fr with
      | nil => exact absurd (by rw [e]; rfl) hf0
      | cons y f' => exact ⟨y, f', rfl⟩
    have hgy : fr[0]? = some y := by rw [hfr]; rfl
    have hyl := liveS_lt (hfl hfr)
    have hgly := wdC_load (vs := vs) (lv := lv) (sv := sv) (ld := loadS l) (c := c) hyl.1 hyl.2.1 rfl
    have hmp := mostS_props (loadS l) v.ns
    have hrl2 : ∀ z, (if (v.st ≠ 0 ∧ v.st ≠ 1) ∨ v.fz = true ∨ ¬ wholeS live v ∨ loadS l (v.ns[mostS (loadS l) v.ns v.ns.length]?.getD 0) < loadS l y + 2 then none else some (⟨5, 0, v.st, v.ns, v.ns.set (mostS (loadS l) v.ns v.ns.length) y⟩ : PA)) = z → unevenS l live v = z := fun z e => hrl z (by rw [hfr]; exact e)
    clear hrl hrn
    obtain ⟨⟨fb, rfl⟩, hfc⟩ := own_addr (hL.at (i := 0) rfl) (by omega)
    have hldy := hld y
    rcases hs0 with hs0 | hs0
    all_goals
      repeat (first | (refine RunH ?_; intro w hL hB; try clear w) | (refine Both.mk ?_ ?_ <;> conv => whnf) | (refine (whole_fn (v, .slice (some ⟨bn, on, none⟩) v.ns.length nc) bw vs lv sv (loadS l) c live _ (hL.old rfl hC) (hl.below hL.below) (hn.below hL.below) (by dsimp only; omega)).mono fun r w hr => ?_; obtain ⟨hr, hw⟩ := hr; subst hr; replace hL := hL.call hB (Turns.of_below hw); replace hB := Nat.le_trans hB hw.size; conv => whnf) | (refine Br.dec_t hwl ?_; conv => whnf) | fail)
      refine V.loop (α := Nat) (fun z => [(0, .pointer (some ⟨bw, 0, none⟩)), (5, .pointer (some ⟨b5, 0, none⟩)), (6, .pointer (some ⟨b6, 0, none⟩)), (8, .slice (some ⟨fb, 0, none⟩) fr.length fc), (9, .int .i64 (mostS (loadS l) v.ns z : Nat)), (42, .slice (some ⟨bn, on, none⟩) v.ns.length nc), (43, .int .i64 v.ns.length), (44, .int .i64 z)])
        (fun z w' => z ≤ v.ns.length ∧ w0.heap.size ≤ w'.heap.size ∧ Sep Try.prog w0.heap.size w0 w' [.row 3 1 (.slice (some ⟨fb, 0, none⟩) fr.length fc) fr.length (numC fr), .blk b6 [.int .i64 0, .int .i64 0, .int .i64 0, .slice none 0 0, .slice none 0 0] 32, .blk b5 (pvC (v, .slice (some ⟨bn, on, none⟩) v.ns.length nc)) 30]) (fun z => v.ns.length - z) 0 ⟨rfl, rfl, rfl, rfl, rfl, rfl, rfl, rfl, trivial⟩ ⟨Nat.zero_le _, hB, hL⟩ ?_
      rintro z w ⟨hz2, hB, hL⟩
      have hmz := (hmp z hz2).1
      generalize hmm : mostS (loadS l) v.ns z = m at *
      obtain ⟨a, ha, ha', ha0, ha1⟩ := hat m (by omega)
      have hga := wdC_load (vs := vs) (lv := lv) (sv := sv) (ld := loadS l) (c := c) ha0 ha1 rfl
      have hlda := hld a
      repeat (first | (refine RunH ?_; intro w hL hB; try clear w) | (refine Both.mk ?_ ?_ <;> conv => whnf) | fail)
      refine Br.dec (fun hlt => ?_) (fun hlt => ?_)
      · obtain ⟨x, hx, hx', hxl, hxh⟩ := hat z (by omega)
        have hgx := wdC_load (vs := vs) (lv := lv) (sv := sv) (ld := loadS l) (c := c) hxl hxh rfl
        have hldx := hld x
        have hms : mostS (loadS l) v.ns (z + 1) = if loadS l a < loadS l x then z else m := by
          rw [show mostS (loadS l) v.ns (z + 1) = if loadS l (v.ns[mostS (loadS l) v.ns z]?.getD 0) < loadS l (v.ns[z]?.getD 0) then z else mostS (loadS l) v.ns z from rfl, hmm, ha', hx']
        repeat (first | (refine RunH ?_; intro w hL hB; try clear w) | (refine Both.mk ?_ ?_ <;> conv => whnf) | fail)
        intro o1 ho1
        conv => whnf
        refine Ld.row1 ttOk (hn.below hL.below).sl.toN.rowOf rfl rfl (k := z) (numC_get hx) (by omega) ?_
        conv => whnf
        repeat (first | (refine RunK ?_; intro w hL hB; try clear w) | (refine V.quiet ttOk (fun x => x = World.drew _) mixed (by kernel_rfl) rfl ?_; replace hL := hL.drew; conv => whnf) | (refine V.tailA ttOk mixed (by decide +kernel) ?_; replace hL := hL.drew; conv => whnf) | (refine Both.mk ?_ ?_ <;> conv => whnf) | (intro w9 hw9; subst hw9; conv => whnf) | (intro o9 ho9; first | (refine (fun (hq : 2 + x.toNat = o9) => ?_) (by omega); subst hq) | (refine (fun (hq : 2 + a.toNat = o9) => ?_) (by omega); subst hq) | (refine (fun (hq : on + m = o9) => ?_) (by omega); subst hq) | fail; conv => whnf) | (refine Lq.of_row (Ld.row1 ttOk (hn.below hL.below).sl.toN.rowOf rfl rfl (k := m) (v := .int .i64 a) (numC_get ha) (by omega) rfl) ?_; conv => whnf) | (refine Lq.of_row (Ld.blk (v := .int .i64 (loadS l x : Int)) ttOk rfl rfl (hL.old rfl hC) hgx rfl) ?_; conv => whnf) | (refine Lq.of_row (Ld.blk (v := .int .i64 (loadS l a : Int)) ttOk rfl rfl (hL.old rfl hC) hga rfl) ?_; conv => whnf) | fail)
        refine Br.dec (fun hgt => ?_) (fun hgt => ?_)
        · rw [if_pos (by omega)] at hms
          repeat (first | (refine RunH ?_; intro w hL hB; try clear w) | (refine Both.mk ?_ ?_ <;> conv => whnf) | fail)
          refine ⟨z + 1, ⟨rfl, rfl, rfl, rfl, ?_, rfl, rfl, rfl, trivial⟩, ⟨by omega, hB, hL⟩, (by first | omega | (dsimp only; omega))⟩
          rw [hms]; rfl
        · rw [if_neg (by omega)] at hms
          repeat (first | (refine RunH ?_; intro w hL hB; try clear w) | (refine Both.mk ?_ ?_ <;> conv => whnf) | fail)
          refine ⟨z + 1, ⟨rfl, rfl, rfl, rfl, ?_, rfl, rfl, rfl, trivial⟩, ⟨by omega, hB, hL⟩, (by first | omega | (dsimp only; omega))⟩
          rw [hms]; rfl
      · obtain rfl : z = v.ns.length := by omega
        have hmf := (hmp v.ns.length (Nat.le_refl _)).2.2
        rw [hmm, ha'] at hmf
        rw [hmm, ha'] at hrl2
        repeat (first | (refine RunK ?_; intro w hL hB; try clear w) | (refine V.quiet ttOk (fun x => x = World.drew _) mixed (by kernel_rfl) rfl ?_; replace hL := hL.drew; conv => whnf) | (refine V.tailA ttOk mixed (by decide +kernel) ?_; replace hL := hL.drew; conv => whnf) | (refine Both.mk ?_ ?_ <;> conv => whnf) | (intro w9 hw9; subst hw9; conv => whnf) | (intro o9 ho9; first | (refine (fun (hq : 2 + y.toNat = o9) => ?_) (by omega); subst hq) | (refine (fun (hq : 2 + a.toNat = o9) => ?_) (by omega); subst hq) | (refine (fun (hq : on + m = o9) => ?_) (by omega); subst hq) | (refine (fun (hq : 0 = o9) => ?_) (by omega); subst hq) | fail; conv => whnf) | (refine Lq.of_row (Ld.row1 ttOk (hn.below hL.below).sl.toN.rowOf rfl rfl (k := m) (v := .int .i64 a) (numC_get ha) (by omega) rfl) ?_; conv => whnf) | (refine Lq.of_row (Ld.row1 ttOk (hL.rowN (i := 0) rfl).rowOf rfl rfl (k := 0) (v := .int .i64 y) (numC_get hgy) (by omega) rfl) ?_; conv => whnf) | (refine Lq.of_row (Ld.blk (v := .int .i64 (loadS l y : Int)) ttOk rfl rfl (hL.old rfl hC) hgly rfl) ?_; conv => whnf) | (refine Lq.of_row (Ld.blk (v := .int .i64 (loadS l a : Int)) ttOk rfl rfl (hL.old rfl hC) hga rfl) ?_; conv => whnf) | fail)
        refine Br.dec (fun hbr => ?_) (fun hbr => ?_)
        · rw [hrl2 none (if_pos (.inr (.inr (.inr (by omega)))))]
          repeat (first | (refine RunH ?_; intro w hL hB; try clear w) | (refine Both.mk ?_ ?_ <;> conv => whnf) | fail)
          exact ⟨rfl, hL.below⟩
        · rw [hrl2 _ (if_neg (by
            rintro (e | e | e | e)
            · omega
            · rw [hz] at e; cases e
            · exact e hwl
            · omega))]
          repeat (first | (refine RunH ?_; intro w hL hB; try clear w) | (refine Both.mk ?_ ?_ <;> conv => whnf) | fail)
          (refine (cloneC_fn _ v.ns _ (hn.below hL.below) (by omega)).mono fun r w hr => ?_; obtain ⟨hown, hbl⟩ := hr; replace hL := hL.addRow hB hbl hown; replace hB := Nat.le_trans hB hbl.size; obtain ⟨ca, cc, rfl⟩ := (hL.rowN (i := 0) rfl).shape; conv => whnf)
          obtain ⟨⟨cb, rfl⟩, hcc⟩ := own_addr (hL.at (i := 0) rfl) hpl
          repeat (first | (refine RunH ?_; intro w hL hB; try clear w) | (refine Both.mk ?_ ?_ <;> conv => whnf) | fail)
          intro o2 ho2
          conv => whnf
          refine Ld.row1 ttOk (hL.rowN (i := 1) rfl).rowOf rfl rfl (k := 0) (numC_get hgy) (by omega) ?_
          conv => whnf
          repeat (first | (refine RunH ?_; intro w hL hB; try clear w) | (refine Both.mk ?_ ?_ <;> conv => whnf) | fail)
          intro o3 ho3
          obtain rfl : o3 = m := by omega
          conv => whnf
          refine St.rowS ttOk hL 0 rfl rfl rfl rfl (by rw [numC_len]; show o3 + 1 ≤ _; omega) hB (fun w hL hB => ?_)
          dsimp only [List.set] at hL
          have hspl : splice (numC v.ns) o3 (cellsL (.int .i64 y)) = numC (v.ns.set o3 y) := by
            show splice (numC v.ns) o3 [.int .i64 y] = _
            rw [splice_one (by rw [numC_len]; omega), numC_set]
          rw [hspl] at hL
          conv => whnf
          repeat (first | (refine RunK ?_; intro w hL hB; try clear w) | (refine V.treeS ttOk hL 0 (b := b6) rfl (.q 0 (.q 1 (.q 2 (.q 3 (.q 5 (.alt 4 (.q 6 (.alt 7 (.q 8 .nil) .stop)) .stop)))))) mixed (by decide +kernel) ?_; replace hL := hL.drew; conv => whnf) | (refine V.treeS ttOk hL 1 (b := b6) rfl (.q 0 (.q 1 (.q 2 (.q 3 (.q 5 (.alt 4 (.q 6 (.alt 7 (.q 8 .nil) .stop)) .stop)))))) mixed (by decide +kernel) ?_; replace hL := hL.drew; conv => whnf) | (refine V.treeS ttOk hL 2 (b := b6) rfl (.q 0 (.q 1 (.q 2 (.q 3 (.q 5 (.alt 4 (.q 6 (.alt 7 (.q 8 .nil) .stop)) .stop)))))) mixed (by decide +kernel) ?_; replace hL := hL.drew; conv => whnf) | (refine V.treeS ttOk hL 3 (b := b6) rfl (.q 0 (.q 1 (.q 2 (.q 3 (.q 5 (.alt 4 (.q 6 (.alt 7 (.q 8 .nil) .stop)) .stop)))))) mixed (by decide +kernel) ?_; replace hL := hL.drew; conv => whnf) | (refine V.treeS ttOk hL 4 (b := b6) rfl (.q 0 (.q 1 (.q 2 (.q 3 (.q 5 (.alt 4 (.q 6 (.alt 7 (.q 8 .nil) .stop)) .stop)))))) mixed (by decide +kernel) ?_; replace hL := hL.drew; conv => whnf) | (refine V.tailA ttOk mixed (by decide +kernel) ?_; replace hL := hL.drew; conv => whnf) | (refine Both.mk ?_ ?_ <;> conv => whnf) | (intro w9 hw9; conv => whnf) | fail)
          (refine (cloneC_fn _ v.ns _ (hn.below hL.below) (by omega)).mono fun r w hr => ?_; obtain ⟨hown, hbl⟩ := hr; replace hL := hL.addRow hB hbl hown; replace hB := Nat.le_trans hB hbl.size; obtain ⟨da, dc, rfl⟩ := (hL.rowN (i := 0) rfl).shape; conv => whnf)
          repeat (first | (refine RunH ?_; intro w hL hB; try clear w) | (refine Both.mk ?_ ?_ <;> conv => whnf) | fail)
          refine ActS.mk (kv := .slice da v.ns.length dc) (nv := .slice (some ⟨cb, 0, none⟩) v.ns.length cc) rfl (by first | rfl | (unfold actV; rw [hs0]; rfl)) ?_
          dsimp only
          rw [List.length_set]
          exact hL.sub (.cons_cons _ (.cons_cons _ (List.nil_sublist _)))
end Go.Proofs.Ythifnfoppamkiaa
