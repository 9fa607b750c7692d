/- shard: mend, Mend. Nothing is claimed here. -/
import Derived.Test.YtlldgodjfpgbcaaDoorGf
namespace Go.Proofs.YtlldgodjfpgbcaaDoor
open Go.RowKit
open Go.Maps (Keyed)
set_option linter.unusedVariables false
set_option linter.unusedSimpArgs false
set_option maxRecDepth 100000

theorem haveS_snoc (rows : List (List UInt8)) (l : List Nat) (i : Nat) : haveS rows (l ++ [i]) = haveS rows l ++ [rw_ rows i] := by simp [haveS]
theorem sl_ss {w : World} {v : Value} {us : List Value} {ls : List (List UInt8)} (h1 : Sl w v us) (h2 : Ins w us ls) : SS w v ls := ⟨us, h1, h2⟩

set_option maxHeartbeats 8000000 in
theorem mend_fn (b mb k m N : Nat) (cv v : Value) (rows : List (List UInt8)) (h1 : 1 ≤ k) (h2 : k + m ≤ 14) (hr : rows.length = k + m) (hs : (selS k rows).length = k) (hN : ∀ l ∈ rows, l ≠ [] → l.length = N) (hN0 : N ≤ 1000000) (w0 w : World) (hT : TabAt 0 Go.Lib.deBruijn64tab w0) (hcode : SS w0 cv (codeM k m)) (hv : SS w0 v rows)
    (hL : Sep Tryd.prog w0.heap.size w0 w [.blk b (workC k m cv mb) 82, .mp 94 mb []]) (hB : w0.heap.size ≤ w.heap.size) :
    Fn Tryd.prog 33 #[.pointer (some ⟨b, 0, none⟩), v, .int .u32 (bits_ rows (k + m) : Nat)] w fun r w' => ∃ out, MendR k m N rows out ∧ Mat w' w0.heap.size r out ∧ Below w0.heap.size w0 w' := by
  obtain ⟨cs, hcs, hci⟩ := hv.of
  have hcl := hci.len
  obtain ⟨a, cp, rfl⟩ := hcs.shape
  rw [hcl, hr] at hcs hv ⊢
  obtain ⟨vb, vo, rfl, hcr⟩ := hcs.addr (by omega)
  have hrow : ∀ {x : World} {L' : List Res}, Sep Tryd.prog w0.heap.size w0 x L' → Row x vb vo cs := fun h => (hcs.below h.below).toN.rowOf
  have hDl : ∀ l ∈ haveS rows (selS k rows), l.length = N := fun l hl => by
    obtain ⟨i, hi, rfl⟩ := List.mem_map.1 hl
    exact hN _ (rw_mem (selS_mem hi).1) (selS_mem hi).2
  have hlt := fun i hi => (selS_mem (k := k) (rows := rows) (i := i) hi).1
  refine Fn.mk Tryd.func33 rfl (by kernel_rfl) Tryd.ntmps33 rfl (by rw [Tryd.results33]) ?_
  repeat (first | (refine RunH ?_; intro w hL hB; try clear w) | (refine Both.mk ?_ ?_ <;> conv => whnf) | fail)
  refine (inverse_fn b mb k m cv rows h1 h2 hr hs w0 w hT hcode hL hB).mono fun r w2 ⟨u, tv, bs, C, Rs, hinv, hins, hru, hB2, hL2⟩ => ?_
  subst hru
  clear hL hB
  obtain ⟨ua, uc, rfl⟩ := (hL2.rowN (i := 0) rfl).shape
  obtain ⟨ta, tc, rfl⟩ := (hL2.rowN (i := 2) rfl).shape
  obtain ⟨⟨tb, rfl⟩, _⟩ := own_addr (hL2.at (i := 2) rfl) (by omega)
  have hmr : ∀ out, out = blends N (codeM k m) (blends N C (haveS rows (selS k rows))) → MendR k m N rows out := fun out h => ⟨C, hinv, h⟩
  have hD0 : (haveS rows (selS k rows)).length = k := by simp [haveS, hs]
  generalize selS k rows = sel at *
  conv => whnf
  repeat (first | (refine RunH ?_; intro w hL hB; try clear w) | (refine Both.mk ?_ ?_ <;> conv => whnf) | fail)
  refine V.loop (α := Nat × Value × List Value) (fun z => [(0, .pointer (some ⟨b, 0, none⟩)), (1, .slice (some ⟨vb, vo, none⟩) (k + m) cp), (7, .slice ua k uc), (9, z.2.1), (18, .slice (some ⟨tb, 0, none⟩) k tc), (19, .int .i64 (k : Int)), (20, .int .i64 (z.1 : Int))])
    (fun z w' => z.1 ≤ k ∧ Ins w0 z.2.2 (haveS rows (sel.take z.1)) ∧ w0.heap.size ≤ w'.heap.size ∧ Sep Tryd.prog w0.heap.size w0 w' (.row 22 1 z.2.1 z.1 z.2.2 :: .row 22 1 (.slice ua k uc) k bs :: .blk b (workC k m cv mb) 82 :: .row 3 1 (.slice (some ⟨tb, 0, none⟩) k tc) k (natC sel) :: Rs)) (fun z => k - z.1) (0, .slice none 0 0, []) ⟨rfl, rfl, rfl, rfl, rfl, rfl, rfl, trivial⟩ ⟨Nat.zero_le _, Ins.nil _, hB2, hL2.nilRow 22 1⟩ ?_
  clear hL2 hB2
  rintro ⟨j, hv9, hs9⟩ w ⟨hj, hps, hB, hL⟩
  dsimp only at hj hps hL
  have hpl := hps.len
  rw [show (haveS rows (sel.take j)).length = j by simp [haveS]; omega] at hpl
  obtain ⟨ha, hc, rfl⟩ := (hL.rowN (i := 0) rfl).shape
  repeat (first | (refine RunH ?_; intro w hL hB; try clear w) | (refine Both.mk ?_ ?_ <;> conv => whnf) | fail)
  refine Br.dec (fun hlt' => ?_) (fun hlt' => ?_)
  · have hjk : j < k := by omega
    have hg : sel[j]? = some sel[j] := List.getElem?_eq_getElem (by omega)
    have hil := hlt sel[j] (List.getElem_mem _)
    have hts : sel.take (j + 1) = sel.take j ++ [sel[j]] := List.take_succ_eq_append_getElem (by omega)
    generalize sel[j] = i at *
    obtain ⟨ui, hui, hsi⟩ := hci.get (rw_some (show i < rows.length by omega))
    repeat (first | (refine RunH ?_; intro w hL hB; try clear w) | (refine Both.mk ?_ ?_ <;> conv => whnf) | fail)
    intro o3 ho3
    conv => whnf
    repeat (first | (refine RunH ?_; intro w hL hB; try clear w) | (refine Both.mk ?_ ?_ <;> conv => whnf) | fail)
    refine Ld.row1 ttOk (hL.rowN (i := 3) rfl).rowOf rfl rfl (k := j) (natC_get hg) (by omega) ?_
    conv => whnf
    repeat (first | (refine RunH ?_; intro w hL hB; try clear w) | (refine Both.mk ?_ ?_ <;> conv => whnf) | fail)
    intro o4 ho4
    conv => whnf
    repeat (first | (refine RunH ?_; intro w hL hB; try clear w) | (refine Both.mk ?_ ?_ <;> conv => whnf) | fail)
    refine Ld.row1 ttOk (hrow hL) rfl rfl (k := i) hui (by omega) ?_
    conv => whnf
    repeat (first | (refine RunH ?_; intro w hL hB; try clear w) | (refine Both.mk ?_ ?_ <;> conv => whnf) | fail)
    obtain ⟨xa, xc, rfl⟩ := hsi.shape
    refine Rv.buildS ttOk hL tl29 tl22 rfl rfl (by intro u hu; simp only [List.mem_singleton] at hu; subst hu; rfl) (by decide) (by decide) hB fun bo2 w hL hB => ?_
    conv => whnf
    refine Rv.appendS ttOk hL tl29 tl22 rfl (by decide) 1 rfl (hL.rowN (i := 0) rfl) (allOne_mem rfl) (by simp only [maxLen]; omega) (by omega) hB fun vp w hL hB => ?_
    dsimp only [List.set] at hL
    replace hL := hL.tl
    conv => whnf
    repeat (first | (refine RunH ?_; intro w hL hB; try clear w) | (refine Both.mk ?_ ?_ <;> conv => whnf) | fail)
    refine ⟨(j + 1, vp, hs9 ++ [.slice xa (bv (rw_ rows i)).length xc]), ⟨rfl, rfl, rfl, rfl, rfl, rfl, rfl, trivial⟩, ⟨by dsimp only; omega, ?_, hB, hL⟩, (by first | omega | (dsimp only; omega))⟩
    dsimp only
    rw [hts, haveS_snoc]
    exact hps.snoc hsi
  · obtain rfl : k = j := by omega
    rw [List.take_of_length_le (by omega)] at hps
    obtain ⟨cva, cvc, rfl⟩ : ∃ a c, cv = .slice a (k + m) c := by
      obtain ⟨us, q1, q2⟩ := hcode.of
      obtain ⟨a, c, rfl⟩ := q1.shape
      exact ⟨a, c, by rw [q2.len, codeM_len]⟩
    unfold workC at hL
    repeat (first | (refine RunH ?_; intro w hL hB; try clear w) | (refine Both.mk ?_ ?_ <;> conv => whnf) | fail)
    have hCl : C.length = k := hinv.len
    have hd1 := rw_some (A := haveS rows sel) (i := 0) (by omega)
    have hd2 := rw_some (A := blends N C (haveS rows sel)) (i := 0) (by rw [blends_len]; omega)
    have hDl2 := blends_row (N := N) (C := C) (D := haveS rows sel) hDl
    refine V.treeA ttOk hL (.q 0 (.q 1 (.q 2 (.q 3 (.q 4 (.q 5 (.alt 6 (.alt 7 (.q 8 .nil) .stop) .stop))))))) mixed (by decide +kernel) ?_
    replace hL := hL.drew
    conv => whnf
    repeat (first | (refine RunH ?_; intro w hL hB; try clear w) | (refine Both.mk ?_ ?_ <;> conv => whnf) | fail)
    refine (times_fn _ _ C (haveS rows sel) N _ hd1 (hDl _ (List.mem_of_getElem? hd1)) hDl (fun l hl => by rw [hinv.row l hl]; omega) (by omega) (by omega) _ (sl_ss (hL.row (i := 1) rfl) ((hins.mono fun R h => mem2 (mem2 h)).ins hL)) (sl_ss (hL.row (i := 0) rfl) (hps.below hL.below))).mono fun r w hr9 => ?_
    obtain ⟨hmat, hbl⟩ := hr9
    replace hL := hL.call hB (Turns.of_below hbl)
    replace hB := Nat.le_trans hB hbl.size
    change Mat _ _ _ (blends N C (haveS rows sel)) at hmat
    conv => whnf
    repeat (first | (refine RunH ?_; intro w hL hB; try clear w) | (refine Both.mk ?_ ?_ <;> conv => whnf) | fail)
    refine (times_fn _ _ (codeM k m) (blends N C (haveS rows sel)) N _ hd2 (hDl2 _ (List.mem_of_getElem? hd2)) hDl2 (fun l hl => by rw [codeM_row l hl, blends_len]; omega) (by omega) (by rw [codeM_len]; omega) _ (hcode.below hL.below) hmat.ss).mono fun r w' hr9 => ?_
    obtain ⟨hmat2, hbl2⟩ := hr9
    replace hL := hL.call hB (Turns.of_below hbl2)
    conv => whnf
    repeat (first | (refine RunH ?_; intro w hL hB; try clear w) | (refine Both.mk ?_ ?_ <;> conv => whnf) | fail)
    exact ⟨_, hmr _ rfl, hmat2.mono hB, hL.below⟩
end Go.Proofs.YtlldgodjfpgbcaaDoor
