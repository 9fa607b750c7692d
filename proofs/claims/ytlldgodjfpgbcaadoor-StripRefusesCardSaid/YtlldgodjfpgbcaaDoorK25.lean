/- garnerref7: scale, add, Is. garnerref7.Invert. Nothing is claimed here. -/
import Derived.Test.YtlldgodjfpgbcaaDoorK24
namespace Go.Proofs.YtlldgodjfpgbcaaDoor
open Go.RowKit
set_option linter.unusedVariables false
set_option linter.unusedSimpArgs false
set_option maxRecDepth 100000

theorem rmb_comm (a b : UInt8) : rmb a b = gmb a b := by rw [rmb_gmb, gmb_comm]
theorem scl_take {l : List UInt8} {c : UInt8} {i : Nat} (h : i < l.length) : (scl l c).take (i + 1) = (scl l c).take i ++ [gmb l[i] c] := by
  rw [List.take_succ_eq_append_getElem (by rw [scl_len]; exact h)]
  simp [scl]
theorem addR_take {r s : List UInt8} {i : Nat} (h : i < r.length) (h2 : i < s.length) : (addR r s).take (i + 1) = (addR r s).take i ++ [r[i] ^^^ s[i]] := by
  rw [List.take_succ_eq_append_getElem (by simp [addR]; omega)]
  simp [addR]
set_option maxHeartbeats 4000000 in
theorem scaleR_fn (v : Value) (l : List UInt8) (c : UInt8) (w0 : World) (hs : Sl w0 v (bv l)) (hl : l.length ≤ 140737488355328) :
    Fn Tryd.prog 51 #[v, u8 c] w0 fun r w' => w'.ownsRow w0.heap.size 5 1 r (scl l c).length (bv (scl l c)) ∧ Below w0.heap.size w0 w' := by
  have hL := Sep.start Tryd.prog w0
  have hB := Nat.le_refl w0.heap.size
  obtain ⟨a, cp, rfl⟩ := hs.shape
  rw [bv_length] at hs ⊢
  rw [scl_len]
  refine Fn.mk Tryd.func51 rfl (by kernel_rfl) Tryd.ntmps51 rfl (by rw [Tryd.results51]) ?_
  repeat (first | (refine RunH ?_; intro w hL hB; try clear w) | (refine Both.mk ?_ ?_ <;> conv => whnf) | fail)
  refine V.loop (α := Nat × Value) (fun z => [(0, .slice a l.length cp), (1, u8 c), (5, z.2), (6, .int .i64 (z.1 : Int))])
    (fun z w' => z.1 ≤ l.length ∧ w0.heap.size ≤ w'.heap.size ∧ Sep Tryd.prog w0.heap.size w0 w' [.row 5 1 z.2 z.1 (bv ((scl l c).take z.1))]) (fun z => l.length - z.1) (0, .slice none 0 0) ⟨rfl, rfl, rfl, rfl, trivial⟩ ⟨Nat.zero_le _, hB, hL.nilRow 5 1⟩ ?_
  clear hL hB
  rintro ⟨i, ov⟩ w ⟨hi, hB, hL⟩
  dsimp only at hi hL
  obtain ⟨oa, oc, rfl⟩ := (hL.rowN (i := 0) rfl).shape
  repeat (first | (refine RunH ?_; intro w hL hB; try clear w) | (refine Both.mk ?_ ?_ <;> conv => whnf) | fail)
  refine Br.dec (fun hlt => ?_) (fun hlt => ?_)
  · have hil : i < l.length := by omega
    obtain ⟨b, o, rfl, _⟩ := hs.addr (by omega)
    have hr := (hs.below hL.below).toN.rowOf
    have htk := scl_take (c := c) hil
    have hgi : (bv l)[i]? = some (u8 l[i]) := by simp [bv, hil]
    generalize l[i] = x at *
    repeat (first | (refine RunH ?_; intro w hL hB; try clear w) | (refine Both.mk ?_ ?_ <;> conv => whnf) | fail)
    intro o3 ho3
    conv => whnf
    repeat (first | (refine RunH ?_; intro w hL hB; try clear w) | (refine Both.mk ?_ ?_ <;> conv => whnf) | fail)
    refine Ld.row1 ttOk hr rfl rfl (k := i) hgi (by omega) ?_
    conv => whnf
    repeat (first | (refine RunH ?_; intro w hL hB; try clear w) | (refine Both.mk ?_ ?_ <;> conv => whnf) | fail)
    refine (rmb_fn x c _).mono fun r w' ⟨hw', hr'⟩ => ?_
    subst hr'
    replace hw' := hw'.symm
    subst hw'
    conv => whnf
    repeat (first | (refine RunH ?_; intro w hL hB; try clear w) | (refine Both.mk ?_ ?_ <;> conv => whnf) | fail)
    refine Rv.buildS ttOk hL tl22 tl5 rfl rfl (by intro u hu; simp only [List.mem_singleton] at hu; subst hu; rfl) (by decide) (by decide) hB fun bo w hL hB => ?_
    conv => whnf
    refine Rv.appendS ttOk hL tl22 tl5 rfl (by decide) 1 rfl (hL.rowN (i := 0) rfl) (allOne_mem rfl) (by simp only [maxLen]; omega) (by omega) hB fun vp w hL hB => ?_
    dsimp only [List.set] at hL
    replace hL := hL.tl
    conv => whnf
    repeat (first | (refine RunH ?_; intro w hL hB; try clear w) | (refine Both.mk ?_ ?_ <;> conv => whnf) | fail)
    refine ⟨(i + 1, vp), ⟨rfl, rfl, rfl, rfl, trivial⟩, ⟨by dsimp only; omega, hB, ?_⟩, (by first | omega | (dsimp only; omega))⟩
    dsimp only
    rw [htk, ← rmb_comm, bv_append]
    exact hL
  · obtain rfl : i = l.length := by omega
    rw [List.take_of_length_le (by rw [scl_len]; exact Nat.le_refl _)] at hL
    repeat (first | (refine RunH ?_; intro w hL hB; try clear w) | (refine Both.mk ?_ ?_ <;> conv => whnf) | fail)
    exact ⟨hL.ownR (i := 0) rfl, hL.below⟩
set_option maxHeartbeats 4000000 in
theorem addR_fn (v v2 : Value) (l s : List UInt8) (w0 : World) (hs : Sl w0 v (bv l)) (hs2 : Sl w0 v2 (bv s)) (hls : s.length = l.length) (hl : l.length ≤ 140737488355328) :
    Fn Tryd.prog 52 #[v, v2] w0 fun r w' => w'.ownsRow w0.heap.size 5 1 r (addR l s).length (bv (addR l s)) ∧ Below w0.heap.size w0 w' := by
  have hL := Sep.start Tryd.prog w0
  have hB := Nat.le_refl w0.heap.size
  obtain ⟨a, cp, rfl⟩ := hs.shape
  obtain ⟨a2, cp2, rfl⟩ := hs2.shape
  rw [bv_length] at hs hs2 ⊢
  rw [bv_length, hls]
  rw [hls] at hs2
  rw [addR_len hls.symm]
  refine Fn.mk Tryd.func52 rfl (by kernel_rfl) Tryd.ntmps52 rfl (by rw [Tryd.results52]) ?_
  repeat (first | (refine RunH ?_; intro w hL hB; try clear w) | (refine Both.mk ?_ ?_ <;> conv => whnf) | fail)
  refine V.loop (α := Nat × Value) (fun z => [(0, .slice a l.length cp), (1, .slice a2 l.length cp2), (5, z.2), (6, .int .i64 (z.1 : Int))])
    (fun z w' => z.1 ≤ l.length ∧ w0.heap.size ≤ w'.heap.size ∧ Sep Tryd.prog w0.heap.size w0 w' [.row 5 1 z.2 z.1 (bv ((addR l s).take z.1))]) (fun z => l.length - z.1) (0, .slice none 0 0) ⟨rfl, rfl, rfl, rfl, trivial⟩ ⟨Nat.zero_le _, hB, hL.nilRow 5 1⟩ ?_
  clear hL hB
  rintro ⟨i, ov⟩ w ⟨hi, hB, hL⟩
  dsimp only at hi hL
  obtain ⟨oa, oc, rfl⟩ := (hL.rowN (i := 0) rfl).shape
  repeat (first | (refine RunH ?_; intro w hL hB; try clear w) | (refine Both.mk ?_ ?_ <;> conv => whnf) | fail)
  refine Br.dec (fun hlt => ?_) (fun hlt => ?_)
  · have hil : i < l.length := by omega
    have hil2 : i < s.length := by omega
    obtain ⟨b, o, rfl, _⟩ := hs.addr (by omega)
    obtain ⟨b2, o2, rfl, _⟩ := hs2.addr (by omega)
    have hr : ∀ {x : World} {L' : List Res}, Sep Tryd.prog w0.heap.size w0 x L' → Row x b o (bv l) := fun h => (hs.below h.below).toN.rowOf
    have hr2 : ∀ {x : World} {L' : List Res}, Sep Tryd.prog w0.heap.size w0 x L' → Row x b2 o2 (bv s) := fun h => (hs2.below h.below).toN.rowOf
    have htk := addR_take (r := l) (s := s) hil hil2
    have hgi : (bv l)[i]? = some (u8 l[i]) := by simp [bv, hil]
    have hgi2 : (bv s)[i]? = some (u8 s[i]) := by simp [bv, hil2]
    generalize l[i] = x at *
    generalize s[i] = y at *
    have hxy := u8_xor x y
    repeat (first | (refine RunH ?_; intro w hL hB; try clear w) | (refine Both.mk ?_ ?_ <;> conv => whnf) | fail)
    refine V.treeP ttOk hL 0 (.q 0 (.q 1 (.q 2 (.q 3 (.q 4 (.q 5 (.q 6 (.q 7 (.q 8 (.q 9 (.alt 10 (.alt 11 (.q 12 .nil) .stop) .stop))))))))))) mixed (by decide +kernel) ?_
    replace hL := hL.drew
    conv => whnf
    repeat (first | (refine RunH ?_; intro w hL hB; try clear w) | (refine Both.mk ?_ ?_ <;> conv => whnf) | fail)
    intro o3 ho3
    conv => whnf
    refine Lq.of_class (fun x hx => Ld.row1 ttOk (hr hx) rfl rfl (k := i) hgi (by omega) rfl) ?_
    conv => whnf
    repeat (first | (refine RunH ?_; intro w hL hB; try clear w) | (refine Both.mk ?_ ?_ <;> conv => whnf) | fail)
    intro o4 ho4
    conv => whnf
    refine Lq.of_class (fun x hx => Ld.row1 ttOk (hr2 hx) rfl rfl (k := i) hgi2 (by omega) rfl) ?_
    conv => whnf
    repeat (first | (refine RunH ?_; intro w hL hB; try clear w) | (refine Both.mk ?_ ?_ <;> conv => whnf) | fail)
    refine Bt.xor8 x.toNat y.toNat rfl rfl (u8lt _) (u8lt _) ?_
    rw [hxy]
    conv => whnf
    repeat (first | (refine RunH ?_; intro w hL hB; try clear w) | (refine Both.mk ?_ ?_ <;> conv => whnf) | fail)
    refine Rv.buildS ttOk hL tl22 tl5 rfl rfl (by intro u hu; simp only [List.mem_singleton] at hu; subst hu; rfl) (by decide) (by decide) hB fun bo w hL hB => ?_
    conv => whnf
    repeat (first | (refine RunH ?_; intro w hL hB; try clear w) | (refine Both.mk ?_ ?_ <;> conv => whnf) | fail)
    refine Rv.appendS ttOk hL tl22 tl5 rfl (by decide) 1 rfl (hL.rowN (i := 0) rfl) (allOne_mem rfl) (by simp only [maxLen]; omega) (by omega) hB fun vp w hL hB => ?_
    dsimp only [List.set] at hL
    replace hL := hL.tl
    conv => whnf
    repeat (first | (refine RunH ?_; intro w hL hB; try clear w) | (refine Both.mk ?_ ?_ <;> conv => whnf) | fail)
    refine ⟨(i + 1, vp), ⟨rfl, rfl, rfl, rfl, trivial⟩, ⟨by dsimp only; omega, hB, ?_⟩, (by first | omega | (dsimp only; omega))⟩
    dsimp only
    rw [htk, bv_append]
    exact hL
  · obtain rfl : i = l.length := by omega
    rw [List.take_of_length_le (by rw [addR_len hls.symm]; exact Nat.le_refl _)] at hL
    repeat (first | (refine RunH ?_; intro w hL hB; try clear w) | (refine Both.mk ?_ ?_ <;> conv => whnf) | fail)
    exact ⟨hL.ownR (i := 0) rfl, hL.below⟩
set_option maxHeartbeats 4000000 in
theorem isR_fn (v : Value) (A : List (List UInt8)) (n : Nat) (h1 : 1 ≤ n) (h2 : n ≤ 64) (hl : A.length = n) (hr : ∀ l ∈ A, l.length = n) (w0 : World) (hs : SS w0 v A) :
    Fn Tryd.prog 50 #[v] w0 fun r w' => r = .bool true ∧ Below w0.heap.size w0 w' := by
  obtain ⟨cs, hcs, hci⟩ := hs.of
  have hcl := hci.len
  obtain ⟨a, cp, rfl⟩ := hcs.shape
  rw [hcl, hl] at hcs ⊢
  obtain ⟨b1, o1, rfl, hr1⟩ := hcs.addr (by omega)
  obtain ⟨u0, hu0, hs0⟩ := hci.get (List.getElem?_eq_getElem (show 0 < A.length by omega))
  have e0 : (A[0]'(by omega)).length = n := hr _ (List.getElem_mem _)
  obtain ⟨a0, c0, rfl⟩ := hs0.shape
  rw [bv_length, e0] at hu0
  have hL := Sep.start Tryd.prog w0
  have hB := Nat.le_refl w0.heap.size
  have hrow : ∀ {x : World} {L' : List Res}, Sep Tryd.prog w0.heap.size w0 x L' → Row x b1 o1 cs := fun h => (hcs.below h.below).toN.rowOf
  refine Fn.mk Tryd.func50 rfl (by kernel_rfl) Tryd.ntmps50 rfl (by rw [Tryd.results50]) ?_
  repeat (first | (refine RunH ?_; intro w hL hB; try clear w) | (refine Both.mk ?_ ?_ <;> conv => whnf) | fail)
  intro o2 ho2
  conv => whnf
  repeat (first | (refine RunH ?_; intro w hL hB; try clear w) | (refine Both.mk ?_ ?_ <;> conv => whnf) | fail)
  refine Ld.row1 ttOk (hrow hL) rfl rfl (k := 0) hu0 (by omega) ?_
  conv => whnf
  repeat (first | (refine RunH ?_; intro w hL hB; try clear w) | (refine Both.mk ?_ ?_ <;> conv => whnf) | fail)
  intro o3 ho3
  conv => whnf
  repeat (first | (refine RunH ?_; intro w hL hB; try clear w) | (refine Both.mk ?_ ?_ <;> conv => whnf) | fail)
  refine Ld.row1 ttOk (hrow hL) rfl rfl (k := 0) hu0 (by omega) ?_
  conv => whnf
  repeat (first | (refine RunH ?_; intro w hL hB; try clear w) | (refine Both.mk ?_ ?_ <;> conv => whnf) | fail)
  refine V.loop (α := Nat) (fun i => [(0, .slice (some ⟨b1, o1, none⟩) n cp), (3, .int .i64 (i : Int))])
    (fun i w' => i ≤ n ∧ 1 ≤ i ∧ w0.heap.size ≤ w'.heap.size ∧ Sep Tryd.prog w0.heap.size w0 w' []) (fun i => n - i) 1 ⟨rfl, rfl, trivial⟩ ⟨h1, Nat.le_refl _, hB, hL⟩ ?_
  clear hL hB
  rintro i w ⟨hi, hi1, hB, hL⟩
  repeat (first | (refine RunH ?_; intro w hL hB; try clear w) | (refine Both.mk ?_ ?_ <;> conv => whnf) | fail)
  refine Br.dec (fun hlt => ?_) (fun hlt => ?_)
  · have hin : i < n := by omega
    obtain ⟨ui, hui, hsi⟩ := hci.get (rw_some (show i < A.length by omega))
    have e1 : (rw_ A i).length = n := hr _ (rw_mem (by omega))
    obtain ⟨a3, c3, rfl⟩ := hsi.shape
    rw [bv_length, e1] at hui
    repeat (first | (refine RunH ?_; intro w hL hB; try clear w) | (refine Both.mk ?_ ?_ <;> conv => whnf) | fail)
    refine V.treeP ttOk hL 0 (.q 0 (.q 1 (.q 2 (.q 3 (.q 4 (.q 5 (.q 6 (.q 7 (.q 8 (.q 9 .nil)))))))))) mixed (by decide +kernel) ?_
    replace hL := hL.drew
    conv => whnf
    repeat (first | (refine RunH ?_; intro w hL hB; try clear w) | (refine Both.mk ?_ ?_ <;> conv => whnf) | fail)
    intro o4 ho4
    conv => whnf
    refine Lq.of_class (fun x hx => Ld.row1 ttOk (hrow hx) rfl rfl (k := i) hui (by omega) rfl) ?_
    conv => whnf
    repeat (first | (refine RunH ?_; intro w hL hB; try clear w) | (refine Both.mk ?_ ?_ <;> conv => whnf) | fail)
    intro o5 ho5
    conv => whnf
    refine Lq.of_class (fun x hx => Ld.row1 ttOk (hrow hx) rfl rfl (k := 0) hu0 (by omega) rfl) ?_
    conv => whnf
    repeat (first | (refine RunH ?_; intro w hL hB; try clear w) | (refine Both.mk ?_ ?_ <;> conv => whnf) | fail)
    refine ⟨i + 1, ⟨rfl, rfl, trivial⟩, ⟨by omega, by omega, hB, hL⟩, (by first | omega | (dsimp only; omega))⟩
  · obtain rfl : i = n := by omega
    repeat (first | (refine RunH ?_; intro w hL hB; try clear w) | (refine Both.mk ?_ ?_ <;> conv => whnf) | fail)
    exact ⟨rfl, hL.below⟩
end Go.Proofs.YtlldgodjfpgbcaaDoor
namespace Go.Proofs.YtlldgodjfpgbcaaDoor
open Go.RowKit
set_option linter.unusedVariables false
set_option linter.unusedSimpArgs false
set_option maxRecDepth 100000

theorem mem1 {α : Type} {a x : α} {l : List α} (h : x ∈ l) : x ∈ a :: l := List.mem_cons_of_mem _ h
theorem swap_zero {rows : List (List UInt8)} {n p c : Nat} (hl : rows.length = n) (hp : p < n) (hc : c < n) :
    rowsP (swapR rows p c) n c c 0 = (rows.set p (rw_ rows c)).set c (scl (rw_ rows p) (gib ((rw_ rows p).getD c 0))) := by
  rw [rowsP_zero (by rw [swapR_len, hl]) hc, swapR_rw (by omega) (by omega), if_pos rfl]
  unfold swapR
  rw [List.set_set]
set_option maxHeartbeats 16000000 in
theorem invertR_fn (v : Value) (A : List (List UInt8)) (n : Nat) (h1 : 1 ≤ n) (h2 : n ≤ 64) (hl : A.length = n) (hr : ∀ l ∈ A, l.length = n) (hI : Inj n A) (w0 : World) (hs : SS w0 v A) :
    Fn Tryd.prog 39 #[v] w0 fun r w' => ∃ u C, InvR n A C ∧ SS w' u C ∧ r = .tuple #[u, .int .i64 0] ∧ Below w0.heap.size w0 w' := by
  have hM := isR_fn v A n h1 h2 hl hr w0 hs
  obtain ⟨cs, hcs, hci⟩ := hs.of
  have hcl := hci.len
  obtain ⟨a, cp, rfl⟩ := hcs.shape
  rw [hcl, hl] at hcs hM ⊢
  obtain ⟨b1, o1, rfl, _⟩ := hcs.addr (by omega)
  obtain ⟨u0, hu0, hs0⟩ := hci.get (List.getElem?_eq_getElem (show 0 < A.length by omega))
  have e0 : (A[0]'(by omega)).length = n := hr _ (List.getElem_mem _)
  obtain ⟨a0, c0, rfl⟩ := hs0.shape
  rw [bv_length, e0] at hu0
  have hL := Sep.start Tryd.prog w0
  have hB := Nat.le_refl w0.heap.size
  refine Fn.mk Tryd.func39 rfl (by kernel_rfl) Tryd.ntmps39 rfl (by rw [Tryd.results39]) ?_
  repeat (first | (refine RunH ?_; intro w hL hB; try clear w) | (refine Both.mk ?_ ?_ <;> conv => whnf) | fail)
  refine hM.mono fun r w ⟨hr', hbl⟩ => ?_
  subst hr'
  replace hL := hL.call hB (Turns.of_below hbl)
  replace hB := Nat.le_trans hB hbl.size
  have hr1 := (hcs.below hbl).toN.rowOf
  conv => whnf
  repeat (first | (refine RunH ?_; intro w hL hB; try clear w) | (refine Both.mk ?_ ?_ <;> conv => whnf) | fail)
  intro o2 ho2
  conv => whnf
  repeat (first | (refine RunH ?_; intro w hL hB; try clear w) | (refine Both.mk ?_ ?_ <;> conv => whnf) | fail)
  refine Ld.row1 ttOk hr1 rfl rfl (k := 0) hu0 (by omega) ?_
  conv => whnf
  repeat (first | (refine RunH ?_; intro w hL hB; try clear w) | (refine Both.mk ?_ ?_ <;> conv => whnf) | fail)
  refine (oneR_fn n h1 h2 _).mono fun r w1 ⟨u, hru, hmat, hbl1⟩ => ?_
  subst hru
  have hW1 := hbl.trans (hbl1.mono hbl.size)
  obtain ⟨os, hos, hio⟩ := hmat.ss.of
  have hosl : os.length = n := by rw [hio.len]; simp [oneM]
  obtain ⟨xa, xc, rfl⟩ := hos.shape
  rw [hosl] at hos hmat ⊢
  obtain ⟨bx, ox, rfl, _⟩ := hos.addr (by omega)
  have hiA : Ins w1 cs A := hci.below hW1
  have hrA := hcs.below hW1
  clear hL hB hr1 hM hbl hbl1
  have hL := Sep.start Tryd.prog w1
  have hB := Nat.le_refl w1.heap.size
  have hAr : ∀ i, i < n → (rw_ A i).length = n := fun i hi => hr _ (rw_mem (by omega))
  conv => whnf
  repeat (first | (refine RunH ?_; intro w hL hB; try clear w) | (refine Both.mk ?_ ?_ <;> conv => whnf) | fail)
  refine V.loop (α := Nat × Value × List Value × List Res) (fun z => [(0, .slice (some ⟨b1, o1, none⟩) n cp), (4, .int .i64 (n : Int)), (5, .slice (some ⟨bx, ox, none⟩) n xc), (7, z.2.1), (8, .int .i64 (z.1 : Int))])
    (fun z w' => z.1 ≤ n ∧ w1.heap.size ≤ w'.heap.size ∧ InsR z.2.2.1 ((aug n A).take z.1) z.2.2.2 ∧ Sep Tryd.prog w1.heap.size w1 w' (.row 22 1 z.2.1 z.1 z.2.2.1 :: z.2.2.2)) (fun z => n - z.1) (0, .slice none 0 0, [], []) ⟨rfl, rfl, rfl, rfl, rfl, trivial⟩ ⟨Nat.zero_le _, hB, by simpa using InsR.nil [], hL.nilRow 22 1⟩ ?_
  clear hL hB
  rintro ⟨i, wv, us, Rs⟩ w ⟨hi, hB, hus, hL⟩
  dsimp only at hi hus hL
  have husl : us.length = i := by rw [hus.len, List.length_take, aug_len]; omega
  obtain ⟨wa, wc, rfl⟩ := (hL.rowN (i := 0) rfl).shape
  repeat (first | (refine RunH ?_; intro w hL hB; try clear w) | (refine Both.mk ?_ ?_ <;> conv => whnf) | fail)
  refine Br.dec (fun hlt => ?_) (fun hlt => ?_)
  · have hin : i < n := by omega
    obtain ⟨ui, hui, hsi⟩ := hiA.get (rw_some (show i < A.length by omega))
    obtain ⟨xi, hxi, hsxi⟩ := hio.get (show (oneM n)[i]? = some (oneRow n i) by simp [oneM, hin])
    obtain ⟨ai, ci, rfl⟩ := hsi.shape
    obtain ⟨axi, cxi, rfl⟩ := hsxi.shape
    rw [bv_length, hAr i hin] at hui hsi
    rw [bv_length, oneRow_len] at hxi hsxi
    have hrow1 : ∀ {x : World} {L' : List Res}, Sep Tryd.prog w1.heap.size w1 x L' → Row x b1 o1 cs := fun h => (hrA.below h.below).toN.rowOf
    have hrow2 : ∀ {x : World} {L' : List Res}, Sep Tryd.prog w1.heap.size w1 x L' → Row x bx ox os := fun h => (hos.below h.below).toN.rowOf
    repeat (first | (refine RunH ?_; intro w hL hB; try clear w) | (refine Both.mk ?_ ?_ <;> conv => whnf) | fail)
    refine V.treeP ttOk hL 0 (.q 0 (.q 2 (.q 3 (.q 4 (.q 5 (.q 7 (.q 8 (.q 9 (.q 10 (.alt 1 (.alt 6 (.alt 11 (.alt 12 (.alt 13 (.q 14 .nil) .stop) .stop) .stop) .stop) .stop)))))))))) mixed (by decide +kernel) ?_
    replace hL := hL.drew
    conv => whnf
    repeat (first | (refine RunH ?_; intro w hL hB; try clear w) | (refine Both.mk ?_ ?_ <;> conv => whnf) | fail)
    intro o3 ho3
    conv => whnf
    refine Lq.of_class (fun x hx => Ld.row1 ttOk (hrow1 hx) rfl rfl (k := i) hui (by dsimp only at ho3; omega) rfl) ?_
    conv => whnf
    repeat (first | (refine RunH ?_; intro w hL hB; try clear w) | (refine Both.mk ?_ ?_ <;> conv => whnf) | fail)
    intro o4 ho4
    conv => whnf
    refine Lq.of_class (fun x hx => Ld.row1 ttOk (hrow2 hx) rfl rfl (k := i) hxi (by dsimp only at ho4; omega) rfl) ?_
    conv => whnf
    repeat (first | (refine RunH ?_; intro w hL hB; try clear w) | (refine Both.mk ?_ ?_ <;> conv => whnf) | fail)
    refine Rv.buildS (len := 0) (vs := []) ttOk hL tl22 tl5 rfl rfl (by intro u hu; cases hu) (by decide) (by decide) hB fun bo w hL hB => ?_
    conv => whnf
    repeat (first | (refine RunH ?_; intro w hL hB; try clear w) | (refine Both.mk ?_ ?_ <;> conv => whnf) | fail)
    refine Rv.appendS ttOk hL tl22 tl5 rfl (by decide) 0 rfl (hsi.below hL.below).toN (bv_one _) (by rw [bv_length, hAr i hin]; simp only [maxLen]; omega) (by rw [bv_length, hAr i hin]; omega) hB fun v1 w hL hB => ?_
    dsimp only [List.set] at hL
    conv => whnf
    repeat (first | (refine RunH ?_; intro w hL hB; try clear w) | (refine Both.mk ?_ ?_ <;> conv => whnf) | fail)
    refine Rv.appendS ttOk hL tl22 tl5 rfl (by decide) 0 rfl (hsxi.below hL.below).toN (bv_one _) (by rw [bv_length, hAr i hin, bv_length, oneRow_len]; simp only [maxLen]; omega) (by rw [bv_length, hAr i hin, bv_length, oneRow_len]; omega) hB fun v2 w hL hB => ?_
    dsimp only [List.set] at hL
    have e1 : 0 + (bv (rw_ A i)).length + (bv (oneRow n i)).length = (rw_ A i ++ oneRow n i).length := by rw [bv_length, bv_length, List.length_append]; omega
    have e2 : List.flatMap cellsL [] ++ bv (rw_ A i) ++ bv (oneRow n i) = bv (rw_ A i ++ oneRow n i) := by rw [bv_append]; rfl
    rw [e1, e2] at hL
    obtain ⟨va, vc, rfl⟩ := (hL.rowN (i := 0) rfl).shape
    conv => whnf
    repeat (first | (refine RunH ?_; intro w hL hB; try clear w) | (refine Both.mk ?_ ?_ <;> conv => whnf) | fail)
    refine Rv.buildS ttOk hL tl29 tl22 rfl rfl (by intro u hu; simp only [List.mem_singleton] at hu; subst hu; rfl) (by decide) (by decide) hB fun bo2 w hL hB => ?_
    conv => whnf
    repeat (first | (refine RunH ?_; intro w hL hB; try clear w) | (refine Both.mk ?_ ?_ <;> conv => whnf) | fail)
    refine Rv.appendS ttOk hL tl29 tl22 rfl (by decide) 2 rfl (hL.rowN (i := 0) rfl) (allOne_mem rfl) (by simp only [maxLen]; omega) (by omega) hB fun vp w hL hB => ?_
    dsimp only [List.set] at hL
    replace hL := hL.tl
    conv => whnf
    repeat (first | (refine RunH ?_; intro w hL hB; try clear w) | (refine Both.mk ?_ ?_ <;> conv => whnf) | fail)
    refine ⟨(i + 1, vp, us ++ [_], bR _ (rw_ A i ++ oneRow n i) :: Rs), ⟨rfl, rfl, rfl, rfl, rfl, trivial⟩, ⟨by dsimp only; omega, hB, ?_, hL.perm (.swap _ _ _)⟩, (by first | omega | (dsimp only; omega))⟩
    dsimp only
    rw [aug_take hin]
    exact (hus.cons _).snoc (List.mem_cons_self ..)
  obtain rfl : n = i := by omega
  rw [List.take_of_length_le (by rw [aug_len]; exact Nat.le_refl _)] at hus
  obtain ⟨⟨g, rfl⟩, hwc⟩ := own_addr (hL.at (i := 0) rfl) (by omega)
  have hG0 : GInv n A 0 (aug n A) (List.range 0) := GInv.zero (aug_len n A) hAr fun k hk => aug_rw hk
  generalize aug n A = rows0 at *
  clear hiA hrA hio hmat hu0 hlt husl hos
  repeat (first | (refine RunH ?_; intro w hL hB; try clear w) | (refine Both.mk ?_ ?_ <;> conv => whnf) | fail)
  refine V.loop (α := Nat × List (List UInt8) × List Value × List Res) (fun z => [(4, .int .i64 (n : Int)), (7, .slice (some ⟨g, 0, none⟩) n wc), (9, .int .i64 (z.1 : Int))])
    (fun z w' => z.1 ≤ n ∧ GInv n A z.1 z.2.1 (List.range z.1) ∧ InsR z.2.2.1 z.2.1 z.2.2.2 ∧ w1.heap.size ≤ w'.heap.size ∧ Sep Tryd.prog w1.heap.size w1 w' (.row 22 1 (.slice (some ⟨g, 0, none⟩) n wc) n z.2.2.1 :: z.2.2.2)) (fun z => n - z.1) (0, rows0, us, Rs) ⟨rfl, rfl, rfl, trivial⟩ ⟨Nat.zero_le _, hG0, hus, hB, hL⟩ ?_
  repeat clear hL
  repeat clear hB
  clear hus hG0 hi
  rintro ⟨c, rows, us, Rs⟩ w ⟨hc, hG, hus, hB, hL⟩
  dsimp only at hc hG hus hL
  have husl : us.length = n := by rw [hus.len, hG.len]
  repeat (first | (refine RunH ?_; intro w hL hB; try clear w) | (refine Both.mk ?_ ?_ <;> conv => whnf) | fail)
  refine Br.dec (fun hlt => ?_) (fun hlt => ?_)
  · have hcn : c < n := by omega
    repeat (first | (refine RunH ?_; intro w hL hB; try clear w) | (refine Both.mk ?_ ?_ <;> conv => whnf) | fail)
    refine V.loop (α := Nat) (fun p => [(4, .int .i64 (n : Int)), (7, .slice (some ⟨g, 0, none⟩) n wc), (9, .int .i64 (c : Int)), (10, .int .i64 (p : Int))])
      (fun p w' => c ≤ p ∧ p ≤ n ∧ (∀ q, c ≤ q → q < p → (rw_ rows q).getD c 0 = 0) ∧ w' = w) (fun p => n - p) c ⟨rfl, rfl, rfl, rfl, trivial⟩ ⟨Nat.le_refl _, hc, fun q h3 h4 => by omega, rfl⟩ ?_
    rintro p w2 ⟨hcp, hpn, hz0, hww⟩
    replace hww := hww.symm
    subst hww
    rcases (show p = n ∨ p < n by omega) with hpe | hpl
    · exfalso
      obtain ⟨q, q1, q2, q3⟩ := hG.pickR hI hcn
      exact q3 (hz0 q q1 (by omega))
    obtain ⟨up, hup, hgp, hmp⟩ := hus.get (i := p) (by rw [hG.len]; exact hpl)
    have hsp : Sl w up (bv (rw_ rows p)) := bR_sl (hL.hold _ (by simp [hmp]))
    obtain ⟨pa, pc, rfl⟩ := hsp.shape
    rw [bv_length, hG.row p hpl] at hup hsp hmp
    obtain ⟨pb, po, rfl, hrp⟩ := hsp.addr (by omega)
    have hgj : (bv (rw_ rows p))[c]? = some (u8 ((rw_ rows p).getD c 0)) := by
      have : c < (rw_ rows p).length := by rw [hG.row p hpl]; omega
      simp [bv, List.getD, this]
    repeat (first | (refine RunH ?_; intro w hL hB; try clear w) | (refine Both.mk ?_ ?_ <;> conv => whnf) | fail)
    intro o3 ho3
    conv => whnf
    repeat (first | (refine RunH ?_; intro w hL hB; try clear w) | (refine Both.mk ?_ ?_ <;> conv => whnf) | fail)
    refine Ld.row1 ttOk (hL.rowN (i := 0) rfl).rowOf rfl rfl (k := p) hup (by omega) ?_
    conv => whnf
    repeat (first | (refine RunH ?_; intro w hL hB; try clear w) | (refine Both.mk ?_ ?_ <;> conv => whnf) | fail)
    intro o4 ho4
    conv => whnf
    repeat (first | (refine RunH ?_; intro w hL hB; try clear w) | (refine Both.mk ?_ ?_ <;> conv => whnf) | fail)
    refine Ld.row1 ttOk hrp rfl rfl (k := c) hgj (by omega) ?_
    conv => whnf
    repeat (first | (refine RunH ?_; intro w hL hB; try clear w) | (refine Both.mk ?_ ?_ <;> conv => whnf) | fail)
    refine Br.dec (fun hz => ?_) (fun hz => ?_)
    · repeat (first | (refine RunH ?_; intro w hL hB; try clear w) | (refine Both.mk ?_ ?_ <;> conv => whnf) | fail)
      refine ⟨p + 1, ⟨rfl, rfl, rfl, rfl, trivial⟩, ⟨by omega, by omega, fun q h3 h4 => ?_, rfl⟩, (by first | omega | (dsimp only; omega))⟩
      by_cases hqp : q = p
      · subst hqp
        exact UInt8.toNat_inj.1 (by simpa using hz)
      · exact hz0 q h3 (by omega)
    have hne : (rw_ rows p).getD c 0 ≠ 0 := fun e => hz (by rw [e]; rfl)
    clear hz hz0
    obtain ⟨uc, huc, hgc, hmc⟩ := hus.get (i := c) (by rw [hG.len]; exact hcn)
    have hsc : Sl w uc (bv (rw_ rows c)) := bR_sl (hL.hold _ (by simp [hmc]))
    obtain ⟨ca, cc, rfl⟩ := hsc.shape
    rw [bv_length, hG.row c hcn] at huc hmc hsc
    repeat (first | (refine RunH ?_; intro w hL hB; try clear w) | (refine Both.mk ?_ ?_ <;> conv => whnf) | fail)
    intro o5 ho5
    conv => whnf
    repeat (first | (refine RunH ?_; intro w hL hB; try clear w) | (refine Both.mk ?_ ?_ <;> conv => whnf) | fail)
    refine Ld.row1 ttOk (hL.rowN (i := 0) rfl).rowOf rfl rfl (k := p) hup (by omega) ?_
    conv => whnf
    repeat (first | (refine RunH ?_; intro w hL hB; try clear w) | (refine Both.mk ?_ ?_ <;> conv => whnf) | fail)
    intro o6 ho6
    conv => whnf
    repeat (first | (refine RunH ?_; intro w hL hB; try clear w) | (refine Both.mk ?_ ?_ <;> conv => whnf) | fail)
    refine Ld.row1 ttOk (hL.rowN (i := 0) rfl).rowOf rfl rfl (k := c) huc (by omega) ?_
    conv => whnf
    repeat (first | (refine RunH ?_; intro w hL hB; try clear w) | (refine Both.mk ?_ ?_ <;> conv => whnf) | fail)
    intro o7 ho7
    obtain rfl : p = o7 := by omega
    conv => whnf
    refine St.rowS ttOk hL 0 rfl rfl rfl rfl (by rw [husl]; show p + 1 ≤ _; omega) hB (fun w hL hB => ?_)
    dsimp only [List.set, cellsL] at hL
    rw [splice_one (by rw [husl]; omega)] at hL
    conv => whnf
    repeat (first | (refine RunH ?_; intro w hL hB; try clear w) | (refine Both.mk ?_ ?_ <;> conv => whnf) | fail)
    have hsp := bR_sl (hL.hold _ (mem1 hmp))
    have hrp := hsp.toN.rowOf
    intro o8 ho8
    conv => whnf
    repeat (first | (refine RunH ?_; intro w hL hB; try clear w) | (refine Both.mk ?_ ?_ <;> conv => whnf) | fail)
    refine Ld.row1 ttOk hrp rfl rfl (k := c) hgj (by omega) ?_
    conv => whnf
    repeat (first | (refine RunH ?_; intro w hL hB; try clear w) | (refine Both.mk ?_ ?_ <;> conv => whnf) | fail)
    refine (rib_fn ((rw_ rows p).getD c 0) _).mono fun r w' ⟨hw', hr'⟩ => ?_
    subst hr'
    replace hw' := hw'.symm
    subst hw'
    rw [rib_gib]
    conv => whnf
    repeat (first | (refine RunH ?_; intro w hL hB; try clear w) | (refine Both.mk ?_ ?_ <;> conv => whnf) | fail)
    refine (scaleR_fn _ _ (gib ((rw_ rows p).getD c 0)) _ hsp (by rw [hG.row p hpl]; omega)).mono fun r w ⟨hown, hbl⟩ => ?_
    replace hL := hL.addRow hB hbl hown
    replace hB := Nat.le_trans hB hbl.size
    clear hown hbl hrp hsp
    obtain ⟨va, vc, rfl⟩ := (hL.rowN (i := 0) rfl).shape
    conv => whnf
    repeat (first | (refine RunH ?_; intro w hL hB; try clear w) | (refine Both.mk ?_ ?_ <;> conv => whnf) | fail)
    intro o9 ho9
    obtain rfl : c = o9 := by omega
    conv => whnf
    refine St.rowS ttOk hL 1 rfl rfl rfl rfl (by rw [List.length_set, husl]; show c + 1 ≤ _; omega) hB (fun w hL hB => ?_)
    dsimp only [List.set, cellsL] at hL
    rw [splice_one (by rw [List.length_set, husl]; omega)] at hL
    have hus0 : InsR ((us.set p (.slice ca (2 * n) cc)).set c (.slice va (scl (rw_ rows p) (gib ((rw_ rows p).getD c 0))).length vc)) (rowsP (swapR rows p c) n c c 0) (bR (.slice va (scl (rw_ rows p) (gib ((rw_ rows p).getD c 0))).length vc) (scl (rw_ rows p) (gib ((rw_ rows p).getD c 0))) :: Rs) := by
      rw [swap_zero hG.len hpl hcn]
      exact ((hus.cons _).set p (mem1 hmc)).set c (List.mem_cons_self ..)
    have hGs : GInv n A c (swapR rows p c) (List.range c) := hG.swap hpl hcn (by simp; omega) (by simp)
    have hne' : (rw_ (swapR rows p c) c).getD c 0 ≠ 0 := by
      rw [swapR_rw (by rw [hG.len]; exact hpl) (by rw [hG.len]; exact hcn), if_pos rfl]
      exact hne
    replace hL := hL.perm (List.Perm.swap _ _ _)
    change Sep _ _ _ _ (_ :: bR (.slice va (scl (rw_ rows p) (gib ((rw_ rows p).getD c 0))).length vc) (scl (rw_ rows p) (gib ((rw_ rows p).getD c 0))) :: Rs) at hL
    generalize (bR (.slice va (scl (rw_ rows p) (gib ((rw_ rows p).getD c 0))).length vc) (scl (rw_ rows p) (gib ((rw_ rows p).getD c 0))) :: Rs) = Rs0 at *
    generalize (us.set p (.slice ca (2 * n) cc)).set c (.slice va (scl (rw_ rows p) (gib ((rw_ rows p).getD c 0))).length vc) = us0 at *
    conv => whnf
    clear hus hup hgp hmp husl huc hgc hmc hgj hne hG
    revert hus0 hGs hne'
    generalize swapR rows p c = rows'
    revert rows'
    intro rows hG hne hus0
    repeat (first | (refine RunH ?_; intro w hL hB; try clear w) | (refine Both.mk ?_ ?_ <;> conv => whnf) | fail)
    refine V.loop (α := Nat × List Value × List Res) (fun z => [(4, .int .i64 (n : Int)), (7, .slice (some ⟨g, 0, none⟩) n wc), (9, .int .i64 (c : Int)), (12, .int .i64 (z.1 : Int))])
      (fun z w' => z.1 ≤ n ∧ InsR z.2.1 (rowsP rows n c c z.1) z.2.2 ∧ w1.heap.size ≤ w'.heap.size ∧ Sep Tryd.prog w1.heap.size w1 w' (.row 22 1 (.slice (some ⟨g, 0, none⟩) n wc) n z.2.1 :: z.2.2)) (fun z => n - z.1) (0, us0, Rs0) ⟨rfl, rfl, rfl, rfl, trivial⟩ ⟨Nat.zero_le _, hus0, hB, hL⟩ ?_
    repeat clear hL
    repeat clear hB
    clear hus0
    rintro ⟨i, us, Rs⟩ w ⟨hi, hus, hB, hL⟩
    dsimp only at hi hus hL
    have husl : us.length = n := by rw [hus.len, rowsP_len]
    repeat (first | (refine RunH ?_; intro w hL hB; try clear w) | (refine Both.mk ?_ ?_ <;> conv => whnf) | fail)
    refine Br.dec (fun hlt => ?_) (fun hlt => ?_)
    · have hin : i < n := by omega
      by_cases hip : i = c
      · repeat (first | (refine RunH ?_; intro w hL hB; try clear w) | (refine Both.mk ?_ ?_ <;> conv => whnf) | fail)
        refine ⟨(i + 1, us, Rs), ⟨rfl, rfl, rfl, rfl, trivial⟩, ⟨by dsimp only; omega, ?_, hB, hL⟩, (by first | omega | (dsimp only; omega))⟩
        dsimp only
        rw [rowsP_stay hG.row hcn hin (.inl hip)]
        exact hus
      obtain ⟨ui, hui, _, hmi⟩ := hus.get (i := i) (by rw [rowsP_len]; exact hin)
      obtain ⟨up, hup, _, hmp⟩ := hus.get (i := c) (by rw [rowsP_len]; exact hcn)
      rw [rowsP_rw hin, if_neg (by omega)] at hmi
      rw [rowsP_rw hcn, if_pos (.inl rfl), elimR, if_pos rfl] at hmp
      have hil := hG.row i hin
      have hPl : (scl (rw_ rows c) (gib ((rw_ rows c).getD c 0))).length = 2 * n := by rw [scl_len, hG.row c hcn]
      have hadd := rowsP_add (rows := rows) (j := c) hcn hin hip
      generalize scl (rw_ rows c) (gib ((rw_ rows c).getD c 0)) = P at *
      have hgj : (bv (rw_ rows i))[c]? = some (u8 ((rw_ rows i).getD c 0)) := by
        have : c < (rw_ rows i).length := by rw [hil]; omega
        simp [bv, List.getD, this]
      generalize rw_ rows i = ri at *
      have hsi := bR_sl (hL.hold _ (mem1 hmi))
      have hsP := bR_sl (hL.hold _ (mem1 hmp))
      obtain ⟨ia, ic, rfl⟩ := hsi.shape
      obtain ⟨pa, pc, rfl⟩ := hsP.shape
      rw [bv_length, hil] at hui hsi hmi
      rw [bv_length, hPl] at hup hsP hmp
      obtain ⟨ib, io, rfl, hri⟩ := hsi.addr (by omega)
      clear hsi hri
      generalize ri.getD c 0 = ci at *
      repeat (first | (refine RunH ?_; intro w hL hB; try clear w) | (refine Both.mk ?_ ?_ <;> conv => whnf) | fail)
      refine V.treeP ttOk hL 0 (.q 0 (.q 1 (.q 2 (.q 3 (.q 4 (.q 6 (.q 7 (.q 8 (.q 10 (.q 11 (.q 12 (.q 14 (.alt 5 (.alt 9 (.alt 13 (.q 15 (.q 16 (.alt 17 (.alt 18 (.q 19 (.alt 20 .nil .stop)) .stop) .stop))) .stop) (.alt 13 (.q 15 (.q 16 (.alt 9 (.alt 17 (.alt 18 (.q 19 (.alt 20 .nil .stop)) .stop) .stop) .stop))) .stop)) (.alt 9 (.alt 5 (.alt 13 (.q 15 (.q 16 (.alt 17 (.alt 18 (.q 19 (.alt 20 .nil .stop)) .stop) .stop))) .stop) (.alt 13 (.q 15 (.q 16 (.alt 5 (.alt 17 (.alt 18 (.q 19 (.alt 20 .nil .stop)) .stop) .stop) (.alt 17 (.alt 5 (.alt 18 (.q 19 (.alt 20 .nil .stop)) .stop) .stop) .stop)))) .stop)) (.alt 13 (.q 15 (.q 16 (.alt 5 (.alt 9 (.alt 17 (.alt 18 (.q 19 (.alt 20 .nil .stop)) .stop) .stop) .stop) (.alt 9 (.alt 5 (.alt 17 (.alt 18 (.q 19 (.alt 20 .nil .stop)) .stop) .stop) (.alt 17 (.alt 5 (.alt 18 (.q 19 (.alt 20 .nil .stop)) .stop) .stop) .stop)) .stop)))) .stop))))))))))))))) mixed (by decide +kernel) ?_
      replace hL := hL.drew
      conv => whnf
      have hPl2 : P.length ≤ 140737488355328 := by omega
      have hil2 : ri.length ≤ 140737488355328 := by omega
      have hre : (scl P ci).length = ri.length := by rw [scl_len]; omega
      repeat' (first | (refine RunH ?_; intro w hL hB; try clear w) | (refine Br.dec (fun hbr => ?_) (fun hbr => ?_) <;> conv => whnf) | (refine Br.mk (fun hbr => ?_) (fun hbr => ?_) <;> conv => whnf) | (refine Both.mk ?_ ?_ <;> conv => whnf) | (intro o9 ho9; conv => whnf) | (refine Ld.row1 ttOk (hL.rowN (i := 0) rfl).rowOf rfl rfl (k := i) hui (by omega) ?_; conv => whnf) | (refine Ld.row1 ttOk (hL.rowN (i := 0) rfl).rowOf rfl rfl (k := c) hup (by omega) ?_; conv => whnf) | (refine Ld.row1 ttOk (hL.rowN (i := 1) rfl).rowOf rfl rfl (k := i) hui (by omega) ?_; conv => whnf) | (refine Lq.of_class (fun x hx => Ld.row1 ttOk (bR_sl (hx.hold _ hmi)).toN.rowOf rfl rfl (k := c) hgj (by omega) rfl) ?_; conv => whnf) | (refine (scaleR_fn _ _ ci _ (bR_sl (hL.hold _ (mem1 hmp))) hPl2).mono fun r w hr9 => ?_; obtain ⟨hown, hbl⟩ := hr9; replace hL := hL.addRow hB hbl hown; replace hB := Nat.le_trans hB hbl.size; obtain ⟨sa, sc, rfl⟩ := (hL.rowN (i := 0) rfl).shape; clear hown hbl; conv => whnf) | (refine (addR_fn _ _ ri (scl P ci) _ (bR_sl (hL.hold _ (mem2 hmi))) (hL.row (i := 0) rfl) hre hil2).mono fun r w hr9 => ?_; obtain ⟨hown, hbl⟩ := hr9; replace hL := hL.addRow hB hbl hown; replace hB := Nat.le_trans hB hbl.size; obtain ⟨ta, tc, rfl⟩ := (hL.rowN (i := 0) rfl).shape; clear hown hbl; conv => whnf) | fail)
      all_goals
        obtain rfl : i = o9 := by omega
        refine St.rowS ttOk hL 2 rfl rfl rfl rfl (by rw [husl]; show i + 1 ≤ _; omega) hB (fun w hL hB => ?_)
        dsimp only [List.set, cellsL] at hL
        rw [splice_one (by rw [husl]; omega)] at hL
        conv => whnf
        repeat (first | (refine RunH ?_; intro w hL hB; try clear w) | (refine Both.mk ?_ ?_ <;> conv => whnf) | fail)
        refine ⟨(i + 1, us.set i _, bR (.slice ta (addR ri (scl P ci)).length tc) (addR ri (scl P ci)) :: Rs), ⟨rfl, rfl, rfl, rfl, trivial⟩, ⟨by dsimp only; omega, ?_, hB, (hL.pop 1).perm (List.Perm.swap _ _ _)⟩, (by first | omega | (dsimp only; omega))⟩
        dsimp only
        rw [hadd]
        exact (hus.cons _).set i (List.mem_cons_self ..)
    · obtain rfl : n = i := by omega
      repeat (first | (refine RunH ?_; intro w hL hB; try clear w) | (refine Both.mk ?_ ?_ <;> conv => whnf) | fail)
      refine ⟨(c + 1, rowsP rows n c c n, us, Rs), ⟨rfl, rfl, rfl, trivial⟩, ⟨by dsimp only; omega, ?_, hus, hB, hL⟩, (by first | omega | (dsimp only; omega))⟩
      dsimp only
      rw [List.range_succ]
      exact hG.step hcn (by simp) hne (rowsP_len ..) rowsP_full
  obtain rfl : n = c := by omega
  obtain ⟨C, hC⟩ : ∃ C, C = (List.range n).map fun i => (rw_ rows i).drop n := ⟨_, rfl⟩
  have hinv := hG.inv
  rw [← hC] at hinv
  have hiu : Ins w us rows := (hus.cons _).ins hL
  have hsu : Sl w (.slice (some ⟨g, 0, none⟩) n wc) us := hL.row (i := 0) rfl
  have hW2 := hW1.trans (hL.below.mono hW1.size)
  clear hL hB
  have hL := Sep.start Tryd.prog w
  have hB := Nat.le_refl w.heap.size
  repeat (first | (refine RunH ?_; intro w hL hB; try clear w) | (refine Both.mk ?_ ?_ <;> conv => whnf) | fail)
  refine V.loop (α := Nat × Value × List Value) (fun z => [(4, .int .i64 (n : Int)), (7, .slice (some ⟨g, 0, none⟩) n wc), (13, z.2.1), (14, .int .i64 (z.1 : Int))])
    (fun z w' => z.1 ≤ n ∧ Ins w z.2.2 (C.take z.1) ∧ w.heap.size ≤ w'.heap.size ∧ Sep Tryd.prog w.heap.size w w' [.row 22 1 z.2.1 z.1 z.2.2]) (fun z => n - z.1) (0, .slice none 0 0, []) ⟨rfl, rfl, rfl, rfl, trivial⟩ ⟨Nat.zero_le _, by simpa using Ins.nil w, hB, hL.nilRow 22 1⟩ ?_
  clear hL hB hus
  rintro ⟨k, ov, ns⟩ w ⟨hk, hns, hB, hL⟩
  dsimp only at hk hns hL
  have hnsl : ns.length = k := by rw [hns.len, List.length_take, hinv.len]; omega
  obtain ⟨oa, oc, rfl⟩ := (hL.rowN (i := 0) rfl).shape
  repeat (first | (refine RunH ?_; intro w hL hB; try clear w) | (refine Both.mk ?_ ?_ <;> conv => whnf) | fail)
  refine Br.dec (fun hlt => ?_) (fun hlt => ?_)
  · have hkn : k < n := by omega
    have hCk : C[k]? = some ((rw_ rows k).drop n) := by rw [hC]; simp [hkn]
    obtain ⟨uk, huk, hsk⟩ := hiu.get (rw_some (show k < rows.length by rw [hG.len]; omega))
    have hkl := hG.row k hkn
    generalize rw_ rows k = rk at *
    obtain ⟨ka, kc, rfl⟩ := hsk.shape
    rw [bv_length, hkl] at huk hsk
    obtain ⟨kb, ko, rfl, _⟩ := hsk.addr (by omega)
    obtain ⟨q1, q2, q3⟩ := hsk.len
    rw [bv_length, hkl] at q1
    repeat (first | (refine RunH ?_; intro w hL hB; try clear w) | (refine Both.mk ?_ ?_ <;> conv => whnf) | fail)
    intro o3 ho3
    conv => whnf
    repeat (first | (refine RunH ?_; intro w hL hB; try clear w) | (refine Both.mk ?_ ?_ <;> conv => whnf) | fail)
    refine Ld.row1 ttOk (hsu.below hL.below).toN.rowOf rfl rfl (k := k) huk (by omega) ?_
    conv => whnf
    repeat (first | (refine RunH ?_; intro w hL hB; try clear w) | (refine Both.mk ?_ ?_ <;> conv => whnf) | fail)
    intro o5 n5 c5 ho5 ho52 hn5 hc5
    obtain rfl : n = n5 := by omega
    have hsd := hsk.drop (k := n) (o' := o5) (n' := n) (c' := c5) (by rw [bv_length]; omega) (fun h => by have := ho5 (by omega); omega) (by omega) (by omega)
    rw [← bv_drop] at hsd
    have hdl : (rk.drop n).length = n := by rw [List.length_drop]; omega
    generalize rk.drop n = rd at *
    conv => whnf
    repeat (first | (refine RunH ?_; intro w hL hB; try clear w) | (refine Both.mk ?_ ?_ <;> conv => whnf) | fail)
    refine Rv.buildS ttOk hL tl29 tl22 rfl rfl (by intro u hu; simp only [List.mem_singleton] at hu; subst hu; rfl) (by decide) (by decide) hB fun bo2 w hL hB => ?_
    conv => whnf
    refine Rv.appendS ttOk hL tl29 tl22 rfl (by decide) 1 rfl (hL.rowN (i := 0) rfl) (allOne_mem rfl) (by simp only [maxLen]; omega) (by omega) hB fun vp w hL hB => ?_
    dsimp only [List.set] at hL
    replace hL := hL.tl
    conv => whnf
    repeat (first | (refine RunH ?_; intro w hL hB; try clear w) | (refine Both.mk ?_ ?_ <;> conv => whnf) | fail)
    refine ⟨(k + 1, vp, ns ++ [_]), ⟨rfl, rfl, rfl, rfl, trivial⟩, ⟨by dsimp only; omega, ?_, hB, hL⟩, (by first | omega | (dsimp only; omega))⟩
    dsimp only
    rw [List.take_add_one, hCk]
    exact hns.snoc hsd
  · obtain rfl : n = k := by omega
    rw [List.take_of_length_le (by rw [hinv.len]; exact Nat.le_refl _)] at hns
    repeat (first | (refine RunH ?_; intro w hL hB; try clear w) | (refine Both.mk ?_ ?_ <;> conv => whnf) | fail)
    exact ⟨_, C, hinv, sl_ss (hL.row (i := 0) rfl) (hns.below hL.below), rfl, hW2.trans (hL.below.mono hW2.size)⟩
end Go.Proofs.YtlldgodjfpgbcaaDoor
