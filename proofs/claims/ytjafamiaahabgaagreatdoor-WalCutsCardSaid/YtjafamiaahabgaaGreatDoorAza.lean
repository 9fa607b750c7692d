/- wal: the law WalCuts. Nothing is claimed here. -/
import Derived.Test.YtjafamiaahabgaaGreatDoorAz
namespace Go.Proofs.YtjafamiaahabgaaGreatDoor
open Go.RowKit Go.Lib
set_option linter.unusedVariables false
set_option linter.unusedSimpArgs false
set_option maxRecDepth 100000

set_option maxHeartbeats 16000000 in
theorem walCuts_fn (v : Value) (xs : List (Value × List UInt8)) (at_ : Int) (vf : Value) (fr : List UInt8) (w0 : World) (htab : TabIs Tryz.prog w0 "internal/strconv.uint64pow10" .u64 pow10Tab) (hs : Sl w0 v (xs.map (·.1))) (hxs : ∀ p ∈ xs, Sl w0 p.1 (bv p.2) ∧ p.2.length ≤ 140737488355328) (hat : (Lit.int .i64 at_).wf = true) (hf : Sl w0 vf (bv fr)) (hfl : fr.length ≤ 140737488355328) :
    Fn Tryz.prog 4 #[v, .int .i64 at_, vf] w0 fun r w' => r = .bool true ∧ Below w0.heap.size w0 w' := by
  have hatr := i64_wf hat
  have ht : TabW w0.heap.size w0 := fun w h => tab_belowW htab h
  have hpw := wB_ok
  have hL := Sep.start Tryz.prog w0
  have hB := Nat.le_refl w0.heap.size
  have hle := hs.le
  obtain ⟨a, c, rfl⟩ := hs.shape
  obtain ⟨fa, fc, rfl⟩ := hf.shape
  simp only [List.length_map, bv_length] at *
  have elem : ∀ {L : List Res} {w' : World}, Sep Tryz.prog w0.heap.size w0 w' L → ∀ k (hk : k < xs.length), ∃ b o, a = some ⟨b, o, none⟩ ∧ Row w' b o (xs.map (·.1)) := fun h k hk => (h.sl hs rfl).addr (by omega)
  obtain ⟨sm, hsm⟩ : ∃ sm : Nat → Nat, sm = fun k => fr.length + wtW ((rB xs).take k) := ⟨_, rfl⟩
  have sm0 : sm 0 = fr.length := by rw [hsm]; simp [wtW]
  have smS : ∀ k (h : k < xs.length), sm (k + 1) = sm k + (10 + (xs[k]).2.length) := fun k h => by rw [hsm]; dsimp only; rw [wt_succ h]; omega
  have smN : sm xs.length = fr.length + wtW (rB xs) := by rw [hsm]; dsimp only; rw [List.take_of_length_le (by rw [rB_len]; exact Nat.le_refl _)]
  clear hsm
  refine Fn.mk Tryz.func4 rfl (by kernel_rfl) Tryz.ntmps4 rfl (by rw [Tryz.results4]) ?_
  repeat (first | (refine RunH ?_; intro w hL hB; try clear w) | (refine Both.mk ?_ ?_ <;> conv => whnf) | fail)
  refine V.loop (α := Nat) (fun k => [(0, .slice a xs.length c), (1, .int .i64 at_), (2, .slice fa fr.length fc), (7, .int .i64 (sm k : Int)), (8, .int .i64 (k : Int))])
    (fun k w' => k ≤ xs.length ∧ sm k ≤ 140737488400000 ∧ Sep Tryz.prog w0.heap.size w0 w' [] ∧ w0.heap.size ≤ w'.heap.size) (fun k => xs.length - k) 0 ⟨rfl, rfl, rfl, vint (by rw [sm0]), rfl, trivial⟩ ⟨by omega, by omega, hL, hB⟩ ?_
  clear hL hB
  rintro k w ⟨hk, hsum, hL, hB⟩
  try dsimp only at *
  by_cases hgo : k < xs.length ∧ sm k ≤ 20000
  · obtain ⟨hlt, hsm⟩ := hgo
    have hm := hxs _ (List.getElem_mem hlt)
    obtain ⟨bb, o, rfl, hrow⟩ := elem hL k hlt
    have hsu := smS k hlt
    repeat (first | (refine RunH ?_; intro w hL hB; try clear w) | (refine Both.mk ?_ ?_ <;> conv => whnf) | fail)
    intro o1 ho1
    conv => whnf
    obtain ⟨pa, pc, hpv⟩ := hm.1.shape
    rw [bv_length] at hpv
    refine Ld.row1 ttOk hrow (k := k) tl23 rfl (by rw [List.getElem?_map, List.getElem?_eq_getElem hlt]; exact congrArg some hpv) (by omega) ?_
    conv => whnf
    repeat (first | (refine RunH ?_; intro w hL hB; try clear w) | (refine Both.mk ?_ ?_ <;> conv => whnf) | fail)
    exact ⟨k + 1, ⟨rfl, rfl, rfl, vint (by rw [hsu]; push_cast; omega), vint (by push_cast; omega), trivial⟩, ⟨by omega, by omega, hL, hB⟩, (by first | omega | (dsimp only; omega))⟩
  by_cases hbig : 20000 < sm k
  · by_cases hlt : k < xs.length
    · have h20 : ¬ sm k ≤ 20000 := fun h => hgo ⟨hlt, h⟩
      repeat (first | (refine RunH ?_; intro w hL hB; try clear w) | (refine Both.mk ?_ ?_ <;> conv => whnf) | fail)
      exact ⟨rfl, hL.below⟩
    · repeat (first | (refine RunH ?_; intro w hL hB; try clear w) | (refine Both.mk ?_ ?_ <;> conv => whnf) | fail)
      exact ⟨rfl, hL.below⟩
  have hke : k = xs.length := by
    rcases Nat.lt_or_ge k xs.length with h | h
    · exact absurd ⟨h, by omega⟩ hgo
    · omega
  subst hke
  have hlt : ¬ xs.length < xs.length := by omega
  have hwt : fr.length + wtW (rB xs) ≤ 20000 := by omega
  have hxl : xs.length ≤ 2000 := by
    have := wtW_len (rB xs)
    rw [rB_len] at this
    omega
  clear hsum hk hgo
  repeat (first | (refine RunH ?_; intro w hL hB; try clear w) | (refine Both.mk ?_ ?_ <;> conv => whnf) | fail)
  refine (new_fn 1048576 hL hB).mono fun r w hr => ?_
  obtain ⟨d, rfl, hD⟩ := hr.1 (by decide)
  replace hD : DkS w0.heap.size w0 w d 1048576 [] _ := hD
  clear hr hL hB
  obtain ⟨dL, hL, hB, close⟩ := hD.open
  clear hD
  conv => whnf
  repeat (first | (refine RunH ?_; intro w hL hB; try clear w) | (refine Both.mk ?_ ?_ <;> conv => whnf) | fail)
  refine (logOpen_fn (pre := wB) hpw ht (close (F' := []) hL hB)).mono fun r w ⟨l, hr, hG⟩ => ?_
  rw [open_nil] at hG
  replace hG : LgS w0.heap.size w0 w d l wB 1048576 (fsW wB []) (gsW []) 1 [] := hG
  subst hr
  clear hL hB close
  obtain ⟨X, hL, hB, back⟩ := hG.opn
  conv => whnf
  repeat (first | (refine RunH ?_; intro w hL hB; try clear w) | (refine Both.mk ?_ ?_ <;> conv => whnf) | fail)
  clear hL hB back
  refine V.loop (α := Nat) (fun k => [(0, .slice a xs.length c), (1, .int .i64 at_), (2, .slice fa fr.length fc), (9, ptr d), (11, ptr l), (13, .int .i64 (k : Int))])
    (fun k w' => k ≤ xs.length ∧ ∃ H, Lone 1 0 H (k + 1) ((rB xs).take k) ∧ LgS w0.heap.size w0 w' d l wB 1048576 (fsW wB H) (gsW H) (k + 1) []) (fun k => xs.length - k) 0 ⟨rfl, rfl, rfl, rfl, rfl, rfl, trivial⟩ ⟨by omega, [], Lone.nil, hG⟩ ?_
  clear hG hlt
  rintro k w ⟨hk, H, hlo, hG⟩
  try dsimp only at *
  obtain ⟨X, hL, hB, back⟩ := hG.opn
  clear hG
  by_cases hlt : k < xs.length
  · obtain ⟨bb, o, rfl, hrow⟩ := elem hL k hlt
    have hm := hxs _ (List.getElem_mem hlt)
    have hrk := rB_take hlt
    generalize hxk : xs[k] = x at *
    obtain ⟨xv, xl⟩ := x
    obtain ⟨pa, pc, hpv⟩ := hm.1.shape
    rw [bv_length] at hpv
    dsimp only at hpv hm hrk
    subst hpv
    repeat (first | (refine RunH ?_; intro w hL hB; try clear w) | (refine Both.mk ?_ ?_ <;> conv => whnf) | fail)
    intro o1 ho1
    conv => whnf
    refine Ld.row1 ttOk hrow (k := k) tl23 rfl (by rw [List.getElem?_map, List.getElem?_eq_getElem hlt, hxk]; rfl) (by omega) ?_
    conv => whnf
    repeat (first | (refine RunH ?_; intro w hL hB; try clear w) | (refine Both.mk ?_ ?_ <;> conv => whnf) | fail)
    refine (loneAppend_fn _ xl ht hlo (by rw [← hrk]; have := wt_take (rB xs) (k + 1); omega) (by omega) (by omega) (fun w' h => h.sl hm.1 rfl) (back (F' := []) hL hB)).mono fun r w ⟨H2, hr, hlo, hG⟩ => ?_
    subst hr
    rw [← hrk] at hlo
    clear hL hB back hrow
    conv => whnf
    repeat (first | (refine RunH ?_; intro w hL hB; try clear w) | (refine Both.mk ?_ ?_ <;> conv => whnf) | fail)
    exact ⟨k + 1, ⟨rfl, rfl, rfl, rfl, rfl, vint (by push_cast; omega), trivial⟩, ⟨by omega, H2, hlo, hG⟩, (by first | omega | (dsimp only; omega))⟩
  obtain rfl : k = xs.length := by omega
  have hrx : (rB xs).take xs.length = rB xs := List.take_of_length_le (by rw [rB_len]; exact Nat.le_refl _)
  rw [hrx] at hlo
  repeat (first | (refine RunH ?_; intro w hL hB; try clear w) | (refine Both.mk ?_ ?_ <;> conv => whnf) | fail)
  refine Rem.mk (by omega) ?_
  have ht1 := Int.tmod_lt_of_pos at_ (show 0 < (xs.length : Int) + 1 by omega)
  have ht2 := Int.lt_tmod_of_pos at_ (show 0 < (xs.length : Int) + 1 by omega)
  have ht3 : 0 ≤ at_ → 0 ≤ at_.tmod ((xs.length : Int) + 1) := fun h => Int.tmod_nonneg _ h
  generalize at_.tmod ((xs.length : Int) + 1) = a1 at *
  conv => whnf
  repeat (first | (refine Br.go ?_; first | ((first | refine Br.tt ?_ | refine Br.ff ?_ | refine Br.y ?_ | refine Br.n ?_ | refine Br.t ?_ | refine Br.f ?_ | fail); conv => whnf) | refine Br.not ?_ | fail) | (refine Ld.go ?_; first | ((first | refine Ld.x ttOk hL ?_ | refine Ld.p ttOk hL ?_ | fail); conv => whnf) | fail) | (refine St.x ttOk hL hB (fun w hL hB => ?_); dsimp only [List.set, splice, overL, cellsL, takeL, dropL, List.drop, List.take] at hL; conv => whnf) | (refine Lq.go ?_; first | ((first | refine Lq.x ttOk hL.cls ?_ | refine Lq.x ttOk (fun _ h => h) ?_ | refine Lq.p ttOk hL.cls ?_ | refine Lq.p ttOk (fun _ h => h) ?_ | fail); conv => whnf) | fail) | (refine Ar.go ?_; first | ((first | refine Ar.s ?_ | refine Ar.u ?_ | refine Ar.h ?_ | refine Ar.b ?_ | fail); conv => whnf) | fail) | ((first | refine Chk.m ?_ | refine Qv.str ttOk rfl rfl rfl ?_ | refine An.x hL ?_ | fail); conv => whnf) | (refine Both.mk ?_ ?_ <;> conv => whnf) | fail)
  refine V.seq ?_
  refine V.join (α := Nat) (fun q => [(0, .slice a xs.length c), (2, .slice fa fr.length fc), (9, ptr d), (11, ptr l), (14, .int .i64 (q : Int))]) (fun q w' => (1 ≤ q ∧ q ≤ xs.length + 1) ∧ w' = w) ?_ ?_
  · by_cases hneg : at_ < 0
    · repeat (first | (refine RunH ?_; intro w hL hB; try clear w) | (refine Both.mk ?_ ?_ <;> conv => whnf) | fail)
      exact ⟨1, ⟨rfl, rfl, rfl, rfl, rfl, trivial⟩, by omega, rfl⟩
    · have h3 := ht3 (by omega)
      repeat (first | (refine RunH ?_; intro w hL hB; try clear w) | (refine Both.mk ?_ ?_ <;> conv => whnf) | fail)
      exact ⟨(1 + a1).toNat, ⟨rfl, rfl, rfl, rfl, vint (by omega), trivial⟩, by omega, rfl⟩
  rintro q w' ⟨hq, hww⟩
  replace hww := hww.symm
  subst hww
  repeat (first | (refine RunH ?_; intro w hL hB; try clear w) | (refine Both.mk ?_ ?_ <;> conv => whnf) | fail)
  refine (loneCut_fn q hq ht hlo (back (F' := []) hL hB)).mono fun r w ⟨H2, hr, hlo2, hG⟩ => ?_
  subst hr
  clear hL hB back
  obtain ⟨X, hL, hB, back⟩ := hG.opn
  clear hG
  conv => whnf
  repeat (first | (refine RunH ?_; intro w hL hB; try clear w) | (refine Both.mk ?_ ?_ <;> conv => whnf) | fail)
  have hw2 : wtW ((rB xs).take (q - 1) ++ [fr]) ≤ 20010 := by
    have := wt_take (rB xs) (q - 1)
    have e : wtW [fr] = 10 + fr.length := by simp [wtW]
    rw [wtW_app, e]; omega
  refine (loneAppend_fn _ fr ht hlo2 hw2 (by omega) (by omega) (fun w' h => h.sl hf rfl) (back (F' := []) hL hB)).mono fun r w ⟨H3, hr, hlo3, hG⟩ => ?_
  subst hr
  clear hL hB back
  obtain ⟨X, hL, hB, back⟩ := hG.opn
  clear hG
  conv => whnf
  repeat (first | (refine RunH ?_; intro w hL hB; try clear w) | (refine Both.mk ?_ ?_ <;> conv => whnf) | fail)
  refine (loneSync_fn 0 ht hlo3 (back (F' := []) hL hB)).mono fun r w ⟨H4, hr, hlo4, hall, hG⟩ => ?_
  subst hr
  clear hL hB back
  obtain ⟨dL, hL, hB, close⟩ := hG.disk.open
  clear hG
  conv => whnf
  repeat (first | (refine RunH ?_; intro w hL hB; try clear w) | (refine Both.mk ?_ ?_ <;> conv => whnf) | fail)
  refine (crash_fn 0 (by decide) (close (F' := []) hL hB)).mono fun r w hD => ?_
  rw [crash_whole wB 0 H4 hall] at hD
  clear hL hB close
  obtain ⟨dL, hL, hB, close⟩ := hD.open
  clear hD
  conv => whnf
  repeat (first | (refine RunH ?_; intro w hL hB; try clear w) | (refine Both.mk ?_ ?_ <;> conv => whnf) | fail)
  have hne : H4 ≠ [] := by
    rintro rfl
    have := hlo4.ch
    have : 1 = q + 1 := this
    omega
  obtain ⟨G, ho1, hch, hfl2, ho2, ho3⟩ := hlo4.opened2 hne wB
  refine (logOpen_fn (pre := wB) hpw ht (close (F' := []) hL hB)).mono fun r w ⟨m, hr, hG⟩ => ?_
  rw [ho1, ho2, ho3] at hG
  subst hr
  clear hL hB close
  obtain ⟨X, hL, hB, back⟩ := hG.opn
  clear hG
  conv => whnf
  repeat (first | (refine RunH ?_; intro w hL hB; try clear w) | (refine Both.mk ?_ ?_ <;> conv => whnf) | fail)
  refine (logBounds_fn (back (F' := []) hL hB)).mono fun r w ⟨hr, hG⟩ => ?_
  subst hr
  clear hL hB back
  obtain ⟨X, hL, hB, back⟩ := hG.opn
  clear hG
  generalize lowW G (q + 1) = lo at *
  have htl : ((rB xs).take (q - 1)).length = q - 1 := by rw [List.length_take, rB_len]; omega
  have hwf : wtW (flatG G) ≤ 20010 := by rw [hfl2]; exact hw2
  have hx0 : (flatG G)[q - 1]? = some fr := by rw [hfl2, List.getElem?_append_right (by omega), htl]; simp
  conv => whnf
  repeat (first | (refine RunH ?_; intro w hL hB; try clear w) | (refine Both.mk ?_ ?_ <;> conv => whnf) | fail)
  refine (chGet_fn q hch (by omega) hwf hq.1 hx0 (back (F' := []) hL hB)).mono fun r w ⟨u, hr, hG⟩ => ?_
  subst hr
  clear hL hB back
  obtain ⟨X, hL, hB, back⟩ := hG.opn
  clear hG
  obtain ⟨ua, uc, rfl⟩ := (show SlN w 1 u _ _ from hL.rowN (i := 0) rfl).shape
  conv => whnf
  repeat (first | (refine RunH ?_; intro w hL hB; try clear w) | (refine Both.mk ?_ ?_ <;> conv => whnf) | fail)
  refine (same_fn _ _ fr fr _ (hL.row (i := 0) rfl) (hL.sl hf rfl)).mono fun r w ⟨hr, hw⟩ => ?_
  subst hr
  replace hL := hL.call hB (Turns.of_below hw)
  replace hB := Nat.le_trans hB hw.size
  rw [decide_eq_true rfl]
  conv => whnf
  repeat (first | (refine RunH ?_; intro w hL hB; try clear w) | (refine Both.mk ?_ ?_ <;> conv => whnf) | fail)
  replace hG := back (F' := [_]) hL hB
  clear hL hB back
  refine V.loop (α := Nat) (fun j => [(0, .slice a xs.length c), (14, .int .i64 (q : Int)), (17, ptr m), (23, .int .i64 ((j + 1 : Nat) : Int))])
    (fun j w' => j + 1 ≤ q ∧ ∃ F, LgS w0.heap.size w0 w' d m wB 1048576 (fsW wB H4) G (q + 1) F) (fun j => q - j) 0 ⟨rfl, rfl, rfl, rfl, trivial⟩ ⟨by omega, _, hG⟩ ?_
  clear hG
  rintro j w ⟨hj, F, hG⟩
  try dsimp only at *
  obtain ⟨X, hL, hB, back⟩ := hG.opn
  clear hG
  by_cases hlt : j + 1 < q
  · have hjx : j < xs.length := by omega
    obtain ⟨bb, o, rfl, hrow⟩ := elem hL j hjx
    have hm := hxs _ (List.getElem_mem hjx)
    have hx1 : (flatG G)[j + 1 - 1]? = some (xs[j]).2 := by
      rw [hfl2, List.getElem?_append_left (by omega), List.getElem?_take_of_lt (by omega), Nat.add_sub_cancel, rB, List.getElem?_map, List.getElem?_eq_getElem hjx]; rfl
    generalize hxk : xs[j] = x at *
    obtain ⟨xv, xl⟩ := x
    obtain ⟨pa, pc, hpv⟩ := hm.1.shape
    rw [bv_length] at hpv
    dsimp only at hpv hm hx1
    subst hpv
    repeat (first | (refine RunH ?_; intro w hL hB; try clear w) | (refine Both.mk ?_ ?_ <;> conv => whnf) | fail)
    refine (chGet_fn (j + 1) hch (by omega) hwf (by omega) hx1 (back (F' := F) hL hB)).mono fun r w ⟨u, hr, hG⟩ => ?_
    subst hr
    clear hL hB back hrow
    obtain ⟨X, hL, hB, back⟩ := hG.opn
    clear hG
    obtain ⟨ua, uc, rfl⟩ := (show SlN w 1 u _ _ from hL.rowN (i := 0) rfl).shape
    obtain ⟨_, _, heq, hrow⟩ := elem hL j hjx
    cases heq
    conv => whnf
    repeat (first | (refine RunH ?_; intro w hL hB; try clear w) | (refine Both.mk ?_ ?_ <;> conv => whnf) | fail)
    intro o1 ho1
    conv => whnf
    repeat (first | (refine RunH ?_; intro w hL hB; try clear w) | (refine Both.mk ?_ ?_ <;> conv => whnf) | fail)
    refine Ld.row1 ttOk hrow (k := j) tl23 rfl (by rw [List.getElem?_map, List.getElem?_eq_getElem hjx, hxk]; rfl) (by omega) ?_
    conv => whnf
    repeat (first | (refine RunH ?_; intro w hL hB; try clear w) | (refine Both.mk ?_ ?_ <;> conv => whnf) | fail)
    refine (same_fn _ _ xl xl _ (hL.row (i := 0) rfl) (hL.sl hm.1 rfl)).mono fun r w ⟨hr, hw⟩ => ?_
    subst hr
    replace hL := hL.call hB (Turns.of_below hw)
    replace hB := Nat.le_trans hB hw.size
    rw [decide_eq_true rfl]
    conv => whnf
    repeat (first | (refine RunH ?_; intro w hL hB; try clear w) | (refine Both.mk ?_ ?_ <;> conv => whnf) | fail)
    exact ⟨j + 1, ⟨rfl, rfl, rfl, vint (by push_cast; omega), trivial⟩, ⟨by omega, _, back (F' := _ :: F) hL hB⟩, (by first | omega | (dsimp only; omega))⟩
  repeat (first | (refine RunH ?_; intro w hL hB; try clear w) | (refine Both.mk ?_ ?_ <;> conv => whnf) | fail)
  refine (known_fn _ (tab_belowW htab hL.below)).mono fun r w ⟨hr, hw⟩ => ?_
  subst hr
  replace hL := hL.call hB (Turns.of_below hw)
  replace hB := Nat.le_trans hB hw.size
  conv => whnf
  repeat (first | (refine RunH ?_; intro w hL hB; try clear w) | (refine Both.mk ?_ ?_ <;> conv => whnf) | fail)
  exact ⟨rfl, hL.below⟩
end Go.Proofs.YtjafamiaahabgaaGreatDoor
