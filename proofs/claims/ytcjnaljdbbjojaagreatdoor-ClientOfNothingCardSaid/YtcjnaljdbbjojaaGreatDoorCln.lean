/- ClientOfNothing, walked. Nothing is claimed here. -/
import Derived.Test.YtcjnaljdbbjojaaGreatDoorClo
namespace Go.Proofs.YtcjnaljdbbjojaaGreatDoor
open Go.RowKit Go.WideShapes
set_option linter.unusedVariables false
set_option linter.unusedSimpArgs false
set_option maxRecDepth 100000

theorem begin_nil (x draw : Value) (hx : ∃ k v ky ck a n c, x = .agg #[.int .i64 k, .int .i64 v, .int .u64 ky, .int .u32 ck, .slice a n c]) (w0 : World) : Fn Tryz.prog 10 #[.pointer none, x, draw] w0 fun r w' => r = .tuple #[.int .i64 0, .slice none 0 0, .int .i64 1] ∧ Below w0.heap.size w0 w' := by
  obtain ⟨k, v, ky, ck, a, n, c, rfl⟩ := hx
  have hL := Sep.start Tryz.prog w0
  have hB := Nat.le_refl w0.heap.size
  refine Fn.mk Tryz.func10 rfl (by kernel_rfl) Tryz.ntmps10 rfl (by rw [Tryz.results10]) ?_
  repeat (first | (refine RunH ?_; intro w hL hB; try clear w) | (refine Both.mk ?_ ?_ <;> conv => whnf) | fail)
  (refine Nw.sep hL hB (fun xb w hL hB hxb => ?_); conv => whnf)
  repeat (first | (refine RunH ?_; intro w hL hB; try clear w) | (refine Both.mk ?_ ?_ <;> conv => whnf) | fail)
  (refine Nw.sep hL hB (fun fb w hL hB hfb => ?_); conv => whnf)
  repeat (first | (refine RunH ?_; intro w hL hB; try clear w) | (refine Both.mk ?_ ?_ <;> conv => whnf) | fail)
  exact ⟨rfl, hL.below⟩
theorem hear_nil (x : Value) (hx : ∃ fr to k a n c a2 n2 c2, x = .agg #[.int .i64 fr, .int .i64 to, .int .i64 k, .slice a n c, .slice a2 n2 c2]) (w0 : World) : Fn Tryz.prog 11 #[.pointer none, x] w0 fun r w' => r = .tuple #[.slice none 0 0, .slice none 0 0] ∧ Below w0.heap.size w0 w' := by
  obtain ⟨fr, to, k, a, n, c, a2, n2, c2, rfl⟩ := hx
  have hL := Sep.start Tryz.prog w0
  have hB := Nat.le_refl w0.heap.size
  refine Fn.mk Tryz.func11 rfl (by kernel_rfl) Tryz.ntmps11 rfl (by rw [Tryz.results11]) ?_
  repeat (first | (refine RunH ?_; intro w hL hB; try clear w) | (refine Both.mk ?_ ?_ <;> conv => whnf) | fail)
  (refine Nw.sep hL hB (fun xb w hL hB hxb => ?_); conv => whnf)
  repeat (first | (refine RunK ?_; intro w hL hB; try clear w) | (refine V.treeA ttOk hL (.q 0 (.q 1 (.q 2 (.q 3 (.q 4 (.q 5 (.q 6 (.q 7 (.q 8 (.q 9 (.q 10 .nil))))))))))) mixed (by decide +kernel) ?_; replace hL := hL.drew; conv => whnf) | (refine V.tailA ttOk mixed (by decide +kernel) ?_; replace hL := hL.drew; conv => whnf) | (refine Both.mk ?_ ?_ <;> conv => whnf) | fail)
  exact ⟨rfl, hL.below⟩
theorem tick_nil (w0 : World) : Fn Tryz.prog 12 #[.pointer none] w0 fun r w' => r = .tuple #[.slice none 0 0, .slice none 0 0] ∧ w' = w0 := by
  refine Fn.mk Tryz.func12 rfl (by kernel_rfl) Tryz.ntmps12 rfl (by rw [Tryz.results12]) ?_
  refine RunR ?_
  exact ⟨rfl, rfl⟩
theorem count_nil (w0 : World) : Fn Tryz.prog 13 #[.pointer none] w0 fun r w' => r = .int .i64 0 ∧ w' = w0 := by
  refine Fn.mk Tryz.func13 rfl (by kernel_rfl) Tryz.ntmps13 rfl (by rw [Tryz.results13]) ?_
  refine RunR ?_
  exact ⟨rfl, rfl⟩
set_option maxHeartbeats 8000000 in
theorem clientOfNothing_fn (x m : Value) (w0 : World) (hx : ∃ k v ky ck a n c, x = .agg #[.int .i64 k, .int .i64 v, .int .u64 ky, .int .u32 ck, .slice a n c] ∧ n ≤ 140737488355328) (hm : ∃ fr to k a n c a2 n2 c2, m = .agg #[.int .i64 fr, .int .i64 to, .int .i64 k, .slice a n c, .slice a2 n2 c2] ∧ n ≤ 140737488355328 ∧ n2 ≤ 140737488355328) :
    Fn Tryz.prog 5 #[x, m] w0 fun r w' => r = .bool true ∧ Below w0.heap.size w0 w' := by
  obtain ⟨k, v, ky, ck, a, n, c, rfl, hn⟩ := hx
  obtain ⟨fr, to, mk, ma, mn, mc, ma2, mn2, mc2, rfl, hmn, hmn2⟩ := hm
  have hL := Sep.start Tryz.prog w0
  have hB := Nat.le_refl w0.heap.size
  refine Fn.mk Tryz.func5 rfl (by kernel_rfl) Tryz.ntmps5 rfl (by rw [Tryz.results5]) ?_
  repeat (first | (refine RunH ?_; intro w hL hB; try clear w) | (refine Both.mk ?_ ?_ <;> conv => whnf) | fail)
  (refine Nw.sep hL hB (fun xb w hL hB hxb => ?_); conv => whnf)
  repeat (first | (refine RunH ?_; intro w hL hB; try clear w) | (refine Both.mk ?_ ?_ <;> conv => whnf) | fail)
  (refine Nw.sep hL hB (fun mb w hL hB hmb => ?_); conv => whnf)
  by_cases hbig : (40000 : Int) < n + mn2 + mn
  · repeat (first | (refine RunH ?_; intro w hL hB; try clear w) | (refine Both.mk ?_ ?_ <;> conv => whnf) | fail)
    exact ⟨rfl, hL.below⟩
  repeat (first | (refine RunH ?_; intro w hL hB; try clear w) | (refine Both.mk ?_ ?_ <;> conv => whnf) | fail)
  refine (begin_nil _ _ ⟨_, _, _, _, _, _, _, rfl⟩ _).mono fun r w ⟨hr, hbl⟩ => ?_
  subst hr
  replace hL := hL.call hB (Turns.of_below hbl)
  replace hB := Nat.le_trans hB hbl.size
  conv => whnf
  repeat (first | (refine RunH ?_; intro w hL hB; try clear w) | (refine Both.mk ?_ ?_ <;> conv => whnf) | fail)
  refine (hear_nil _ ⟨_, _, _, _, _, _, _, _, _, rfl⟩ _).mono fun r w ⟨hr, hbl⟩ => ?_
  subst hr
  replace hL := hL.call hB (Turns.of_below hbl)
  replace hB := Nat.le_trans hB hbl.size
  conv => whnf
  repeat (first | (refine RunH ?_; intro w hL hB; try clear w) | (refine Both.mk ?_ ?_ <;> conv => whnf) | fail)
  refine (tick_nil _).mono fun r w' ⟨hr, hw'⟩ => ?_
  subst hr
  replace hw' := hw'.symm
  subst hw'
  conv => whnf
  repeat (first | (refine RunH ?_; intro w hL hB; try clear w) | (refine Both.mk ?_ ?_ <;> conv => whnf) | fail)
  refine (count_nil _).mono fun r w' ⟨hr, hw'⟩ => ?_
  subst hr
  replace hw' := hw'.symm
  subst hw'
  conv => whnf
  repeat (first | (refine RunH ?_; intro w hL hB; try clear w) | (refine Both.mk ?_ ?_ <;> conv => whnf) | fail)
  refine (known_fn _).mono fun r w ⟨hr, hbl⟩ => ?_
  subst hr
  replace hL := hL.call hB (Turns.of_below hbl)
  conv => whnf
  repeat (first | (refine RunH ?_; intro w hL hB; try clear w) | (refine Both.mk ?_ ?_ <;> conv => whnf) | fail)
  exact ⟨rfl, hL.below⟩
/-! ### what comes in -/
theorem ints_open {w : World} {S d : Nat} {v : Value} (h : opz Tryz.prog TT S w (d + 1) 40 [v]) : ∃ a n c, v = .slice a n c ∧ n ≤ S := by
  unfold opz at h
  simp only [tl40, tl3] at h
  rcases h with h | ⟨x, n, c, h, h1, h2, hS, h3⟩
  · injection h with h
    exact ⟨none, 0, 0, h, Nat.zero_le _⟩
  · injection h with h
    refine ⟨_, n, c, h, ?_⟩
    rw [show Tryz.prog.bytesOf 3 = 8 from by kernel_rfl] at hS
    omega
theorem call_arg {w : World} {base : Nat} {v : Value} (hok : Value.okWide Tryz.prog w .any base 39 v) (h : opz Tryz.prog TT 140737488355328 w 6 39 v.cells.toList) : ∃ k v' ky ck a n c, v = .agg #[.int .i64 k, .int .i64 v', .int .u64 ky, .int .u32 ck, .slice a n c] ∧ n ≤ 140737488355328 := by
  obtain ⟨cs, rfl, _⟩ := okWide_struct Tryz.underlying39 hok
  obtain ⟨hlen, h1, h2, h3, _⟩ := h
  obtain ⟨a, b, c, d, e, hcs⟩ : ∃ a b c d e, cs.toList = [a, b, c, d, e] := by
    have : cs.toList.length = 5 := hlen
    match hl : cs.toList, this with
    | [a, b, c, d, e], _ => exact ⟨a, b, c, d, e, rfl⟩
  have hcs' : (Value.agg cs).cells.toList = [a, b, c, d, e] := hcs
  rw [hcs'] at h1 h2 h3
  obtain ⟨n1, e1, _⟩ := h1
  obtain ⟨vol, key, ck, e2, _⟩ := fid_open (d := 2) h2
  obtain ⟨l, hl, hl2⟩ := bytes_open (d := 3) h3
  have e1' : [a] = [.int .i64 n1] := e1
  have e2' : [b, c, d] = [.int .i64 vol, .int .u64 key, .int .u32 ck] := e2
  injection e1' with e1'
  simp only [List.cons.injEq, and_true] at e2'
  obtain ⟨rfl, rfl, rfl⟩ := e2'
  subst e1'
  obtain ⟨sa, sc, hs⟩ := hl.shape
  change e = _ at hs
  subst hs
  refine ⟨n1, vol, key, ck, sa, (bv l).length, sc, ?_, by rw [bv_length]; exact hl2⟩
  rw [show cs = #[.int .i64 n1, .int .i64 vol, .int .u64 key, .int .u32 ck, .slice sa (bv l).length sc] by rw [← Array.toList_inj]; exact hcs]
theorem msg_arg {w : World} {base : Nat} {v : Value} (hok : Value.okWide Tryz.prog w .any base 42 v) (h : opz Tryz.prog TT 140737488355328 w 6 42 v.cells.toList) : ∃ fr to k a n c a2 n2 c2, v = .agg #[.int .i64 fr, .int .i64 to, .int .i64 k, .slice a n c, .slice a2 n2 c2] ∧ n ≤ 140737488355328 ∧ n2 ≤ 140737488355328 := by
  obtain ⟨cs, rfl, _⟩ := okWide_struct Tryz.underlying42 hok
  obtain ⟨hlen, h1, h2, h3, h4, h5, _⟩ := h
  obtain ⟨a, b, c, d, e, hcs⟩ : ∃ a b c d e, cs.toList = [a, b, c, d, e] := by
    have : cs.toList.length = 5 := hlen
    match hl : cs.toList, this with
    | [a, b, c, d, e], _ => exact ⟨a, b, c, d, e, rfl⟩
  have hcs' : (Value.agg cs).cells.toList = [a, b, c, d, e] := hcs
  rw [hcs'] at h1 h2 h3 h4 h5
  obtain ⟨n1, e1, _⟩ := h1
  obtain ⟨n2, e2, _⟩ := h2
  obtain ⟨n3, e3, _⟩ := h3
  obtain ⟨xa, xn, xc, e4, l4⟩ := ints_open (d := 4) h4
  obtain ⟨l, hl, hl2⟩ := bytes_open (d := 3) h5
  have e1' : [a] = [.int .i64 n1] := e1
  have e2' : [b] = [.int .i64 n2] := e2
  have e3' : [c] = [.int .i64 n3] := e3
  injection e1' with e1'
  injection e2' with e2'
  injection e3' with e3'
  subst e1'; subst e2'; subst e3'
  change d = _ at e4
  subst e4
  obtain ⟨sa, sc, hs⟩ := hl.shape
  change e = _ at hs
  subst hs
  refine ⟨n1, n2, n3, xa, xn, xc, sa, (bv l).length, sc, ?_, l4, by rw [bv_length]; exact hl2⟩
  rw [show cs = #[.int .i64 n1, .int .i64 n2, .int .i64 n3, .slice xa xn xc, .slice sa (bv l).length sc] by rw [← Array.toList_inj]; exact hcs]
end Go.Proofs.YtcjnaljdbbjojaaGreatDoor
