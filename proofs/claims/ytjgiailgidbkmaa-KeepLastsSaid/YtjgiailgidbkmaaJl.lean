/- KeepLasts. Nothing is claimed here. -/
import Derived.Test.YtjgiailgidbkmaaJk
import Derived.Test.YtjgiailgidbkmaaOg
namespace Go.Proofs.Ytjgiailgidbkmaa
open Go.RowKit
open Go.Maps (Keyed)
set_option linter.unusedVariables false
set_option linter.unusedSimpArgs false
set_option maxRecDepth 100000

def nml : ByteArray := ⟨#[102]⟩
theorem crash_synced (nm : ByteArray) (d : List UInt8) (draw : Int) : crashS [⟨nm, d, d.length⟩] draw = [⟨nm, d, d.length⟩] := by
  rw [crash_one, crash1]
  have h : stays draw 0 ⟨nm, d, d.length⟩ = d.length := by
    have := stays_le (draw := draw) (i := 0) (f := ⟨nm, d, d.length⟩) (Nat.le_refl _)
    dsimp only at this
    omega
  rw [h]
  simp
def sumK (xs : List (Value × List UInt8)) (k : Nat) : Nat := ((xs.take k).map fun p => 10 + p.2.length).sum
theorem sumK_succ {xs : List (Value × List UInt8)} {k : Nat} (h : k < xs.length) : sumK xs (k + 1) = sumK xs k + (10 + (xs[k]).2.length) := by
  rw [sumK, List.take_succ_eq_append_getElem h]
  simp only [sumK, List.map_append, List.sum_append, List.map_cons, List.map_nil, List.sum_cons, List.sum_nil]
  omega
theorem sumK_all {xs : List (Value × List UInt8)} {p : Value × List UInt8} (hp : p ∈ xs) : p.2.length ≤ sumK xs xs.length := by
  rw [sumK, List.take_length]
  induction xs with
  | nil => cases hp
  | cons q xs ih =>
    simp only [List.map_cons, List.sum_cons]
    rcases List.mem_cons.1 hp with rfl | hp
    · omega
    · have := ih hp; omega

set_option maxHeartbeats 8000000 in
theorem keepLasts_fn (v : Value) (xs : List (Value × List UInt8)) (draw : Int) (w0 : World) (hs : Sl w0 v (xs.map (·.1))) (hxs : ∀ p ∈ xs, Sl w0 p.1 (bv p.2) ∧ p.2.length ≤ 140737488355328) (hdw : (Lit.int .i64 draw).wf = true) :
    Fn Try.prog 4 #[v, .int .i64 draw] w0 fun r w' => r = .bool true ∧ Below w0.heap.size w0 w' := by
  have hdraw := (i64_wf hdw).2
  have hL := Sep.start Try.prog w0
  have hB := Nat.le_refl w0.heap.size
  have hle := hs.le
  obtain ⟨a, c, rfl⟩ := hs.shape
  simp only [List.length_map] at *
  have elem : ∀ {L : List Res} {w' : World}, Sep Try.prog w0.heap.size w0 w' L → ∀ k (hk : k < xs.length), ∃ b o, a = some ⟨b, o, none⟩ ∧ Row w' b o (xs.map (·.1)) := fun h k hk => (h.sl hs rfl).addr (by omega)
  refine Fn.mk Try.func4 rfl (by kernel_rfl) Try.ntmps4 rfl (by rw [Try.results4]) ?_
  repeat (first | (refine RunH ?_; intro w hL hB; try clear w) | (refine Both.mk ?_ ?_ <;> conv => whnf) | fail)
  refine V.loop (α := Nat) (fun k => [(0, .slice a xs.length c), (1, .int .i64 draw), (5, .int .i64 (sumK xs k : Int)), (6, .int .i64 (k : Int))])
    (fun k w' => k ≤ xs.length ∧ sumK xs k ≤ 140737488364000 ∧ Sep Try.prog w0.heap.size w0 w' []) (fun k => xs.length - k) 0 ⟨rfl, rfl, rfl, rfl, trivial⟩ ⟨by omega, by simp [sumK], hL⟩ ?_
  clear hL hB
  rintro k w ⟨hk, hsum, hL⟩
  have hB := hL.below.size
  dsimp only at *
  by_cases hlt : k < xs.length
  case neg =>
    obtain rfl : k = xs.length := by omega
    by_cases hbig : 8000 < sumK xs xs.length
    · repeat (first | (refine RunH ?_; intro w hL hB; try clear w) | (refine Both.mk ?_ ?_ <;> conv => whnf) | fail)
      exact ⟨rfl, hL.below⟩
    have hall : ∀ p ∈ xs, p.2.length ≤ 8000 := fun p hp => by have := sumK_all hp; omega
    generalize sumK xs xs.length = N at *
    have hok : 1 ≤ nml.size ∧ nml.size ≤ 63 := by decide
    have q1 : nml.size ≤ 1000000 := by decide
    repeat (first | (refine RunH ?_; intro w hL hB; try clear w) | (refine Both.mk ?_ ?_ <;> conv => whnf) | fail)
    refine (new_fn 1048576 hL hB).mono fun r w hr => ?_
    obtain ⟨b, rfl, hD⟩ := hr.1 (by omega)
    clear hr hL hB
    obtain ⟨dL, hL, hB, close⟩ := hD.open
    conv => whnf
    repeat (first | (refine RunH ?_; intro w hL hB; try clear w) | (refine Both.mk ?_ ?_ <;> conv => whnf) | fail)
    clear hL hB close
    refine V.loop (α := Nat) (fun k => [(0, .slice a xs.length c), (1, .int .i64 draw), (7, ptr b), (9, .int .i64 (k : Int))])
      (fun k w' => k ≤ xs.length ∧ ∃ S F, OneF S nml ∧ totS S ≤ 8008 ∧ DkS w0.heap.size w0 w' b (1048576 : Int).toNat S F) (fun k => xs.length - k) 0 ⟨rfl, rfl, rfl, rfl, trivial⟩ ⟨by omega, [], [], .inl rfl, by simp [totS], hD⟩ ?_
    clear hD hk hlt
    rintro k w ⟨hk, S, F, hone, htot, hD⟩
    obtain ⟨dL, hL, hB, close⟩ := hD.open
    clear hD
    by_cases hlt : k < xs.length
    case neg =>
      obtain rfl : k = xs.length := by omega
      repeat (first | (refine RunH ?_; intro w hL hB; try clear w) | (refine Both.mk ?_ ?_ <;> conv => whnf) | (refine (known_fn _).mono fun r w hr => ?_; obtain ⟨hr, hw⟩ := hr; subst hr; replace hL := hL.call hB (Turns.of_below hw); replace hB := Nat.le_trans hB hw.size; conv => whnf) | fail)
      exact ⟨rfl, hL.below⟩
    obtain ⟨bb, o, rfl, hrow⟩ := elem hL k hlt
    have hm := hxs _ (List.getElem_mem hlt)
    have hm8 := hall _ (List.getElem_mem hlt)
    generalize hxk : xs[k] = x at *
    obtain ⟨xv, xl⟩ := x
    obtain ⟨pa, pc, hpv⟩ := hm.1.shape
    rw [bv_length] at hpv
    dsimp only at hpv hm hm8
    subst hpv
    have p1 : ∀ {L : List Res} (w' : World), Sep Try.prog w0.heap.size w0 w' L → Sl w' (.slice pa xl.length pc) (bv xl) := fun w' h => h.sl hm.1 rfl
    repeat (first | (refine RunH ?_; intro w hL hB; try clear w) | (refine Both.mk ?_ ?_ <;> conv => whnf) | fail)
    intro o1 ho1
    conv => whnf
    refine Ld.row1 ttOk hrow (k := k) tl22 rfl (by rw [List.getElem?_map, List.getElem?_eq_getElem hlt, hxk]; rfl) (by omega) ?_
    conv => whnf
    repeat (first | (refine RunH ?_; intro w hL hB; try clear w) | (refine Both.mk ?_ ?_ <;> conv => whnf) | fail)
    refine (save_fn nml q1 _ xl (by omega) p1 (close (F' := F) hL hB)).mono fun r w ⟨hr, hD⟩ => ?_
    subst hr
    clear close hL hB hrow
    have e1 := (save_one (room := (1048576 : Int).toNat) (xs := xl) hone hok).1 (by show _ ≤ 1048576; omega)
    rw [e1.2] at hD
    rw [e1.1]
    clear e1
    obtain ⟨dL, hL, hB, close⟩ := hD.open
    conv => whnf
    repeat (first | (refine RunH ?_; intro w hL hB; try clear w) | (refine Both.mk ?_ ?_ <;> conv => whnf) | fail)
    refine (crash_fn draw hdraw (close (F' := F) hL hB)).mono fun r w hD => ?_
    clear close hL hB
    rw [crash_synced] at hD
    obtain ⟨dL, hL, hB, close⟩ := hD.open
    conv => whnf
    repeat (first | (refine RunH ?_; intro w hL hB; try clear w) | (refine Both.mk ?_ ?_ <;> conv => whnf) | fail)
    refine (load_fn nml q1 (close (F' := F) hL hB)).mono fun r w hD => ?_
    clear close hL hB
    have e3 := load_one (nm := nml) (xs := xl) (la := (encF xl).length) (by omega)
    rw [loadPost, if_pos e3.1, e3.2] at hD
    obtain ⟨u, rfl, hD⟩ := hD
    obtain ⟨dL, hL, hB, close⟩ := hD.open
    obtain ⟨ua, uc, rfl⟩ := (show SlN w 1 u _ _ from hL.rowN (i := 0) rfl).shape
    have hrow := (elem hL k hlt)
    obtain ⟨_, _, heq, hrow⟩ := hrow
    cases heq
    conv => whnf
    repeat (first | (refine RunH ?_; intro w hL hB; try clear w) | (refine Both.mk ?_ ?_ <;> conv => whnf) | fail)
    intro o2 ho2
    conv => whnf
    repeat (first | (refine RunH ?_; intro w hL hB; try clear w) | (refine Both.mk ?_ ?_ <;> conv => whnf) | fail)
    refine Ld.row1 ttOk hrow (k := k) tl22 rfl (by rw [List.getElem?_map, List.getElem?_eq_getElem hlt, hxk]; rfl) (by omega) ?_
    conv => whnf
    repeat (first | (refine RunH ?_; intro w hL hB; try clear w) | (refine Both.mk ?_ ?_ <;> conv => whnf) | fail)
    refine (same_fn _ _ xl xl _ (hL.row (i := 0) rfl) (p1 _ hL)).mono fun r w ⟨hr, hw⟩ => ?_
    subst hr
    replace hL := hL.call hB (Turns.of_below hw)
    replace hB := Nat.le_trans hB hw.size
    rw [decide_eq_true rfl]
    conv => whnf
    repeat (first | (refine RunH ?_; intro w hL hB; try clear w) | (refine Both.mk ?_ ?_ <;> conv => whnf) | fail)
    exact ⟨k + 1, ⟨rfl, rfl, rfl, vint (by push_cast; omega), trivial⟩, ⟨by omega, _, _, .inr ⟨_, _, rfl⟩, by show (encF xl).length + 0 ≤ 8008; rw [encF_len]; omega, close (F' := _ :: F) hL hB⟩, (by first | omega | (dsimp only; omega))⟩
  by_cases hbig : sumK xs k ≤ 8000
  · have hm := hxs _ (List.getElem_mem hlt)
    obtain ⟨bb, o, rfl, hrow⟩ := elem hL k hlt
    have hsu := sumK_succ hlt
    repeat (first | (refine RunH ?_; intro w hL hB; try clear w) | (refine Both.mk ?_ ?_ <;> conv => whnf) | fail)
    intro o1 ho1
    conv => whnf
    obtain ⟨pa, pc, hpv⟩ := hm.1.shape
    rw [bv_length] at hpv
    refine Ld.row1 ttOk hrow (k := k) tl22 rfl (by rw [List.getElem?_map, List.getElem?_eq_getElem hlt]; exact congrArg some hpv) (by omega) ?_
    conv => whnf
    repeat (first | (refine RunH ?_; intro w hL hB; try clear w) | (refine Both.mk ?_ ?_ <;> conv => whnf) | fail)
    exact ⟨k + 1, ⟨rfl, rfl, vint (by rw [hsu]; push_cast; omega), vint (by push_cast; omega), trivial⟩, ⟨by omega, by omega, hL⟩, (by first | omega | (dsimp only; omega))⟩
  · repeat (first | (refine RunH ?_; intro w hL hB; try clear w) | (refine Both.mk ?_ ?_ <;> conv => whnf) | fail)
    exact ⟨rfl, hL.below⟩
end Go.Proofs.Ytjgiailgidbkmaa
