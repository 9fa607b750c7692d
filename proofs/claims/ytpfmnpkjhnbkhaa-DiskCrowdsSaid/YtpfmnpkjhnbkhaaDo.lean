/- DiskCrowds. Nothing is claimed here. -/
import Derived.Test.YtpfmnpkjhnbkhaaDl
namespace Go.Proofs.Ytpfmnpkjhnbkhaa
open Go.RowKit
open Go.Maps (Keyed)
set_option linter.unusedVariables false
set_option linter.unusedSimpArgs false
set_option maxRecDepth 100000

theorem u8_of (v : Nat) : u8 (UInt8.ofNat v) = .int .u8 (IntKind.u8.wrap (v : Int)) := by
  have h : IntKind.u8.wrap (v : Int) = ((v % 256 : Nat) : Int) := by
    simp [IntKind.wrap, IntKind.bits, IntKind.signed]
  rw [h]; simp [u8]
def nmL (i : Nat) : List UInt8 := [102, UInt8.ofNat (i / 256), UInt8.ofNat i]
def nmK (i : Nat) : ByteArray := mkB (nmL i)
def crowd (k : Nat) : List Fl := (List.range k).map fun i => ⟨nmK i, [1], 0⟩
theorem nmK_inj {i j : Nat} (hi : i < 65536) (hj : j < 65536) (h : nmK i = nmK j) : i = j := by
  have h1 : nmL i = nmL j := by
    have := congrArg (fun b : ByteArray => b.data.toList) h
    simpa [nmK, mkB] using this
  simp only [nmL, List.cons.injEq, and_true, true_and] at h1
  have h2 := congrArg UInt8.toNat h1.1
  have h3 := congrArg UInt8.toNat h1.2
  simp at h2 h3
  omega
theorem getS_none' {S : List Fl} {nm : ByteArray} (h : ∀ f ∈ S, f.nm ≠ nm) : getS S nm = none := by
  induction S with
  | nil => rfl
  | cons f S ih => rw [getS, if_neg (h f (by simp)), ih fun g hg => h g (by simp [hg])]
theorem putS_none' {S : List Fl} {g : Fl} (h : ∀ f ∈ S, f.nm ≠ g.nm) : putS S g = S ++ [g] := by
  induction S with
  | nil => rfl
  | cons f S ih => rw [putS, if_neg (h f (by simp)), ih fun x hx => h x (by simp [hx])]; rfl
theorem crowd_succ (k : Nat) : crowd (k + 1) = crowd k ++ [⟨nmK k, [1], 0⟩] := by simp [crowd, List.range_succ]
theorem crowd_len (k : Nat) : (crowd k).length = k := by simp [crowd]
theorem crowd_tot : ∀ k : Nat, totS (crowd k) = k
  | 0 => rfl
  | k + 1 => by
    have := crowd_tot k
    rw [crowd_succ]
    simp only [totS, List.map_append, List.sum_append] at this ⊢
    simp [this]
theorem crowd_get {k i : Nat} (hk : k ≤ 256) (hi : i < 65536) (h : k ≤ i) : ∀ f ∈ crowd k, f.nm ≠ nmK i := by
  intro f hf e
  obtain ⟨j, hj, rfl⟩ := List.mem_map.1 hf
  have := List.mem_range.1 hj
  have := nmK_inj (by omega) hi e
  omega
theorem nmK_size (i : Nat) : (nmK i).size = 3 := rfl
theorem crowd_app {room k : Nat} (hr : 300 ≤ room) (hk : k < 65536) : appE room (crowd (min k 256)) (nmK k) 1 = (if k < 256 then 0 else 6) ∧ appS room (crowd (min k 256)) (nmK k) [1] = crowd (min (k + 1) 256) := by
  have hg := getS_none' (crowd_get (k := min k 256) (i := k) (by omega) hk (by omega))
  have hp := putS_none' (g := ⟨nmK k, [1], 0⟩) (crowd_get (k := min k 256) (i := k) (by omega) hk (by omega))
  by_cases h : k < 256
  · have e : appE room (crowd (min k 256)) (nmK k) 1 = 0 := by
      rw [appE, if_neg (by rw [nmK_size]; omega), if_neg]
      rw [crowd_len, crowd_tot]; omega
    refine ⟨by rw [e, if_pos h], ?_⟩
    rw [appS, if_pos (show appE room (crowd (min k 256)) (nmK k) ([1] : List UInt8).length = 0 from e), appF, hg]
    dsimp only
    rw [hp, show min k 256 = k by omega, show min (k + 1) 256 = k + 1 by omega, crowd_succ]
  · have e : appE room (crowd (min k 256)) (nmK k) 1 = 6 := by
      rw [appE, if_neg (by rw [nmK_size]; omega), if_pos]
      rw [crowd_len, hg]; left; exact ⟨rfl, by omega⟩
    refine ⟨by rw [e, if_neg h], ?_⟩
    rw [appS, if_neg (by rw [show [(1 : UInt8)].length = 1 from rfl, e]; decide), show min k 256 = 256 by omega, show min (k + 1) 256 = 256 by omega]
theorem crowd_last {room : Nat} (hr : 300 ≤ room) (n : Nat) : appE room (crowd (min n 256)) (nmK 0) 1 = 0 ∧ (appS room (crowd (min n 256)) (nmK 0) [2]).length = max 1 (min n 256) := by
  cases hm : min n 256 with
  | zero =>
    have e : appE room (crowd 0) (nmK 0) 1 = 0 := app_new (by decide) (by omega)
    refine ⟨e, ?_⟩
    rw [appS, if_pos (show appE room (crowd 0) (nmK 0) ([2] : List UInt8).length = 0 from e)]
    rfl
  | succ m =>
    have hc : crowd (m + 1) = ⟨nmK 0, [1], 0⟩ :: (List.range m).map fun i => ⟨nmK (i + 1), [1], 0⟩ := by
      simp [crowd, List.range_succ_eq_map]
    have e : appE room (crowd (m + 1)) (nmK 0) 1 = 0 := by
      rw [appE, if_neg (by rw [nmK_size]; omega), if_neg]
      rw [crowd_tot, hc, getS, if_pos rfl]
      simp; omega
    refine ⟨e, ?_⟩
    rw [appS, if_pos (show appE room (crowd (m + 1)) (nmK 0) ([2] : List UInt8).length = 0 from e), hc]
    simp [appF, getS, putS]

set_option maxHeartbeats 8000000 in
theorem crowds_fn (n : Int) (w0 : World) (hnw : (Lit.int .i64 n).wf = true) :
    Fn Try.prog 4 #[.int .i64 n] w0 fun r w' => r = .bool true ∧ Below w0.heap.size w0 w' := by
  have hL := Sep.start Try.prog w0
  have hB := Nat.le_refl w0.heap.size
  obtain ⟨hr1, hr2⟩ := i64_wf hnw
  refine Fn.mk Try.func4 rfl (by kernel_rfl) Try.ntmps4 rfl (by rw [Try.results4]) ?_
  by_cases hs1 : n < 0
  · repeat (first | (refine RunH ?_; intro w hL hB; try clear w) | (refine Both.mk ?_ ?_ <;> conv => whnf) | fail)
    refine (known_fn _).mono fun r w ⟨hr, hw⟩ => ?_
    subst hr
    replace hL := hL.call hB (Turns.of_below hw)
    conv => whnf
    repeat (first | (refine RunH ?_; intro w hL hB; try clear w) | (refine Both.mk ?_ ?_ <;> conv => whnf) | fail)
    exact ⟨rfl, hL.below⟩
  by_cases hs2 : 400 < n
  · repeat (first | (refine RunH ?_; intro w hL hB; try clear w) | (refine Both.mk ?_ ?_ <;> conv => whnf) | fail)
    refine (known_fn _).mono fun r w ⟨hr, hw⟩ => ?_
    subst hr
    replace hL := hL.call hB (Turns.of_below hw)
    conv => whnf
    repeat (first | (refine RunH ?_; intro w hL hB; try clear w) | (refine Both.mk ?_ ?_ <;> conv => whnf) | fail)
    exact ⟨rfl, hL.below⟩
  obtain ⟨N, rfl⟩ : ∃ N : Nat, n = N := ⟨n.toNat, by omega⟩
  repeat (first | (refine RunH ?_; intro w hL hB; try clear w) | (refine Both.mk ?_ ?_ <;> conv => whnf) | fail)
  refine (new_fn 1048576 hL hB).mono fun r w hr => ?_
  obtain ⟨b, rfl, hD⟩ := hr.1 (by decide)
  clear hr hL hB
  obtain ⟨dL, hL, hB, close⟩ := hD.open
  conv => whnf
  repeat (first | (refine RunH ?_; intro w hL hB; try clear w) | (refine Both.mk ?_ ?_ <;> conv => whnf) | fail)
  clear hL hB close
  refine V.loop (α := Nat) (fun k => [(0, .int .i64 (N : Int)), (3, ptr b), (5, .int .i64 (k : Int))])
    (fun k w' => k ≤ N ∧ ∃ F, DkS w0.heap.size w0 w' b (1048576 : Int).toNat (crowd (min k 256)) F) (fun k => N - k) 0 ⟨rfl, rfl, rfl, trivial⟩ ⟨by omega, [], hD⟩ ?_
  clear hD
  rintro k w ⟨hk, F, hD⟩
  dsimp only at *
  obtain ⟨dL, hL, hB, close⟩ := hD.open
  clear hD
  by_cases hlt : k < N
  · repeat (first | (refine RunH ?_; intro w hL hB; try clear w) | (refine Both.mk ?_ ?_ <;> conv => whnf) | fail)
    refine Shr.at k 8 256 rfl rfl (by decide) rfl ?_
    conv => whnf
    repeat (first | (refine RunH ?_; intro w hL hB; try clear w) | (refine Both.mk ?_ ?_ <;> conv => whnf) | fail)
    refine Ar.mk ?_
    rw [show (Value.int .u8 ((k / 256 : Nat) : Int)) = u8 (UInt8.ofNat (k / 256)) by rw [u8_of, wrap_u8n _ (by omega)]]
    conv => whnf
    rw [show (Value.int .u8 (IntKind.u8.wrap (k : Int))) = u8 (UInt8.ofNat k) from (u8_of _).symm]
    conv => whnf
    repeat (first | (refine RunH ?_; intro w hL hB; try clear w) | (refine Both.mk ?_ ?_ <;> conv => whnf) | fail)
    refine Rv.lit hL (nmL k) rfl (by simp [nmL]) hB fun bo w hL hB => ?_
    conv => whnf
    repeat (first | (refine RunH ?_; intro w hL hB; try clear w) | (refine Both.mk ?_ ?_ <;> conv => whnf) | fail)
    refine Rv.toStr ttOk tl22 tl5 tl9 (hL.row (i := 0) rfl) ?_
    conv => whnf
    repeat (first | (refine RunH ?_; intro w hL hB; try clear w) | (refine Both.mk ?_ ?_ <;> conv => whnf) | fail)
    refine Rv.lit hL [1] rfl (by decide) hB fun b2 w hL hB => ?_
    conv => whnf
    repeat (first | (refine RunH ?_; intro w hL hB; try clear w) | (refine Both.mk ?_ ?_ <;> conv => whnf) | fail)
    refine (append_fn (nmK k) (by rw [nmK_size]; decide) _ [1] (fun w' h => h.row (i := 0) rfl) (close (F' := _ :: _ :: F) hL hB)).mono fun r w ⟨hr, hD⟩ => ?_
    subst hr
    clear close hL hB
    have hc := crowd_app (room := (1048576 : Int).toNat) (k := k) (by decide) (by omega)
    rw [hc.2] at hD
    rw [show appE (1048576 : Int).toNat (crowd (min k 256)) (nmK k) ([1] : List UInt8).length = _ from hc.1]
    obtain ⟨dL, hL, hB, close⟩ := hD.open
    by_cases h256 : k < 256
    · rw [if_pos h256]
      conv => whnf
      repeat (first | (refine RunH ?_; intro w hL hB; try clear w) | (refine Both.mk ?_ ?_ <;> conv => whnf) | (refine Br.beq (by first | (rw [decide_eq_decide]; omega) | (simp; omega) | simp) ?_; conv => whnf) | fail)
      exact ⟨k + 1, ⟨rfl, rfl, vint (by push_cast; omega), trivial⟩, ⟨by omega, _, hD⟩, (by first | omega | (dsimp only; omega))⟩
    · rw [if_neg h256]
      conv => whnf
      repeat (first | (refine RunH ?_; intro w hL hB; try clear w) | (refine Both.mk ?_ ?_ <;> conv => whnf) | (refine Br.beq (by first | (rw [decide_eq_decide]; omega) | (simp; omega) | simp) ?_; conv => whnf) | fail)
      exact ⟨k + 1, ⟨rfl, rfl, vint (by push_cast; omega), trivial⟩, ⟨by omega, _, hD⟩, (by first | omega | (dsimp only; omega))⟩
  · obtain rfl : k = N := by omega
    repeat (first | (refine RunH ?_; intro w hL hB; try clear w) | (refine Both.mk ?_ ?_ <;> conv => whnf) | fail)
    refine Rv.lit hL (nmL 0) rfl (by decide) hB fun bo w hL hB => ?_
    conv => whnf
    repeat (first | (refine RunH ?_; intro w hL hB; try clear w) | (refine Both.mk ?_ ?_ <;> conv => whnf) | fail)
    refine Rv.toStr ttOk tl22 tl5 tl9 (hL.row (i := 0) rfl) ?_
    conv => whnf
    repeat (first | (refine RunH ?_; intro w hL hB; try clear w) | (refine Both.mk ?_ ?_ <;> conv => whnf) | fail)
    refine Rv.lit hL [2] rfl (by decide) hB fun b2 w hL hB => ?_
    conv => whnf
    repeat (first | (refine RunH ?_; intro w hL hB; try clear w) | (refine Both.mk ?_ ?_ <;> conv => whnf) | fail)
    refine (append_fn (nmK 0) (by rw [nmK_size]; decide) _ [2] (fun w' h => h.row (i := 0) rfl) (close (F' := _ :: _ :: F) hL hB)).mono fun r w ⟨hr, hD⟩ => ?_
    subst hr
    clear close hL hB
    have hc := crowd_last (room := (1048576 : Int).toNat) (by decide) k
    rw [show appE (1048576 : Int).toNat (crowd (min k 256)) (nmK 0) ([2] : List UInt8).length = _ from hc.1]
    have hlen := hc.2
    generalize appS (1048576 : Int).toNat (crowd (min k 256)) (nmK 0) [2] = S2 at *
    obtain ⟨dL, hL, hB, close⟩ := hD.open
    conv => whnf
    repeat (first | (refine RunH ?_; intro w hL hB; try clear w) | (refine Both.mk ?_ ?_ <;> conv => whnf) | (refine Br.beq (by first | (rw [decide_eq_decide]; omega) | (simp; omega) | simp) ?_; conv => whnf) | fail)
    rcases Bool.eq_false_or_eq_true (decide (0 < (k : Int))) with hd | hd <;> rw [hd] <;> (
      conv => whnf
      repeat (first | (refine RunH ?_; intro w hL hB; try clear w) | (refine Both.mk ?_ ?_ <;> conv => whnf) | (refine Br.beq (by first | (rw [decide_eq_decide]; omega) | (simp; omega) | simp) ?_; conv => whnf) | fail)
      refine (list_fn (close (F' := _ :: _ :: F) hL hB)).mono fun r w hD => ?_
      rw [hlen] at hD
      clear close hL hB
      obtain ⟨dL, hL, hB, close⟩ := hD.open
      obtain ⟨ra, rc, rfl⟩ := (show SlN w 1 r _ _ from hL.rowN (i := 0) rfl).shape
      conv => whnf
      repeat (first | (refine RunH ?_; intro w hL hB; try clear w) | (refine Both.mk ?_ ?_ <;> conv => whnf) | (refine Br.beq (by first | (rw [decide_eq_decide]; omega) | (simp; omega) | simp) ?_; conv => whnf) | fail)
      refine (known_fn _).mono fun r w ⟨hr, hw⟩ => ?_
      subst hr
      replace hL := hL.call hB (Turns.of_below hw)
      conv => whnf
      repeat (first | (refine RunH ?_; intro w hL hB; try clear w) | (refine Both.mk ?_ ?_ <;> conv => whnf) | fail)
      exact ⟨rfl, hL.below⟩)
end Go.Proofs.Ytpfmnpkjhnbkhaa
