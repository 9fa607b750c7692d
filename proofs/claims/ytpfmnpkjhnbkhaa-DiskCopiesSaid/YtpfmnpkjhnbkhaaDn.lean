/- DiskRenames. Nothing is claimed here. -/
import Derived.Test.YtpfmnpkjhnbkhaaDl
namespace Go.Proofs.Ytpfmnpkjhnbkhaa
open Go.RowKit
open Go.Maps (Keyed)
set_option linter.unusedVariables false
set_option linter.unusedSimpArgs false
set_option maxRecDepth 100000

def nmx : ByteArray := ⟨#[120]⟩
def nmy : ByteArray := ⟨#[121]⟩
theorem two_app {room : Nat} {d l2 : List UInt8} {la : Nat} (h : d.length + l2.length ≤ room) : appE room [⟨nmx, d, la⟩] nmy l2.length = 0 ∧ appS room [⟨nmx, d, la⟩] nmy l2 = [⟨nmx, d, la⟩, ⟨nmy, l2, 0⟩] := by
  have e : appE room [⟨nmx, d, la⟩] nmy l2.length = 0 := by
    rw [appE, if_neg (by decide), if_neg]
    simp [totS]; omega
  exact ⟨e, by rw [appS, if_pos e]; rfl⟩
theorem two_ren {d l2 : List UInt8} {la : Nat} : renE [⟨nmx, d, la⟩, ⟨nmy, l2, 0⟩] nmx nmy = 0 ∧ renS [⟨nmx, d, la⟩, ⟨nmy, l2, 0⟩] nmx nmy = [⟨nmy, d, la⟩] := ⟨rfl, rfl⟩

set_option maxHeartbeats 8000000 in
theorem renames_fn (v1 : Value) (l1 : List UInt8) (v2 : Value) (l2 : List UInt8) (v3 : Value) (l3 : List UInt8) (draw : Int) (w0 : World) (h1 : Sl w0 v1 (bv l1)) (h2 : Sl w0 v2 (bv l2)) (h3 : Sl w0 v3 (bv l3)) (hdw : (Lit.int .i64 draw).wf = true) (hx1 : l1.length ≤ 140737488355328) (hx2 : l2.length ≤ 140737488355328) (hx3 : l3.length ≤ 140737488355328) :
    Fn Try.prog 6 #[v1, v2, v3, .int .i64 draw] w0 fun r w' => r = .bool true ∧ Below w0.heap.size w0 w' := by
  have hdraw := (i64_wf hdw).2
  have hL := Sep.start Try.prog w0
  have hB := Nat.le_refl w0.heap.size
  obtain ⟨a1, c1, rfl⟩ := h1.shape
  obtain ⟨a2, c2, rfl⟩ := h2.shape
  obtain ⟨a3, c3, rfl⟩ := h3.shape
  simp only [bv_length] at *
  refine Fn.mk Try.func6 rfl (by kernel_rfl) Try.ntmps6 rfl (by rw [Try.results6]) ?_
  by_cases hbig : 8000 < l1.length + l2.length + l3.length
  · repeat (first | (refine RunH ?_; intro w hL hB; try clear w) | (refine Both.mk ?_ ?_ <;> conv => whnf) | fail)
    exact ⟨rfl, hL.below⟩
  have p1 : ∀ {L : List Res} (w' : World), Sep Try.prog w0.heap.size w0 w' L → Sl w' (.slice a1 l1.length c1) (bv l1) := fun w' h => h.sl h1 rfl
  have p2 : ∀ {L : List Res} (w' : World), Sep Try.prog w0.heap.size w0 w' L → Sl w' (.slice a2 l2.length c2) (bv l2) := fun w' h => h.sl h2 rfl
  have p3 : ∀ {L : List Res} (w' : World), Sep Try.prog w0.heap.size w0 w' L → Sl w' (.slice a3 l3.length c3) (bv l3) := fun w' h => h.sl h3 rfl
  have hok : 1 ≤ nmx.size ∧ nmx.size ≤ 64 := by decide
  have q1 : nmx.size ≤ 1000000 := by decide
  have q2 : nmy.size ≤ 1000000 := by decide
  repeat (first | (refine RunH ?_; intro w hL hB; try clear w) | (refine Both.mk ?_ ?_ <;> conv => whnf) | fail)
  refine (new_fn 1048576 hL hB).mono fun r w hr => ?_
  obtain ⟨b, rfl, hD⟩ := hr.1 (by decide)
  clear hr
  obtain ⟨dL, hL, hB, close⟩ := hD.open
  clear hD
  conv => whnf
  repeat (first | (refine RunH ?_; intro w hL hB; try clear w) | (refine Both.mk ?_ ?_ <;> conv => whnf) | fail)
  refine (append_fn nmx q1 _ l1 p1 (close (F' := []) hL hB)).mono fun r w ⟨hr, hD⟩ => ?_
  subst hr
  clear close hL hB
  rw [appS_new hok (by omega)] at hD
  rw [app_new hok (by omega)]
  obtain ⟨dL, hL, hB, close⟩ := hD.open
  conv => whnf
  repeat (first | (refine RunH ?_; intro w hL hB; try clear w) | (refine Both.mk ?_ ?_ <;> conv => whnf) | fail)
  refine (sync_fn nmx q1 (close (F' := []) hL hB)).mono fun r w ⟨hr, hD⟩ => ?_
  subst hr
  clear close hL hB
  rw [sync_one] at hD
  rw [get_one ⟨nmx, l1, 0⟩, Option.isSome_some, if_pos rfl]
  obtain ⟨dL, hL, hB, close⟩ := hD.open
  conv => whnf
  repeat (first | (refine RunH ?_; intro w hL hB; try clear w) | (refine Both.mk ?_ ?_ <;> conv => whnf) | fail)
  refine (append_fn nmx q1 _ l3 p3 (close (F' := []) hL hB)).mono fun r w ⟨hr, hD⟩ => ?_
  subst hr
  clear close hL hB
  rw [appS_one hok (by omega)] at hD
  rw [app_one hok (by omega)]
  obtain ⟨dL, hL, hB, close⟩ := hD.open
  conv => whnf
  repeat (first | (refine RunH ?_; intro w hL hB; try clear w) | (refine Both.mk ?_ ?_ <;> conv => whnf) | fail)
  refine (append_fn nmy q2 _ l2 p2 (close (F' := []) hL hB)).mono fun r w ⟨hr, hD⟩ => ?_
  subst hr
  clear close hL hB
  have e2 := two_app (room := (1048576 : Int).toNat) (d := l1 ++ l3) (l2 := l2) (la := l1.length) (by simp only [List.length_append]; omega)
  rw [e2.2] at hD
  rw [e2.1]
  obtain ⟨dL, hL, hB, close⟩ := hD.open
  conv => whnf
  repeat (first | (refine RunH ?_; intro w hL hB; try clear w) | (refine Both.mk ?_ ?_ <;> conv => whnf) | fail)
  refine (rename_fn nmx nmy q1 q2 (close (F' := []) hL hB)).mono fun r w ⟨hr, hD⟩ => ?_
  subst hr
  clear close hL hB
  rw [two_ren.1, two_ren.2, if_neg (by decide)] at hD
  rw [two_ren.1]
  obtain ⟨dL, hL, hB, close⟩ := hD.open
  conv => whnf
  repeat (first | (refine RunH ?_; intro w hL hB; try clear w) | (refine Both.mk ?_ ?_ <;> conv => whnf) | fail)
  refine (read_fn nmx q1 (close (F' := []) hL hB)).mono fun r w hD => ?_
  clear close hL hB
  rw [show getS [⟨nmy, l1 ++ l3, l1.length⟩] nmx = none from rfl] at hD
  obtain ⟨rfl, hD⟩ := hD
  obtain ⟨dL, hL, hB, close⟩ := hD.open
  conv => whnf
  repeat (first | (refine RunH ?_; intro w hL hB; try clear w) | (refine Both.mk ?_ ?_ <;> conv => whnf) | fail)
  refine (read_fn nmy q2 (close (F' := []) hL hB)).mono fun r w hD => ?_
  clear close hL hB
  rw [get_one ⟨nmy, l1 ++ l3, l1.length⟩] at hD
  obtain ⟨u, rfl, hD⟩ := hD
  simp only [List.length_append] at hD
  obtain ⟨dL, hL, hB, close⟩ := hD.open
  obtain ⟨ua, uc, rfl⟩ := (show SlN w 1 u _ _ from hL.rowN (i := 0) rfl).shape
  conv => whnf
  repeat (first | (refine RunH ?_; intro w hL hB; try clear w) | (refine Both.mk ?_ ?_ <;> conv => whnf) | fail)
  refine Rv.lit hL [] rfl (by decide) hB fun bo w hL hB => ?_
  conv => whnf
  repeat (first | (refine RunH ?_; intro w hL hB; try clear w) | (refine Both.mk ?_ ?_ <;> conv => whnf) | fail)
  refine Rv.appendS (m := l1.length) ttOk hL tl22 tl5 rfl (by decide) 0 rfl (by have := (p1 _ hL).toN; rw [bv_length] at this; exact this) (bv_one _) (by simp only [maxLen, List.length_nil]; omega) (by simp only [List.length_nil]; omega) hB fun v' w hL hB => ?_
  obtain ⟨va, vc, rfl⟩ := (show SlN w 1 v' _ _ from hL.rowN (i := 0) rfl).shape
  dsimp only [List.set] at hL
  conv => whnf
  repeat (first | (refine RunH ?_; intro w hL hB; try clear w) | (refine Both.mk ?_ ?_ <;> conv => whnf) | fail)
  refine Rv.appendS (m := l3.length) ttOk hL tl22 tl5 rfl (by decide) 0 rfl (by have := (p3 _ hL).toN; rw [bv_length] at this; exact this) (bv_one _) (by simp only [maxLen, List.length_nil]; omega) (by simp only [List.length_nil]; omega) hB fun v' w hL hB => ?_
  dsimp only [List.set, List.length_nil] at hL
  rw [bv_nil, List.nil_append, ← bv_append, Nat.zero_add] at hL
  obtain ⟨xa, xc, rfl, hxa, hxz⟩ : ∃ xa xc, v' = .slice xa (l1.length + l3.length) xc ∧ (∀ ad, xa = some ad → ad.off = 0 ∧ ad.spot = none ∧ l1.length + l3.length ≤ xc) ∧ (xa = none → l1.length + l3.length = 0 ∧ xc = 0) := by
    rcases own_shape (hL.ownR (i := 0) rfl) with ⟨rfl, hz⟩ | ⟨g, c, rfl, hgc⟩
    · exact ⟨none, 0, by rw [hz], fun ad h => (by cases h), fun _ => ⟨hz, rfl⟩⟩
    · exact ⟨_, _, rfl, fun ad h => by injection h with h; subst h; exact ⟨rfl, rfl, hgc⟩, fun h => by cases h⟩
  conv => whnf
  repeat (first | (refine RunH ?_; intro w hL hB; try clear w) | (refine Both.mk ?_ ?_ <;> conv => whnf) | fail)
  refine (same_fn _ _ _ _ _ (hL.row (i := 1) rfl) (hL.row (i := 0) rfl)).mono fun r w ⟨hr, hw⟩ => ?_
  subst hr
  rw [decide_eq_true rfl]
  replace hL := hL.call hB (Turns.of_below hw)
  replace hB := Nat.le_trans hB hw.size
  conv => whnf
  repeat (first | (refine RunH ?_; intro w hL hB; try clear w) | (refine Both.mk ?_ ?_ <;> conv => whnf) | fail)
  refine (list_fn (close (F' := [_, _]) hL hB)).mono fun r w hD => ?_
  clear close hL hB hw
  obtain ⟨dL, hL, hB, close⟩ := hD.open
  obtain ⟨ra, rc, rfl⟩ := (show SlN w 1 r _ _ from hL.rowN (i := 0) rfl).shape
  conv => whnf
  repeat (first | (refine RunH ?_; intro w hL hB; try clear w) | (refine Both.mk ?_ ?_ <;> conv => whnf) | fail)
  refine (crash_fn draw hdraw (close (F' := [_, _, _]) hL hB)).mono fun r w hD => ?_
  clear close hL hB
  have hst := stays_le (draw := draw) (i := 0) (f := ⟨nmy, l1 ++ l3, l1.length⟩) (by simp)
  rw [crash_one, crash1] at hD
  generalize stays draw 0 ⟨nmy, l1 ++ l3, l1.length⟩ = T at hst hD
  simp only [List.length_append] at hst
  obtain ⟨dL, hL, hB, close⟩ := hD.open
  conv => whnf
  repeat (first | (refine RunH ?_; intro w hL hB; try clear w) | (refine Both.mk ?_ ?_ <;> conv => whnf) | fail)
  refine (read_fn nmy q2 (close (F' := [_, _, _]) hL hB)).mono fun r w hD => ?_
  clear close hL hB
  rw [get_one ⟨nmy, (l1 ++ l3).take T, T⟩] at hD
  obtain ⟨u, rfl, hD⟩ := hD
  have htl : ((l1 ++ l3).take T).length = T := by rw [List.length_take, List.length_append]; omega
  simp only [htl] at hD
  obtain ⟨dL, hL, hB, close⟩ := hD.open
  obtain ⟨ta, tc, rfl⟩ := (show SlN w 1 u _ _ from hL.rowN (i := 0) rfl).shape
  conv => whnf
  repeat (first | (refine RunH ?_; intro w hL hB; try clear w) | (refine Both.mk ?_ ?_ <;> conv => whnf) | fail)
  have hsub : ∀ {w : World}, Sl w (.slice xa (l1.length + l3.length) xc) (bv (l1 ++ l3)) → ∀ c', T ≤ c' → c' ≤ xc → Sl w (.slice xa T c') (bv ((l1 ++ l3).take T)) := fun h c' g1 g2 => by
    cases xa with
    | none =>
      rcases h.cases with ⟨e, e'⟩ | ⟨b', o', c'', e, _⟩
      · injection e with _ e2 e3
        obtain rfl : T = 0 := by omega
        obtain rfl : c' = 0 := by omega
        exact Sl.nil _
      · cases e
    | some ad =>
      obtain ⟨ab, ao, asp⟩ := ad
      obtain ⟨k1, k2, k3⟩ := hxa _ rfl
      dsimp only at k1 k2
      subst k1; subst k2
      rw [bv_take]
      exact Sl.take h (by simp; omega) g1 g2
  cases xa with
  | none =>
      obtain ⟨z1, rfl⟩ := hxz rfl
      repeat (first | (refine RunH ?_; intro w hL hB; try clear w) | (refine Both.mk ?_ ?_ <;> conv => whnf) | fail)
      intro n6 c6 g1 g2
      obtain rfl : T = n6 := by omega
      conv => whnf
      repeat (first | (refine RunH ?_; intro w hL hB; try clear w) | (refine Both.mk ?_ ?_ <;> conv => whnf) | fail)
      refine (same_fn _ _ ((l1 ++ l3).take T) ((l1 ++ l3).take T) _ (hL.row (i := 0) rfl) (hsub (hL.row (i := 2) rfl) _ (by omega) (by omega))).mono fun r w ⟨hr, hw⟩ => ?_
      subst hr
      rw [decide_eq_true rfl]
      replace hL := hL.call hB (Turns.of_below hw)
      replace hB := Nat.le_trans hB hw.size
      conv => whnf
      repeat (first | (refine RunH ?_; intro w hL hB; try clear w) | (refine Both.mk ?_ ?_ <;> conv => whnf) | fail)
      refine (known_fn _).mono fun r w ⟨hr, hw⟩ => ?_
      subst hr
      replace hL := hL.call hB (Turns.of_below hw)
      conv => whnf
      repeat (first | (refine RunH ?_; intro w hL hB; try clear w) | (refine Both.mk ?_ ?_ <;> conv => whnf) | fail)
      exact ⟨rfl, hL.below⟩
  | some ad =>
      obtain ⟨ab, ao, asp⟩ := ad
      obtain ⟨k1, k2, k3⟩ := hxa _ rfl
      dsimp only at k1 k2
      subst k1; subst k2
      repeat (first | (refine RunH ?_; intro w hL hB; try clear w) | (refine Both.mk ?_ ?_ <;> conv => whnf) | fail)
      intro n6 c6 g1 g2
      obtain rfl : T = n6 := by omega
      conv => whnf
      repeat (first | (refine RunH ?_; intro w hL hB; try clear w) | (refine Both.mk ?_ ?_ <;> conv => whnf) | fail)
      refine (same_fn _ _ ((l1 ++ l3).take T) ((l1 ++ l3).take T) _ (hL.row (i := 0) rfl) (hsub (hL.row (i := 2) rfl) _ (by omega) (by omega))).mono fun r w ⟨hr, hw⟩ => ?_
      subst hr
      rw [decide_eq_true rfl]
      replace hL := hL.call hB (Turns.of_below hw)
      replace hB := Nat.le_trans hB hw.size
      conv => whnf
      repeat (first | (refine RunH ?_; intro w hL hB; try clear w) | (refine Both.mk ?_ ?_ <;> conv => whnf) | fail)
      refine (known_fn _).mono fun r w ⟨hr, hw⟩ => ?_
      subst hr
      replace hL := hL.call hB (Turns.of_below hw)
      conv => whnf
      repeat (first | (refine RunH ?_; intro w hL hB; try clear w) | (refine Both.mk ?_ ?_ <;> conv => whnf) | fail)
      exact ⟨rfl, hL.below⟩
end Go.Proofs.Ytpfmnpkjhnbkhaa
