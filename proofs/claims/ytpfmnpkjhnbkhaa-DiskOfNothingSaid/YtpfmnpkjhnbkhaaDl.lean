/- DiskKeeps, DiskFull. Nothing is claimed here. -/
import Derived.Test.YtpfmnpkjhnbkhaaDk
namespace Go.Proofs.Ytpfmnpkjhnbkhaa
open Go.RowKit
open Go.Maps (Keyed)
set_option linter.unusedVariables false
set_option linter.unusedSimpArgs false
set_option maxRecDepth 100000

theorem Br.beq {a b : Bool} {A B : Prop} (h : a = b) (k : A) : Br (a == b) A B := Br.yes (by simp [h]) k
theorem app_new {room n : Nat} {nm : ByteArray} (h : 1 ≤ nm.size ∧ nm.size ≤ 64) (hn : n ≤ room) : appE room [] nm n = 0 := by
  rw [appE, if_neg (fun h' => h' h), if_neg]
  simp [totS]; omega
theorem appS_new {room : Nat} {nm : ByteArray} {xs : List UInt8} (h : 1 ≤ nm.size ∧ nm.size ≤ 64) (hn : xs.length ≤ room) : appS room [] nm xs = [⟨nm, xs, 0⟩] := by
  rw [appS, app_new h hn]; rfl
theorem app_one {room n la : Nat} {nm : ByteArray} {d : List UInt8} (h : 1 ≤ nm.size ∧ nm.size ≤ 64) (hn : d.length + n ≤ room) : appE room [⟨nm, d, la⟩] nm n = 0 := by
  rw [appE, if_neg (fun h' => h' h), if_neg]
  simp [totS, getS]; omega
theorem appS_one {room la : Nat} {nm : ByteArray} {d xs : List UInt8} (h : 1 ≤ nm.size ∧ nm.size ≤ 64) (hn : d.length + xs.length ≤ room) : appS room [⟨nm, d, la⟩] nm xs = [⟨nm, d ++ xs, la⟩] := by
  rw [appS, app_one h hn]; simp [appF, getS, putS]
theorem get_one (f : Fl) : getS [f] f.nm = some f := by simp [getS]
theorem sync_one (nm : ByteArray) (d : List UInt8) (la : Nat) : syncS [⟨nm, d, la⟩] nm = [⟨nm, d, d.length⟩] := by simp [syncS, getS, putS]
theorem i64_wf {n : Int} (h : (Lit.int .i64 n).wf = true) : -9223372036854775808 ≤ n ∧ n ≤ 9223372036854775807 := by
  simp only [Lit.wf, IntKind.min, IntKind.max, IntKind.bits, IntKind.signed, Bool.and_eq_true, decide_eq_true_eq] at h
  simp at h; omega
theorem own_shape {w : World} {B : Nat} {e : TypeId} {sz n : Nat} {v : Value} {xs : List Value} (h : w.ownsRow B e sz v n xs) : (v = .slice none 0 0 ∧ n = 0) ∨ ∃ g c, v = .slice (some ⟨g, 0, none⟩) n c ∧ n ≤ c := by
  rcases h.2 with h | ⟨g, cap, cur, rfl, _, _, h1, _⟩
  · exact .inl h
  · exact .inr ⟨g, cap, rfl, h1⟩

set_option maxHeartbeats 4000000 in
theorem keeps_fn (nm : ByteArray) (v1 : Value) (l1 : List UInt8) (v2 : Value) (l2 : List UInt8) (draw : Int) (w0 : World) (hnm : nm.size ≤ maxLen) (h1 : Sl w0 v1 (bv l1)) (h2 : Sl w0 v2 (bv l2)) (hdw : (Lit.int .i64 draw).wf = true) (hx1 : l1.length ≤ 140737488355328) (hx2 : l2.length ≤ 140737488355328) :
    Fn Try.prog 3 #[.string nm, v1, v2, .int .i64 draw] w0 fun r w' => r = .bool true ∧ Below w0.heap.size w0 w' := by
  have hdraw := (i64_wf hdw).2
  have hL := Sep.start Try.prog w0
  have hB := Nat.le_refl w0.heap.size
  have hle1 := h1.le
  have hle2 := h2.le
  obtain ⟨a1, c1, rfl⟩ := h1.shape
  obtain ⟨a2, c2, rfl⟩ := h2.shape
  simp only [bv_length, maxLen] at *
  refine Fn.mk Try.func3 rfl (by kernel_rfl) Try.ntmps3 rfl (by rw [Try.results3]) ?_
  by_cases hbig : 8000 < l1.length + l2.length
  · repeat (first | (refine RunH ?_; intro w hL hB; try clear w) | (refine Both.mk ?_ ?_ <;> conv => whnf) | fail)
    exact ⟨rfl, hL.below⟩
  by_cases hs1 : nm.size < 1
  · repeat (first | (refine RunH ?_; intro w hL hB; try clear w) | (refine Both.mk ?_ ?_ <;> conv => whnf) | fail)
    exact ⟨rfl, hL.below⟩
  by_cases hs2 : 64 < nm.size
  · repeat (first | (refine RunH ?_; intro w hL hB; try clear w) | (refine Both.mk ?_ ?_ <;> conv => whnf) | fail)
    exact ⟨rfl, hL.below⟩
  have hok : 1 ≤ nm.size ∧ nm.size ≤ 64 := by omega
  have hn6 : nm.size ≤ 1000000 := by omega
  have p1 : ∀ {L : List Res} (w' : World), Sep Try.prog w0.heap.size w0 w' L → Sl w' (.slice a1 l1.length c1) (bv l1) := fun w' h => h.sl h1 rfl
  have p2 : ∀ {L : List Res} (w' : World), Sep Try.prog w0.heap.size w0 w' L → Sl w' (.slice a2 l2.length c2) (bv l2) := fun w' h => h.sl h2 rfl
  repeat (first | (refine RunH ?_; intro w hL hB; try clear w) | (refine Both.mk ?_ ?_ <;> conv => whnf) | fail)
  refine (new_fn 1048576 hL hB).mono fun r w hr => ?_
  obtain ⟨b, rfl, hD⟩ := hr.1 (by decide)
  clear hr
  obtain ⟨dL, hL, hB, close⟩ := hD.open
  clear hD
  conv => whnf
  repeat (first | (refine RunH ?_; intro w hL hB; try clear w) | (refine Both.mk ?_ ?_ <;> conv => whnf) | fail)
  refine (append_fn nm hn6 _ l1 p1 (close (F' := []) hL hB)).mono fun r w ⟨hr, hD⟩ => ?_
  subst hr
  clear close hL hB
  rw [appS_new hok (by omega)] at hD
  rw [app_new hok (by omega)]
  obtain ⟨dL, hL, hB, close⟩ := hD.open
  conv => whnf
  repeat (first | (refine RunH ?_; intro w hL hB; try clear w) | (refine Both.mk ?_ ?_ <;> conv => whnf) | fail)
  refine (sync_fn nm hn6 (close (F' := []) hL hB)).mono fun r w ⟨hr, hD⟩ => ?_
  subst hr
  clear close hL hB
  rw [sync_one] at hD
  rw [get_one ⟨nm, l1, 0⟩, Option.isSome_some, if_pos rfl]
  obtain ⟨dL, hL, hB, close⟩ := hD.open
  conv => whnf
  repeat (first | (refine RunH ?_; intro w hL hB; try clear w) | (refine Both.mk ?_ ?_ <;> conv => whnf) | fail)
  refine (append_fn nm hn6 _ l2 p2 (close (F' := []) hL hB)).mono fun r w ⟨hr, hD⟩ => ?_
  subst hr
  clear close hL hB
  rw [appS_one hok (by omega)] at hD
  rw [app_one hok (by omega)]
  obtain ⟨dL, hL, hB, close⟩ := hD.open
  conv => whnf
  repeat (first | (refine RunH ?_; intro w hL hB; try clear w) | (refine Both.mk ?_ ?_ <;> conv => whnf) | fail)
  refine (crash_fn draw hdraw (close (F' := []) hL hB)).mono fun r w hD => ?_
  clear close hL hB
  have hst := stays_le (draw := draw) (i := 0) (f := ⟨nm, l1 ++ l2, l1.length⟩) (by simp)
  rw [crash_one, crash1] at hD
  generalize stays draw 0 ⟨nm, l1 ++ l2, l1.length⟩ = T at hst hD
  simp only [List.length_append] at hst
  obtain ⟨dL, hL, hB, close⟩ := hD.open
  conv => whnf
  repeat (first | (refine RunH ?_; intro w hL hB; try clear w) | (refine Both.mk ?_ ?_ <;> conv => whnf) | fail)
  refine (read_fn nm hn6 (close (F' := []) hL hB)).mono fun r w hD => ?_
  clear close hL hB
  rw [get_one ⟨nm, (l1 ++ l2).take T, T⟩] at hD
  obtain ⟨u, rfl, hD⟩ := hD
  have htl : ((l1 ++ l2).take T).length = T := by rw [List.length_take, List.length_append]; omega
  simp only [htl] at hD
  obtain ⟨dL, hL, hB, close⟩ := hD.open
  obtain ⟨ua, uc, rfl⟩ := (show SlN w 1 u _ _ from hL.rowN (i := 0) rfl).shape
  conv => whnf
  repeat (first | (refine RunH ?_; intro w hL hB; try clear w) | (refine Both.mk ?_ ?_ <;> conv => whnf) | fail)
  refine Rv.lit hL [] rfl (by decide) hB fun bo w hL hB => ?_
  conv => whnf
  repeat (first | (refine RunH ?_; intro w hL hB; try clear w) | (refine Both.mk ?_ ?_ <;> conv => whnf) | fail)
  refine Rv.appendS (m := l1.length) ttOk hL tl22 tl5 rfl (by decide) 0 rfl (by have := (p1 _ hL).toN; rw [bv_length] at this; exact this) (bv_one _) (by simp only [maxLen, List.length_nil]; omega) (by simp only [List.length_nil]; omega) hB fun v' w hL hB => ?_
  obtain ⟨va, vc, rfl⟩ := (show SlN w 1 v' _ _ from hL.rowN (i := 0) rfl).shape
  dsimp only [List.set] at hL
  conv => whnf
  repeat (first | (refine RunH ?_; intro w hL hB; try clear w) | (refine Both.mk ?_ ?_ <;> conv => whnf) | fail)
  refine Rv.appendS (m := l2.length) ttOk hL tl22 tl5 rfl (by decide) 0 rfl (by have := (p2 _ hL).toN; rw [bv_length] at this; exact this) (bv_one _) (by simp only [maxLen, List.length_nil]; omega) (by simp only [List.length_nil]; omega) hB fun v' w hL hB => ?_
  dsimp only [List.set, List.length_nil] at hL
  rw [bv_nil, List.nil_append, ← bv_append, Nat.zero_add] at hL
  rcases own_shape (hL.ownR (i := 0) rfl) with ⟨rfl, hz⟩ | ⟨g, c, rfl, hgc⟩
  · obtain ⟨z1, z2⟩ : l1.length = 0 ∧ l2.length = 0 := by omega
    obtain rfl := List.eq_nil_of_length_eq_zero z1
    obtain rfl := List.eq_nil_of_length_eq_zero z2
    obtain rfl : T = 0 := by simp at hst; omega
    conv => whnf
    repeat (first | (refine RunH ?_; intro w hL hB; try clear w) | (refine Both.mk ?_ ?_ <;> conv => whnf) | fail)
    intro n6 c6 q1 q2
    obtain rfl : n6 = 0 := by omega
    obtain rfl : c6 = 0 := by omega
    conv => whnf
    repeat (first | (refine RunH ?_; intro w hL hB; try clear w) | (refine Both.mk ?_ ?_ <;> conv => whnf) | fail)
    refine (same_fn _ _ [] [] _ (hL.row (i := 1) rfl) (Sl.nil _)).mono fun r w ⟨hr, hw⟩ => ?_
    subst hr
    rw [decide_eq_true rfl]
    replace hL := hL.call hB (Turns.of_below hw)
    replace hB := Nat.le_trans hB hw.size
    conv => whnf
    repeat (first | (refine RunH ?_; intro w hL hB; try clear w) | (refine Both.mk ?_ ?_ <;> conv => whnf) | fail)
    refine (known_fn _).mono fun r w ⟨hr, hw⟩ => ?_
    subst hr
    replace hL := hL.call hB (Turns.of_below hw)
    conv => whnf
    repeat (first | (refine RunH ?_; intro w hL hB; try clear w) | (refine Both.mk ?_ ?_ <;> conv => whnf) | fail)
    exact ⟨rfl, hL.below⟩
  · conv => whnf
    repeat (first | (refine RunH ?_; intro w hL hB; try clear w) | (refine Both.mk ?_ ?_ <;> conv => whnf) | fail)
    intro n6 c6 q1 q2
    obtain rfl : T = n6 := by omega
    conv => whnf
    repeat (first | (refine RunH ?_; intro w hL hB; try clear w) | (refine Both.mk ?_ ?_ <;> conv => whnf) | fail)
    refine (same_fn _ _ ((l1 ++ l2).take T) ((l1 ++ l2).take T) _ (hL.row (i := 1) rfl) (by rw [bv_take]; exact Sl.take (hL.row (i := 0) rfl) (by simp; omega) (by omega) (by omega))).mono fun r w ⟨hr, hw⟩ => ?_
    subst hr
    rw [decide_eq_true rfl]
    replace hL := hL.call hB (Turns.of_below hw)
    replace hB := Nat.le_trans hB hw.size
    conv => whnf
    repeat (first | (refine RunH ?_; intro w hL hB; try clear w) | (refine Both.mk ?_ ?_ <;> conv => whnf) | fail)
    refine (known_fn _).mono fun r w ⟨hr, hw⟩ => ?_
    subst hr
    replace hL := hL.call hB (Turns.of_below hw)
    conv => whnf
    repeat (first | (refine RunH ?_; intro w hL hB; try clear w) | (refine Both.mk ?_ ?_ <;> conv => whnf) | fail)
    exact ⟨rfl, hL.below⟩
end Go.Proofs.Ytpfmnpkjhnbkhaa
