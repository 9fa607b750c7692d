/- DiskCopies. Nothing is claimed here. -/
import Derived.Test.YtpfmnpkjhnbkhaaDp
import Derived.Test.YtpfmnpkjhnbkhaaDn
namespace Go.Proofs.Ytpfmnpkjhnbkhaa
open Go.RowKit
open Go.Maps (Keyed)
set_option linter.unusedVariables false
set_option linter.unusedSimpArgs false
set_option maxRecDepth 100000

/-- a mask keeps any number small -/
theorem Bt.maskI {a b : Int} {K : Int → Prop} (m : Nat) (hm : m < 9223372036854775808) (hb : b = m) (h : ∀ T : Nat, T ≤ m → K (T : Int)) : Bt .and .i64 a b K := by
  subst hb
  refine Bt.mk ?_
  show K (IntKind.i64.wrap ((BitVec.ofInt 64 a &&& BitVec.ofInt 64 (m : Int)).toNat : Int))
  rw [BitVec.toNat_and, ofInt_nat _ m (by omega), wrap_i64n _ (by have := Nat.and_le_right (n := (BitVec.ofInt 64 a).toNat) (m := m); omega)]
  exact h _ Nat.and_le_right
def nmz : ByteArray := ⟨#[122]⟩
theorem Sep.swl {P : Program} {B : Nat} {w0 w : World} {F X Y : List Res} (h : Sep P B w0 w ((F ++ X) ++ Y)) : Sep P B w0 w ((F ++ Y) ++ X) := by
  refine h.perm ?_
  rw [List.append_assoc, List.append_assoc]
  exact List.perm_append_comm.append_left F
theorem rot_one {nm : ByteArray} {d : List UInt8} {la : Nat} (n : Int) (x : UInt8) : ∃ d', d'.length = d.length ∧ rotS [⟨nm, d, la⟩] nm n x = [⟨nm, d', la⟩] := by
  unfold rotS
  rw [get_one ⟨nm, d, la⟩]
  dsimp only
  split
  · exact ⟨d, rfl, rfl⟩
  · exact ⟨rotL d n.toNat x, by simp [rotL], by simp [putS]⟩
theorem u8_wf {n : Int} (h : (Lit.int .u8 n).wf = true) : ∃ x : UInt8, n = (x.toNat : Int) := by
  simp only [Lit.wf, IntKind.min, IntKind.max, IntKind.bits, IntKind.signed, Bool.and_eq_true, decide_eq_true_eq] at h
  simp at h
  refine ⟨UInt8.ofNat n.toNat, ?_⟩
  have : n.toNat < 256 := by omega
  simp [UInt8.toNat_ofNat', Nat.mod_eq_of_lt this]
  omega
theorem del_one (f : Fl) : delS [f] f.nm = [] := by simp [delS]

set_option maxHeartbeats 8000000 in
theorem copies_fn (v1 : Value) (l1 : List UInt8) (v2 : Value) (l2 : List UInt8) (at_ : Int) (by_ : Int) (w0 : World) (h1 : Sl w0 v1 (bv l1)) (h2 : Sl w0 v2 (bv l2)) (hat : (Lit.int .i64 at_).wf = true) (hby : (Lit.int .u8 by_).wf = true) (hx1 : l1.length ≤ 140737488355328) (hx2 : l2.length ≤ 140737488355328) :
    Fn Try.prog 7 #[v1, v2, .int .i64 at_, .int .u8 by_] w0 fun r w' => r = .bool true ∧ Below w0.heap.size w0 w' := by
  have hatw := i64_wf hat
  obtain ⟨x, rfl⟩ := u8_wf hby
  have hL := Sep.start Try.prog w0
  have hB := Nat.le_refl w0.heap.size
  obtain ⟨a1, c1, rfl⟩ := h1.shape
  obtain ⟨a2, c2, rfl⟩ := h2.shape
  simp only [bv_length] at *
  refine Fn.mk Try.func7 rfl (by kernel_rfl) Try.ntmps7 rfl (by rw [Try.results7]) ?_
  by_cases hbig : 8000 < l1.length + l2.length
  · repeat (first | (refine RunH ?_; intro w hL hB; try clear w) | (refine Both.mk ?_ ?_ <;> conv => whnf) | fail)
    exact ⟨rfl, hL.below⟩
  by_cases hz : l1.length = 0
  · repeat (first | (refine RunH ?_; intro w hL hB; try clear w) | (refine Both.mk ?_ ?_ <;> conv => whnf) | fail)
    exact ⟨rfl, hL.below⟩
  have p1 : ∀ {L : List Res} (w' : World), Sep Try.prog w0.heap.size w0 w' L → Sl w' (.slice a1 l1.length c1) (bv l1) := fun w' h => h.sl h1 rfl
  have p2 : ∀ {L : List Res} (w' : World), Sep Try.prog w0.heap.size w0 w' L → Sl w' (.slice a2 l2.length c2) (bv l2) := fun w' h => h.sl h2 rfl
  have hok : 1 ≤ nmx.size ∧ nmx.size ≤ 64 := by decide
  have hokz : 1 ≤ nmz.size ∧ nmz.size ≤ 64 := by decide
  have q1 : nmx.size ≤ 1000000 := by decide
  have q2 : nmz.size ≤ 1000000 := by decide
  repeat (first | (refine RunH ?_; intro w hL hB; try clear w) | (refine Both.mk ?_ ?_ <;> conv => whnf) | fail)
  refine (new_fn 1048576 hL hB).mono fun r w hr => ?_
  obtain ⟨b, rfl, hD⟩ := hr.1 (by decide)
  clear hr
  obtain ⟨dL, hL, hB, close⟩ := hD.open
  clear hD
  conv => whnf
  repeat (first | (refine RunH ?_; intro w hL hB; try clear w) | (refine Both.mk ?_ ?_ <;> conv => whnf) | fail)
  refine (append_fn nmx q1 _ l1 p1 (close (F' := []) hL hB)).mono fun r w ⟨hr, hD⟩ => ?_
  subst hr
  clear close hL hB
  rw [appS_new hok (by omega)] at hD
  rw [app_new hok (by omega)]
  obtain ⟨dL, hL, hB, close⟩ := hD.open
  conv => whnf
  repeat (first | (refine RunH ?_; intro w hL hB; try clear w) | (refine Both.mk ?_ ?_ <;> conv => whnf) | fail)
  refine (copy_fn (close (F' := []) hL hB)).mono fun r w ⟨c, S', dL, hr, hp, hD, close⟩ => ?_
  subst hr
  clear hL hB
  obtain rfl := List.perm_singleton.1 hp
  obtain ⟨cL, hL, hB, closec⟩ := hD.open
  clear hD
  conv => whnf
  repeat (first | (refine RunH ?_; intro w hL hB; try clear w) | (refine Both.mk ?_ ?_ <;> conv => whnf) | fail)
  refine (append_fn nmx q1 _ l2 p2 (close (F' := [] ++ cL) hL.swl hB)).mono fun r w ⟨hr, hD⟩ => ?_
  subst hr
  clear close hL hB
  rw [appS_one hok (by omega)] at hD
  rw [app_one hok (by omega)]
  obtain ⟨dL, hL, hB, close⟩ := hD.open
  clear hD
  conv => whnf
  repeat (first | (refine RunH ?_; intro w hL hB; try clear w) | (refine Both.mk ?_ ?_ <;> conv => whnf) | fail)
  refine Bt.maskI 65535 (by decide) rfl fun T hT => ?_
  conv => whnf
  repeat (first | (refine RunH ?_; intro w hL hB; try clear w) | (refine Both.mk ?_ ?_ <;> conv => whnf) | (refine Rem.at T l1.length rfl rfl (by omega) ?_; conv => whnf) | fail)
  refine (rot_fn nmx q1 _ x (close (F' := [] ++ cL) hL hB)).mono fun r w ⟨hr, hD⟩ => ?_
  subst hr
  clear close hL hB
  obtain ⟨d', hd', hrot⟩ := rot_one (nm := nmx) (d := l1 ++ l2) (la := 0) ((T % l1.length : Nat) : Int) x
  rw [hrot] at hD
  rw [List.length_append] at hd'
  generalize rotE [⟨nmx, l1 ++ l2, 0⟩] nmx ((T % l1.length : Nat) : Int) = er
  obtain ⟨dL, hL, hB, close⟩ := hD.open
  clear hD
  conv => whnf
  repeat (first | (refine RunH ?_; intro w hL hB; try clear w) | (refine Both.mk ?_ ?_ <;> conv => whnf) | fail)
  refine (read_fn nmx q1 (closec (F' := [] ++ dL) hL.swl hB)).mono fun r w hD => ?_
  clear closec hL hB
  rw [get_one ⟨nmx, l1, 0⟩] at hD
  obtain ⟨u, rfl, hD⟩ := hD
  obtain ⟨cL, hL, hB, closec⟩ := hD.open
  clear hD
  obtain ⟨ua, uc, rfl⟩ := (show SlN w 1 u _ _ from hL.rowN (i := 0) rfl).shape
  conv => whnf
  repeat (first | (refine RunH ?_; intro w hL hB; try clear w) | (refine Both.mk ?_ ?_ <;> conv => whnf) | fail)
  refine (remove_fn nmx q1 (closec (F' := [_] ++ dL) hL hB)).mono fun r w ⟨hr, hD⟩ => ?_
  subst hr
  clear closec hL hB
  rw [del_one ⟨nmx, l1, 0⟩] at hD
  rw [get_one ⟨nmx, l1, 0⟩, Option.isSome_some, if_pos rfl]
  obtain ⟨cL, hL, hB, closec⟩ := hD.open
  clear hD
  conv => whnf
  repeat (first | (refine RunH ?_; intro w hL hB; try clear w) | (refine Both.mk ?_ ?_ <;> conv => whnf) | fail)
  refine (append_fn nmz q2 _ l2 p2 (closec (F' := [_] ++ dL) hL hB)).mono fun r w ⟨hr, hD⟩ => ?_
  subst hr
  clear closec hL hB
  generalize appE (1048576 : Int).toNat [] nmz l2.length = er2
  obtain ⟨cL, hL, hB, closec⟩ := hD.open
  clear hD
  conv => whnf
  repeat (first | (refine RunH ?_; intro w hL hB; try clear w) | (refine Both.mk ?_ ?_ <;> conv => whnf) | fail)
  refine (read_fn nmz q2 (close (F' := [_] ++ cL) hL.swl hB)).mono fun r w hD => ?_
  clear close hL hB
  rw [show getS [⟨nmx, d', 0⟩] nmz = none from rfl] at hD
  obtain ⟨rfl, hD⟩ := hD
  obtain ⟨dL, hL, hB, close⟩ := hD.open
  clear hD
  conv => whnf
  repeat (first | (refine RunH ?_; intro w hL hB; try clear w) | (refine Both.mk ?_ ?_ <;> conv => whnf) | fail)
  refine (read_fn nmx q1 (close (F' := [_] ++ cL) hL hB)).mono fun r w hD => ?_
  clear close hL hB
  rw [get_one ⟨nmx, d', 0⟩] at hD
  obtain ⟨u, rfl, hD⟩ := hD
  obtain ⟨dL, hL, hB, close⟩ := hD.open
  clear hD
  obtain ⟨va, vc, rfl⟩ := (show SlN w 1 u _ _ from hL.rowN (i := 0) rfl).shape
  conv => whnf
  repeat (first | (refine RunH ?_; intro w hL hB; try clear w) | (refine Both.mk ?_ ?_ <;> conv => whnf) | fail)
  refine (same_fn _ _ l1 l1 _ (hL.row (i := 1) rfl) (p1 _ hL)).mono fun r w ⟨hr, hw⟩ => ?_
  subst hr
  rw [decide_eq_true rfl]
  replace hL := hL.call hB (Turns.of_below hw)
  replace hB := Nat.le_trans hB hw.size
  conv => whnf
  repeat (first | (refine RunH ?_; intro w hL hB; try clear w) | (refine Both.mk ?_ ?_ <;> conv => whnf) | (refine Br.yes (by simp; omega) ?_; conv => whnf) | fail)
  refine (known_fn _).mono fun r w ⟨hr, hw⟩ => ?_
  subst hr
  replace hL := hL.call hB (Turns.of_below hw)
  conv => whnf
  repeat (first | (refine RunH ?_; intro w hL hB; try clear w) | (refine Both.mk ?_ ?_ <;> conv => whnf) | fail)
  exact ⟨rfl, hL.below⟩
end Go.Proofs.Ytpfmnpkjhnbkhaa
