/- volume.Name of any number. Rows of structs: parts of them, stores into them. Nothing is claimed here. -/
import Derived.Test.YtpkealgeigpjpaaGreatDoorK17
import Derived.Test.YtpkealgeigpjpaaGreatDoorK08
import Derived.Test.YtpkealgeigpjpaaGreatDoorItoa
import Derived.Test.YtpkealgeigpjpaaGreatDoorK03
namespace Go.Proofs.YtpkealgeigpjpaaGreatDoor
open Go.RowKit Go.Lib
set_option linter.unusedVariables false
set_option linter.unusedSimpArgs false
set_option maxRecDepth 100000

theorem decDigits_len : ∀ (n u : Nat), u < 10 ^ (n + 1) → (decDigits u).length ≤ n + 1
  | 0, u, h => by
    rw [decDigits, dif_pos (by simpa using h)]; simp
  | n + 1, u, h => by
    rw [decDigits]
    split
    · simp
    · have h2 : u / 10 < 10 ^ (n + 1) := by
        rw [Nat.pow_succ] at h
        omega
      have := decDigits_len n (u / 10) h2
      simp only [List.length_append, List.length_cons, List.length_nil]
      omega
theorem decDigits_pos (u : Nat) : 1 ≤ (decDigits u).length := by
  rw [decDigits]
  split <;> simp
/-- eight digits -/
def dig8 (i : Nat) : List UInt8 := List.replicate (8 - (decDigits i).length) 48 ++ decDigits i
theorem dig8_len {i : Nat} (h : i ≤ 99999999) : (dig8 i).length = 8 := by
  have := decDigits_len 7 i (by omega)
  rw [dig8, List.length_append, List.length_replicate]
  omega
theorem itoaG_fn (i : Nat) (hi : i ≤ 99999999) (w : World) (htab : TabIs Tryz.prog w "internal/strconv.uint64pow10" .u64 pow10Tab) : Fn Tryz.prog 31 #[.int .i64 (i : Int)] w fun r w' => r = .string ⟨(decDigits i).toArray⟩ ∧ Below w.heap.size w w' := by
  refine Fn.of_calls Tryz.func31 (by decide +kernel) rfl ((Tryz.strconv_Itoa (i : Int) (by omega) (by omega) w htab).mono fun e w' ⟨h1, k, os, h2⟩ => ⟨_, h1, ?_, ?_⟩)
  · rw [itoa, if_neg (by omega), Int.toNat_natCast]
  · subst h2
    exact ⟨rfl, rfl, rfl, by simp, fun j hj => Go.Sort.heap_grow_old _ _ (by simpa using hj)⟩
def vnmG (i : Nat) : ByteArray := ⟨([118] ++ dig8 i ++ [46, 100, 97, 116]).toArray⟩
theorem vnmG_size {i : Nat} (h : i ≤ 99999999) : (vnmG i).size = 13 := by
  show ([118] ++ dig8 i ++ [46, 100, 97, 116]).toArray.size = 13
  simp [dig8_len h]
set_option maxHeartbeats 1000000 in
theorem vnameG_fn (i : Nat) (hi : i ≤ 99999999) (w : World) (htab : TabIs Tryz.prog w "internal/strconv.uint64pow10" .u64 pow10Tab) : Fn Tryz.prog 10 #[.int .i64 (i : Int)] w fun r w' => r = .string (vnmG i) ∧ Below w.heap.size w w' := by
  have hL := Sep.start Tryz.prog w
  have hB := Nat.le_refl w.heap.size
  have hd1 := decDigits_pos i
  have hd8 := decDigits_len 7 i (by omega)
  refine Fn.mk Tryz.func10 rfl (by kernel_rfl) Tryz.ntmps10 rfl (by rw [Tryz.results10]) ?_
  repeat (first | (refine RunH ?_; intro w hL hB; try clear w) | (refine Both.mk ?_ ?_ <;> conv => whnf) | fail)
  refine (isID_fn i _).mono fun r w' ⟨hr, hw⟩ => ?_
  rw [decide_eq_true (by omega)] at hr
  subst hr; subst hw
  conv => whnf
  repeat (first | (refine RunH ?_; intro w hL hB; try clear w) | (refine Both.mk ?_ ?_ <;> conv => whnf) | fail)
  refine (itoaG_fn i hi _ htab).mono fun r w ⟨hr, hw⟩ => ?_
  subst hr
  replace hL := hL.call hB (Turns.of_below hw)
  replace hB := Nat.le_trans hB hw.size
  have hsz : (⟨(decDigits i).toArray⟩ : ByteArray).size = (decDigits i).length := rfl
  conv => whnf
  repeat (first | (refine RunH ?_; intro w hL hB; try clear w) | (refine Both.mk ?_ ?_ <;> conv => whnf) | fail)
  rw [show (8 - ((⟨(decDigits i).toArray⟩ : ByteArray).size : Int)) = ((8 - (decDigits i).length : Nat) : Int) from by rw [hsz]; omega]
  refine (repeat0_fn (8 - (decDigits i).length) (by omega) _).mono fun r w' ⟨hr, hw⟩ => ?_
  subst hr; subst hw
  have hzs : (zs (8 - (decDigits i).length)).size = 8 - (decDigits i).length := by
    show (List.replicate (8 - (decDigits i).length) (48 : UInt8)).toArray.size = _
    simp
  conv => whnf
  repeat (first | (refine RunH ?_; intro w hL hB; try clear w) | (refine Both.mk ?_ ?_ <;> conv => whnf) | fail)
  have e1 : ∀ x y : ByteArray, (x ++ y).size = x.size + y.size := fun x y => ByteArray.size_append
  have s1 : (⟨#[118]⟩ : ByteArray).size = 1 := rfl
  have s4 : (⟨#[46, 100, 97, 116]⟩ : ByteArray).size = 4 := rfl
  refine Chk.mk (by rw [hzs, s1]; omega) ?_
  conv => whnf
  repeat (first | (refine RunH ?_; intro w hL hB; try clear w) | (refine Both.mk ?_ ?_ <;> conv => whnf) | fail)
  refine Chk.mk (by rw [e1, hzs, hsz, s1]; omega) ?_
  conv => whnf
  repeat (first | (refine RunH ?_; intro w hL hB; try clear w) | (refine Both.mk ?_ ?_ <;> conv => whnf) | fail)
  refine Chk.mk (by rw [e1, e1, hzs, hsz, s1, s4]; omega) ?_
  conv => whnf
  repeat (first | (refine RunH ?_; intro w hL hB; try clear w) | (refine Both.mk ?_ ?_ <;> conv => whnf) | fail)
  refine ⟨congrArg Value.string ?_, hL.below⟩
  apply ByteArray.ext
  simp [vnmG, dig8, zs]
end Go.Proofs.YtpkealgeigpjpaaGreatDoor
namespace Go.Proofs.YtpkealgeigpjpaaGreatDoor
open Go.RowKit
set_option linter.unusedVariables false
set_option linter.unusedSimpArgs false
set_option maxRecDepth 100000

theorem splice_skip : ∀ (xs ys : List Value) (i : Nat) (vs : List Value), splice (xs ++ ys) (xs.length + i) vs = xs ++ splice ys i vs
  | [], ys, i, vs => by simp
  | x :: xs, ys, i, vs => by
    rw [List.length_cons, show xs.length + 1 + i = (xs.length + i) + 1 from by omega, List.cons_append, splice, splice_skip xs ys i vs]; rfl
theorem splice_app (xs ys : List Value) (j : Nat) (vs : List Value) (h : j + vs.length ≤ xs.length) : splice (xs ++ ys) j vs = splice xs j vs ++ ys := by
  rw [splice_eq _ _ _ (by simp; omega), splice_eq _ _ _ h, List.take_append_of_le_length (by omega), List.drop_append_of_le_length h]
  simp
theorem splice_map {α : Type} {f : α → List Value} {sz : Nat} (hf : ∀ s, (f s).length = sz) : ∀ (ss : List α) (k : Nat) (s s' : α) (j : Nat) (vs : List Value), ss[k]? = some s → j + vs.length ≤ sz → splice (f s) j vs = f s' → splice (ss.flatMap f) (k * sz + j) vs = (ss.set k s').flatMap f
  | [], k, s, s', j, vs, h, _, _ => by simp at h
  | a :: L, 0, s, s', j, vs, h, hj, he => by
    simp at h; subst h
    rw [Nat.zero_mul, Nat.zero_add, List.flatMap_cons, splice_app _ _ _ _ (by rw [hf]; exact hj), he]
    simp
  | a :: L, k + 1, s, s', j, vs, h, hj, he => by
    have ha := hf a
    rw [List.flatMap_cons, show (k + 1) * sz + j = (f a).length + (k * sz + j) from by rw [ha, Nat.add_mul]; omega, splice_skip, splice_map hf L k s s' j vs (by simpa using h) hj he]
    simp
theorem own_shape0 {w : World} {base : Nat} {e : TypeId} {sz : Nat} {v : Value} {n : Nat} {xs : List Value} (h : w.ownsRow base e sz v n xs) (hn : 0 < n) : ∃ g cap, v = .slice (some ⟨g, 0, none⟩) n cap ∧ n ≤ cap := by
  rcases h.2 with ⟨_, rfl⟩ | ⟨g, cap, _, rfl, _, _, h1, _⟩
  · omega
  · exact ⟨g, cap, rfl, h1⟩
theorem flat_take {α : Type} {f : α → List Value} {sz : Nat} (hf : ∀ s, (f s).length = sz) : ∀ (ss : List α) (k : Nat), (ss.take k).flatMap f = (ss.flatMap f).take (k * sz)
  | [], k => by simp
  | a :: L, 0 => by simp
  | a :: L, k + 1 => by
    rw [List.take_succ_cons, List.flatMap_cons, List.flatMap_cons, flat_take hf L k, show (k + 1) * sz = (f a).length + k * sz from by rw [hf, Nat.add_mul]; omega, List.take_length_add_append]
theorem flat_drop {α : Type} {f : α → List Value} {sz : Nat} (hf : ∀ s, (f s).length = sz) : ∀ (ss : List α) (k : Nat), (ss.drop k).flatMap f = (ss.flatMap f).drop (k * sz)
  | [], k => by simp
  | a :: L, 0 => by simp
  | a :: L, k + 1 => by
    rw [List.drop_succ_cons, List.flatMap_cons, flat_drop hf L k, show (k + 1) * sz = (f a).length + k * sz from by rw [hf, Nat.add_mul]; omega, List.drop_length_add_append]
/-- the first elements of a row of structs -/
theorem SlN.takeF {α : Type} {f : α → List Value} {sz : Nat} (hf : ∀ s, (f s).length = sz) {w : World} {b o n c : Nat} {ss : List α} (h : SlN w sz (.slice (some ⟨b, o, none⟩) n c) ss.length (ss.flatMap f)) {k : Nat} (hk : k ≤ ss.length) {c' : Nat} (h1 : k ≤ c') (h2 : c' ≤ c) :
    SlN w sz (.slice (some ⟨b, o, none⟩) k c') k ((ss.take k).flatMap f) := by
  obtain ⟨hl, a, c0, he, q1, q2, q3, q4⟩ := h
  injection he with e1 e2 e3
  subst e1; subst e3
  refine SlN.some' (by rw [flat_len hf, List.length_take, Nat.min_eq_left hk]) h1 (by omega) ?_
  rw [flat_take hf]
  exact (Row.of_cells (Row.cells (q4 _ rfl))).take _
/-- .. and the others -/
theorem SlN.dropF {α : Type} {f : α → List Value} {sz : Nat} (hf : ∀ s, (f s).length = sz) {w : World} {b o n c : Nat} {ss : List α} (h : SlN w sz (.slice (some ⟨b, o, none⟩) n c) ss.length (ss.flatMap f)) {k : Nat} (hk : k ≤ ss.length) {o' n' c' : Nat} (ho : k < c → o' = o + k * sz) (hn : n' = ss.length - k) (hc : c' = c - k) :
    SlN w sz (.slice (some ⟨b, o', none⟩) n' c') (ss.length - k) ((ss.drop k).flatMap f) := by
  obtain ⟨hl, a, c0, he, q1, q2, q3, q4⟩ := h
  injection he with e1 e2 e3
  subst e1; subst e3; subst hn
  by_cases hkc : k < c
  · rw [ho hkc]
    refine SlN.some' (by rw [flat_len hf, List.length_drop]) (by omega) (by omega) ?_
    rw [flat_drop hf]
    exact (Row.of_cells (Row.cells (q4 _ rfl))).drop _
  · have : ss.drop k = [] := List.drop_eq_nil_of_le (by omega)
    rw [this]
    exact SlN.some' (by have h0 : ss.length - k = 0 := by omega
                        rw [h0]; simp) (by omega) (by omega) (fun i x hx => by simp at hx)
section
variable {P : Program} {T : Tab} (hT : TabOk P T) {B : Nat} {w0 w : World} {R : List Res} (hS : Sep P B w0 w R)
include hT hS
/-- a store into an element of a row of one's own -/
theorem St.rowM {t : TypeId} {d : Td} {g o m : Nat} {v : Value} {K : World → Prop} {α : Type} {f : α → List Value} {sz : Nat} (hf : ∀ s, (f s).length = sz) (i k j : Nat) {e : TypeId} {n cap : Nat} {ss : List α} {s : α} (s' : α) (hl : look T t = some d) (hs : Nat.beq (llen (cellsL v)) d.size = true) (h1 : allOne (cellsL v) = true)
    (hi : R[i]? = some (.row e sz (.slice (some ⟨g, 0, none⟩) m cap) n (ss.flatMap f))) (hk : ss[k]? = some s) (hj : j + d.size ≤ sz) (he : splice (f s) j (cellsL v) = f s') (ho : o = k * sz + j) (hB : B ≤ w.heap.size)
    (hkk : ∀ w', Sep P B w0 w' (R.set i (.row e sz (.slice (some ⟨g, 0, none⟩) m cap) n ((ss.set k s').flatMap f))) → B ≤ w'.heap.size → K w') : St P w t ⟨g, o, none⟩ v K := by
  subst ho
  have hs' := Nat.eq_of_beq_eq_true hs
  rw [llen_eq] at hs'
  have hkl := (List.getElem?_eq_some_iff.1 hk).1
  refine St.rowS hT hS i hl hs h1 hi ?_ hB fun w' h2 hB' => hkk w' ?_ hB'
  · rw [flat_len hf]
    have : (k + 1) * sz ≤ ss.length * sz := Nat.mul_le_mul_right _ hkl
    rw [Nat.add_mul] at this
    omega
  · rw [splice_map hf ss k s s' j _ hk (by omega) he] at h2
    exact h2
end
end Go.Proofs.YtpkealgeigpjpaaGreatDoor
