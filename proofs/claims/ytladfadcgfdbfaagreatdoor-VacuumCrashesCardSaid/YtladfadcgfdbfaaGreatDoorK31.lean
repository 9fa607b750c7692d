/- volume.Name of any number. volume: numbers that are no volume's; names of any number. Nothing is claimed here. -/
import Derived.Test.YtladfadcgfdbfaaGreatDoorK17
import Derived.Test.YtladfadcgfdbfaaGreatDoorK08
import Derived.Test.YtladfadcgfdbfaaGreatDoorItoa
import Derived.Test.YtladfadcgfdbfaaGreatDoorK21
import Derived.WalkSmall
namespace Go.Proofs.YtladfadcgfdbfaaGreatDoor
open Go.RowKit Go.Lib
set_option linter.unusedVariables false
set_option linter.unusedSimpArgs false
set_option maxRecDepth 100000

theorem decDigits_len : ∀ (n u : Nat), u < 10 ^ (n + 1) → (decDigits u).length ≤ n + 1
  | 0, u, h => by
    rw [decDigits, dif_pos (by simpa using h)]; simp
  | n + 1, u, h => by
    rw [decDigits]
    split
    · simp
    · have h2 : u / 10 < 10 ^ (n + 1) := by
        rw [Nat.pow_succ] at h
        omega
      have := decDigits_len n (u / 10) h2
      simp only [List.length_append, List.length_cons, List.length_nil]
      omega
theorem decDigits_pos (u : Nat) : 1 ≤ (decDigits u).length := by
  rw [decDigits]
  split <;> simp
/-- eight digits -/
def dig8 (i : Nat) : List UInt8 := List.replicate (8 - (decDigits i).length) 48 ++ decDigits i
theorem dig8_len {i : Nat} (h : i ≤ 99999999) : (dig8 i).length = 8 := by
  have := decDigits_len 7 i (by omega)
  rw [dig8, List.length_append, List.length_replicate]
  omega
theorem itoaG_fn (i : Nat) (hi : i ≤ 99999999) (w : World) (htab : TabIs Tryz.prog w "internal/strconv.uint64pow10" .u64 pow10Tab) : Fn Tryz.prog 63 #[.int .i64 (i : Int)] w fun r w' => r = .string ⟨(decDigits i).toArray⟩ ∧ Below w.heap.size w w' := by
  refine Fn.of_calls Tryz.func63 (by decide +kernel) rfl ((Tryz.strconv_Itoa (i : Int) (by omega) (by omega) w htab).mono fun e w' ⟨h1, k, os, h2⟩ => ⟨_, h1, ?_, ?_⟩)
  · rw [itoa, if_neg (by omega), Int.toNat_natCast]
  · subst h2
    exact ⟨rfl, rfl, rfl, by simp, fun j hj => Go.Sort.heap_grow_old _ _ (by simpa using hj)⟩
def vnmG (i : Nat) : ByteArray := ⟨([118] ++ dig8 i ++ [46, 100, 97, 116]).toArray⟩
theorem vnmG_size {i : Nat} (h : i ≤ 99999999) : (vnmG i).size = 13 := by
  show ([118] ++ dig8 i ++ [46, 100, 97, 116]).toArray.size = 13
  simp [dig8_len h]
set_option maxHeartbeats 1000000 in
theorem vnameG_fn (i : Nat) (hi : i ≤ 99999999) (w : World) (htab : TabIs Tryz.prog w "internal/strconv.uint64pow10" .u64 pow10Tab) : Fn Tryz.prog 20 #[.int .i64 (i : Int)] w fun r w' => r = .string (vnmG i) ∧ Below w.heap.size w w' := by
  have hL := Sep.start Tryz.prog w
  have hB := Nat.le_refl w.heap.size
  have hd1 := decDigits_pos i
  have hd8 := decDigits_len 7 i (by omega)
  refine Fn.mk Tryz.func20 rfl (by kernel_rfl) Tryz.ntmps20 rfl (by rw [Tryz.results20]) ?_
  repeat (first | (refine RunH ?_; intro w hL hB; try clear w) | (refine Both.mk ?_ ?_ <;> conv => whnf) | fail)
  refine (isID_fn i _).mono fun r w' ⟨hr, hw⟩ => ?_
  rw [decide_eq_true (by omega)] at hr
  subst hr; subst hw
  conv => whnf
  repeat (first | (refine RunH ?_; intro w hL hB; try clear w) | (refine Both.mk ?_ ?_ <;> conv => whnf) | fail)
  refine (itoaG_fn i hi _ htab).mono fun r w ⟨hr, hw⟩ => ?_
  subst hr
  replace hL := hL.call hB (Turns.of_below hw)
  replace hB := Nat.le_trans hB hw.size
  have hsz : (⟨(decDigits i).toArray⟩ : ByteArray).size = (decDigits i).length := rfl
  conv => whnf
  repeat (first | (refine RunH ?_; intro w hL hB; try clear w) | (refine Both.mk ?_ ?_ <;> conv => whnf) | fail)
  rw [show (8 - ((⟨(decDigits i).toArray⟩ : ByteArray).size : Int)) = ((8 - (decDigits i).length : Nat) : Int) from by rw [hsz]; omega]
  refine (repeat0_fn (8 - (decDigits i).length) (by omega) _).mono fun r w' ⟨hr, hw⟩ => ?_
  subst hr; subst hw
  have hzs : (zs (8 - (decDigits i).length)).size = 8 - (decDigits i).length := by
    show (List.replicate (8 - (decDigits i).length) (48 : UInt8)).toArray.size = _
    simp
  conv => whnf
  repeat (first | (refine RunH ?_; intro w hL hB; try clear w) | (refine Both.mk ?_ ?_ <;> conv => whnf) | fail)
  have e1 : ∀ x y : ByteArray, (x ++ y).size = x.size + y.size := fun x y => ByteArray.size_append
  have s1 : (⟨#[118]⟩ : ByteArray).size = 1 := rfl
  have s4 : (⟨#[46, 100, 97, 116]⟩ : ByteArray).size = 4 := rfl
  refine Chk.mk (by rw [hzs, s1]; omega) ?_
  conv => whnf
  repeat (first | (refine RunH ?_; intro w hL hB; try clear w) | (refine Both.mk ?_ ?_ <;> conv => whnf) | fail)
  refine Chk.mk (by rw [e1, hzs, hsz, s1]; omega) ?_
  conv => whnf
  repeat (first | (refine RunH ?_; intro w hL hB; try clear w) | (refine Both.mk ?_ ?_ <;> conv => whnf) | fail)
  refine Chk.mk (by rw [e1, e1, hzs, hsz, s1, s4]; omega) ?_
  conv => whnf
  repeat (first | (refine RunH ?_; intro w hL hB; try clear w) | (refine Both.mk ?_ ?_ <;> conv => whnf) | fail)
  refine ⟨congrArg Value.string ?_, hL.below⟩
  apply ByteArray.ext
  simp [vnmG, dig8, zs]
end Go.Proofs.YtladfadcgfdbfaaGreatDoor
namespace Go.Proofs.YtladfadcgfdbfaaGreatDoor
open Go.RowKit Go.Lib
set_option linter.unusedVariables false
set_option linter.unusedSimpArgs false
set_option maxRecDepth 100000
theorem tab_below {P : Program} {w0 w : World} {name : String} {k : IntKind} {zs : List Int} (h : TabIs P w0 name k zs) (hb : Below w0.heap.size w0 w) : TabIs P w name k zs := by
  unfold TabIs at *
  cases hg : P.globalNamed name with
  | none => simp [World.var?, hg] at h
  | some g =>
    refine var?_below hb hg ?_ h
    refine Nat.lt_of_not_le fun hge => ?_
    simp only [World.var?, hg, Option.bind_some] at h
    rw [Array.getElem?_eq_none hge] at h
    cases h
theorem nameInG {w0 : World} (htab : TabIs Tryz.prog w0 "internal/strconv.uint64pow10" .u64 pow10Tab) {id : Nat} (hi : id ≤ 99999999) : NameIn w0.heap.size w0 id (vnmG id) :=
  ⟨⟨hi, by rw [vnmG_size hi]; decide, by rw [vnmG_size hi]; decide⟩, fun w L hL _ => vnameG_fn id hi w (tab_below htab hL.below)⟩
theorem vcreate_bad (d : Nat) (id : Int) (h : ¬ (0 ≤ id ∧ id ≤ 99999999)) (w : World) : Fn Tryz.prog 14 #[ptr d, .int .i64 id] w fun r w' => r = .tuple #[.pointer none, .int .i64 1] ∧ w' = w := by
  have hL := Sep.start Tryz.prog w
  have hB := Nat.le_refl w.heap.size
  have hid := isID_fn id
  rw [decide_eq_false h] at hid
  refine Fn.mk Tryz.func14 rfl (by kernel_rfl) Tryz.ntmps14 rfl (by rw [Tryz.results14]) ?_
  repeat (first | (refine RunH ?_; intro w hL hB; try clear w) | (refine Both.mk ?_ ?_ <;> conv => whnf) | (refine (hid _).mono fun r w1 hr => ?_; obtain ⟨hr, hw⟩ := hr; subst hr; subst hw; conv => whnf) | fail)
  exact ⟨rfl, rfl⟩
theorem vopen_bad (d : Nat) (id : Int) (h : ¬ (0 ≤ id ∧ id ≤ 99999999)) (w : World) : Fn Tryz.prog 31 #[ptr d, .int .i64 id] w fun r w' => r = .tuple #[.pointer none, .int .i64 1] ∧ w' = w := by
  have hL := Sep.start Tryz.prog w
  have hB := Nat.le_refl w.heap.size
  have hid := isID_fn id
  rw [decide_eq_false h] at hid
  refine Fn.mk Tryz.func31 rfl (by kernel_rfl) Tryz.ntmps31 rfl (by rw [Tryz.results31]) ?_
  repeat (first | (refine RunH ?_; intro w hL hB; try clear w) | (refine Both.mk ?_ ?_ <;> conv => whnf) | (refine (hid _).mono fun r w1 hr => ?_; obtain ⟨hr, hw⟩ := hr; subst hr; subst hw; conv => whnf) | fail)
  exact ⟨rfl, rfl⟩
theorem vname_bad (id : Int) (h : ¬ (0 ≤ id ∧ id ≤ 99999999)) (w : World) : Fn Tryz.prog 20 #[.int .i64 id] w fun r w' => r = .string ⟨#[]⟩ ∧ w' = w := by
  have hL := Sep.start Tryz.prog w
  have hB := Nat.le_refl w.heap.size
  have hid := isID_fn id
  rw [decide_eq_false h] at hid
  refine Fn.mk Tryz.func20 rfl (by kernel_rfl) Tryz.ntmps20 rfl (by rw [Tryz.results20]) ?_
  repeat (first | (refine RunH ?_; intro w hL hB; try clear w) | (refine Both.mk ?_ ?_ <;> conv => whnf) | (refine (hid _).mono fun r w1 hr => ?_; obtain ⟨hr, hw⟩ := hr; subst hr; subst hw; conv => whnf) | fail)
  exact ⟨rfl, rfl⟩
end Go.Proofs.YtladfadcgfdbfaaGreatDoor
