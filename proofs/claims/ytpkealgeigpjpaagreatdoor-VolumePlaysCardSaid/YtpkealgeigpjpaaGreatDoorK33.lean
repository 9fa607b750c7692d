/- Disks and their reference: what does not hang on the order of the files. garnerref12: Eight, Name, head; garnerref4.Disk.Size; Create, There. Nothing is claimed here. -/
import Derived.Test.YtpkealgeigpjpaaGreatDoorK32
import Derived.Test.YtpkealgeigpjpaaGreatDoorK26
import Derived.Test.YtpkealgeigpjpaaGreatDoorK27
import Derived.Test.YtpkealgeigpjpaaGreatDoorK28
namespace Go.Proofs.YtpkealgeigpjpaaGreatDoor
open Go.RowKit
set_option linter.unusedVariables false
set_option linter.unusedSimpArgs false
set_option maxRecDepth 100000

def NdS (S : List Fl) : Prop := (S.map (·.nm)).Nodup
theorem DkS.nd {B : Nat} {w0 w : World} {b room : Nat} {S : List Fl} {F : List Res} (h : DkS B w0 w b room S F) : NdS S := by
  obtain ⟨mo, fs, rfl, hok, _⟩ := h.of
  have := hok.nd
  rw [NdS, List.map_map]; exact this
theorem DkS.big {B : Nat} {w0 w : World} {b room : Nat} {S : List Fl} {F : List Res} (h : DkS B w0 w b room S F) {nm : ByteArray} {f : Fl} (hg : getS S nm = some f) : f.d.length ≤ 1073741824 := by
  obtain ⟨mo, fs, rfl, hok, _⟩ := h.of
  rw [getF_fl] at hg
  cases hf : getF fs nm with
  | none => rw [hf] at hg; cases hg
  | some g =>
    rw [hf] at hg
    injection hg with hg
    subst hg
    have := len_le hok hf
    show g.d.length ≤ _
    omega
theorem RkS.srt {B : Nat} {w0 w : World} {b room : Nat} {S : List Fl} {F : List Res} (h : RkS B w0 w b room S F) : (S.map (·.nm)).Pairwise ltF := by
  obtain ⟨L, fs, rfl, hok, _⟩ := h.of
  rw [List.map_map]; exact hok.srt
theorem NdS.perm {S R : List Fl} (h : NdS S) (hp : R.Perm S) : NdS R := (hp.map _).nodup_iff.2 h
theorem getS_iff {S : List Fl} (h : NdS S) {nm : ByteArray} {f : Fl} : getS S nm = some f ↔ f ∈ S ∧ f.nm = nm := by
  induction S with
  | nil => simp [getS]
  | cons g S ih =>
    have hg : g.nm ∉ S.map (·.nm) := (List.nodup_cons.1 h).1
    have h' : NdS S := (List.nodup_cons.1 h).2
    rw [getS]
    by_cases hn : g.nm = nm
    · rw [if_pos hn]
      constructor
      · intro e; injection e with e; subst e; exact ⟨by simp, hn⟩
      · rintro ⟨hm, hf⟩
        rcases List.mem_cons.1 hm with rfl | hm
        · rfl
        · exact absurd (List.mem_map_of_mem (f := fun x : Fl => x.nm) hm) (by rw [hf, ← hn]; exact hg)
    · rw [if_neg hn, ih h']
      constructor
      · rintro ⟨hm, hf⟩; exact ⟨by simp [hm], hf⟩
      · rintro ⟨hm, hf⟩
        rcases List.mem_cons.1 hm with rfl | hm
        · exact absurd hf hn
        · exact ⟨hm, hf⟩
theorem getS_perm {S R : List Fl} (h : NdS S) (hp : R.Perm S) (nm : ByteArray) : getS R nm = getS S nm := by
  cases hs : getS S nm with
  | some f => exact (getS_iff (h.perm hp)).2 ⟨hp.mem_iff.2 ((getS_iff h).1 hs).1, ((getS_iff h).1 hs).2⟩
  | none =>
    cases hr : getS R nm with
    | none => rfl
    | some f =>
      have h1 := (getS_iff (h.perm hp)).1 hr
      have h2 := (getS_iff h).2 ⟨hp.mem_iff.1 h1.1, h1.2⟩
      rw [hs] at h2; cases h2
theorem putS_perm0 : ∀ (S : List Fl) (g : Fl), (putS S g).Perm (g :: delS S g.nm)
  | [], g => .refl _
  | f :: fs, g => by
    simp only [putS, delS]
    split
    · exact .refl _
    · exact ((putS_perm0 fs g).cons f).trans (.swap _ _ _)
theorem delS_filter {S : List Fl} (h : NdS S) (nm : ByteArray) : delS S nm = S.filter fun f => decide (f.nm ≠ nm) := by
  induction S with
  | nil => rfl
  | cons g S ih =>
    have hg : g.nm ∉ S.map (·.nm) := (List.nodup_cons.1 h).1
    have h' : NdS S := (List.nodup_cons.1 h).2
    rw [delS]
    by_cases hn : g.nm = nm
    · rw [if_pos hn, List.filter_cons_of_neg (by simp [hn])]
      refine (List.filter_eq_self.2 fun f hf => ?_).symm
      have : f.nm ≠ nm := fun e => hg (by rw [hn, ← e]; exact List.mem_map_of_mem (f := fun x : Fl => x.nm) hf)
      simpa using this
    · rw [if_neg hn, List.filter_cons_of_pos (by simp [hn]), ih h']
theorem delS_perm {S R : List Fl} (h : NdS S) (hp : R.Perm S) (nm : ByteArray) : (delS R nm).Perm (delS S nm) := by
  rw [delS_filter h, delS_filter (h.perm hp)]
  exact hp.filter _
theorem putS_perm {S R : List Fl} (h : NdS S) (hp : R.Perm S) (g : Fl) : (putS R g).Perm (putS S g) :=
  (putS_perm0 R g).trans (((delS_perm h hp g.nm).cons g).trans (putS_perm0 S g).symm)
theorem NdS.del {S : List Fl} (h : NdS S) (nm : ByteArray) : NdS (delS S nm) := by
  rw [delS_filter h]
  exact h.sublist (List.filter_sublist.map _)
theorem totS_perm {S R : List Fl} (hp : R.Perm S) : totS R = totS S := (hp.map _).sum_nat
theorem appE_perm {S R : List Fl} (h : NdS S) (hp : R.Perm S) (room : Nat) (nm : ByteArray) (n : Nat) : appE room R nm n = appE room S nm n := by
  rw [appE, appE, getS_perm h hp, hp.length_eq, totS_perm hp]
theorem appS_perm {S R : List Fl} (h : NdS S) (hp : R.Perm S) (room : Nat) (nm : ByteArray) (xs : List UInt8) : (appS room R nm xs).Perm (appS room S nm xs) := by
  rw [appS, appS, appE_perm h hp]
  split
  · rw [appF, appF, getS_perm h hp]; exact putS_perm h hp _
  · exact hp
theorem syncS_perm {S R : List Fl} (h : NdS S) (hp : R.Perm S) (nm : ByteArray) : (syncS R nm).Perm (syncS S nm) := by
  rw [syncS, syncS, getS_perm h hp]
  split
  · exact putS_perm h hp _
  · exact hp
theorem renE_perm {S R : List Fl} (h : NdS S) (hp : R.Perm S) (a z : ByteArray) : renE R a z = renE S a z := by rw [renE, renE, getS_perm h hp]
theorem renS_perm {S R : List Fl} (h : NdS S) (hp : R.Perm S) (a z : ByteArray) : (renS R a z).Perm (renS S a z) := by
  rw [renS, renS, getS_perm h hp]
  split
  · split
    · exact hp
    · exact putS_perm (h.del a) (delS_perm h hp a) _
  · exact hp
theorem cutE_perm {S R : List Fl} (h : NdS S) (hp : R.Perm S) (nm : ByteArray) (n : Int) : cutE R nm n = cutE S nm n := by rw [cutE, cutE, getS_perm h hp]
theorem cutS_perm {S R : List Fl} (h : NdS S) (hp : R.Perm S) (nm : ByteArray) (n : Int) : (cutS R nm n).Perm (cutS S nm n) := by
  rw [cutS, cutS, getS_perm h hp]
  split
  · split
    · exact hp
    · exact putS_perm h hp _
  · exact hp
theorem rotE_perm {S R : List Fl} (h : NdS S) (hp : R.Perm S) (nm : ByteArray) (n : Int) : rotE R nm n = rotE S nm n := by rw [rotE, rotE, getS_perm h hp]
theorem rotS_perm {S R : List Fl} (h : NdS S) (hp : R.Perm S) (nm : ByteArray) (n : Int) (x : UInt8) : (rotS R nm n x).Perm (rotS S nm n x) := by
  rw [rotS, rotS, getS_perm h hp]
  split
  · split
    · exact hp
    · exact putS_perm h hp _
  · exact hp
theorem names_perm' {S R : List Fl} (hp : R.Perm S) : names R = names S := by
  unfold names
  exact mergeSort_of_perm (hp.map _)
theorem crashS_perm {S R : List Fl} (hp : R.Perm S) (draw : Int) : (crashS R draw).Perm (crashS S draw) := by
  rw [crashS, crashS]
  have e : ∀ f, rank R f = rank S f := fun f => by rw [rank, rank, names_perm' hp]
  simp only [e]
  exact hp.map _

/-! ### two disks side by side: the program's and the reference's -/
structure Two (B : Nat) (w0 w : World) (d k room : Nat) (S : List Fl) (F : List Res) : Prop where
  of : ∃ R dR, R.Perm S ∧ DkS B w0 w d room S (F ++ dR) ∧ ∀ {w' : World} {F' : List Res}, Sep Tryz.prog B w0 w' (F' ++ dR) → B ≤ w'.heap.size → RkS B w0 w' k room R F'
theorem Two.mk' {B : Nat} {w0 w : World} {d k room : Nat} {S R : List Fl} {F dD : List Res} (hp : R.Perm S) (hR : RkS B w0 w k room R (F ++ dD))
    (cl : ∀ {w' : World} {F' : List Res}, Sep Tryz.prog B w0 w' (F' ++ dD) → B ≤ w'.heap.size → DkS B w0 w' d room S F') : Two B w0 w d k room S F := by
  obtain ⟨dR, hL, hB, cR⟩ := hR.open
  exact ⟨R, dR, hp, cl hL.swl hB, cR⟩
theorem Two.sub {B : Nat} {w0 w : World} {d k room : Nat} {S : List Fl} {F F' : List Res} (h : Two B w0 w d k room S F) (hs : F'.Sublist F) : Two B w0 w d k room S F' := by
  obtain ⟨R, dR, hp, hD, cR⟩ := h
  exact ⟨R, dR, hp, hD.sub (hs.append (.refl _)), cR⟩
theorem Two.tl {B : Nat} {w0 w : World} {d k room : Nat} {S : List Fl} {F : List Res} {r : Res} (h : Two B w0 w d k room S (r :: F)) : Two B w0 w d k room S F := h.sub (List.sublist_cons_self _ _)
theorem strs_eq {R : List Fl} (h : (R.map (·.nm)).Pairwise ltF) : (names R).map encStr = (R.map (·.nm)).map Value.string := by
  rw [names_srt h, List.map_map, List.map_map]
  exact List.map_congr_left fun f _ => encStr_nm f.nm
end Go.Proofs.YtpkealgeigpjpaaGreatDoor
namespace Go.Proofs.YtpkealgeigpjpaaGreatDoor
open Go.RowKit Go.Lib
set_option linter.unusedVariables false
set_option linter.unusedSimpArgs false
set_option maxRecDepth 100000

/-- i digits -/
def padD : Nat → Nat → List UInt8
  | 0, _ => []
  | i + 1, n => padD i (n / 10) ++ [UInt8.ofNat (48 + n % 10)]
theorem padD_len : ∀ i n, (padD i n).length = i
  | 0, _ => rfl
  | i + 1, n => by rw [padD, List.length_append, padD_len i]; rfl
theorem padD_head : ∀ i n, padD (i + 1) n = [UInt8.ofNat (48 + n / 10 ^ i % 10)] ++ padD i n
  | 0, n => by simp [padD]
  | i + 1, n => by
    rw [padD, padD_head i (n / 10), padD, Nat.div_div_eq_div_mul, Nat.pow_succ, Nat.mul_comm (10 ^ i) 10, List.append_assoc]
theorem padD_zero : ∀ i, padD i 0 = List.replicate i 48
  | 0 => rfl
  | i + 1 => by rw [padD, Nat.zero_div, padD_zero i, List.replicate_succ']; rfl
theorem padD_dec : ∀ (m n : Nat), n < 10 ^ m → 0 < m → List.replicate (m - (decDigits n).length) 48 ++ decDigits n = padD m n
  | m + 1, n, h, _ => by
    rw [decDigits]
    by_cases hn : n < 10
    · rw [dif_pos hn, padD, Nat.div_eq_of_lt hn, padD_zero, Nat.mod_eq_of_lt hn]
      simp
    · rw [dif_neg hn, padD]
      have hm : 0 < m := by
        rcases Nat.eq_zero_or_pos m with rfl | h1
        · simp at h; omega
        · exact h1
      rw [← padD_dec m (n / 10) (by rw [Nat.pow_succ] at h; omega) hm, List.append_assoc]
      congr 2
      simp
theorem dig8_pad {n : Nat} (h : n ≤ 99999999) : dig8 n = padD 8 n := by
  rw [dig8]; exact padD_dec 8 n (by omega) (by decide)
set_option maxHeartbeats 2000000 in
theorem eight_fn (n : Nat) (hn : n ≤ 99999999) (w0 : World) : Fn Tryz.prog 33 #[.int .i64 (n : Int)] w0 fun r w' => r = .string ⟨(dig8 n).toArray⟩ ∧ Below w0.heap.size w0 w' := by
  have hL := Sep.start Tryz.prog w0
  have hB := Nat.le_refl w0.heap.size
  rw [dig8_pad hn]
  refine Fn.mk Tryz.func33 rfl (by kernel_rfl) Tryz.ntmps33 rfl (by rw [Tryz.results33]) ?_
  repeat (first | (refine RunH ?_; intro w hL hB; try clear w) | (refine Both.mk ?_ ?_ <;> conv => whnf) | fail)
  refine V.loop (α := Nat) (fun i => [(0, .int .i64 ((n / 10 ^ i : Nat) : Int)), (3, .string ⟨(padD i n).toArray⟩), (4, .int .i64 (i : Int))])
    (fun i w' => i ≤ 8 ∧ w0.heap.size ≤ w'.heap.size ∧ Sep Tryz.prog w0.heap.size w0 w' []) (fun i => 8 - i) 0 ⟨by simp; rfl, rfl, rfl, trivial⟩ ⟨by decide, hB, hL⟩ ?_
  clear hL hB
  rintro i w ⟨hi, hB, hL⟩
  by_cases h8 : i < 8
  · have hdv : n / 10 ^ i ≤ 99999999 := Nat.le_trans (Nat.div_le_self _ _) hn
    have hsuc : n / 10 ^ (i + 1) = n / 10 ^ i / 10 := by rw [Nat.pow_succ, Nat.div_div_eq_div_mul]
    have hpad := padD_head i n
    have hpl := padD_len i n
    generalize n / 10 ^ i = q at *
    repeat (first | (refine RunH ?_; intro w hL hB; try clear w) | (refine Both.mk ?_ ?_ <;> conv => whnf) | fail)
    refine Rem.at q 10 rfl rfl (by decide) ?_
    conv => whnf
    repeat (first | (refine RunH ?_; intro w hL hB; try clear w) | (refine Both.mk ?_ ?_ <;> conv => whnf) | fail)
    have hc : (.int .u8 (48 + ((q % 10 : Nat) : Int)) : Value) = u8 (UInt8.ofNat (48 + q % 10)) := by
      rw [u8, UInt8.toNat_ofNat', Nat.mod_eq_of_lt (show 48 + q % 10 < 256 by omega)]
      rfl
    rw [hc]
    generalize UInt8.ofNat (48 + q % 10) = ch at *
    refine Rv.buildS (len := 1) (vs := [u8 ch]) ttOk hL tl47 tl5 rfl rfl (by intro u hu; simp only [List.mem_singleton] at hu; subst hu; rfl) (by decide) (by decide) hB fun bo w hL hB => ?_
    replace hL : Sep Tryz.prog w0.heap.size w0 w (.row 5 1 (.slice (some ⟨bo, 0, none⟩) 1 1) 1 (bv [ch]) :: _) := hL
    conv => whnf
    repeat (first | (refine RunH ?_; intro w hL hB; try clear w) | (refine Both.mk ?_ ?_ <;> conv => whnf) | fail)
    refine Rv.toStr ttOk tl47 tl5 tl9 (hL.row (i := 0) rfl) ?_
    conv => whnf
    repeat (first | (refine RunH ?_; intro w hL hB; try clear w) | (refine Both.mk ?_ ?_ <;> conv => whnf) | fail)
    refine Chk.mk (by
      show [ch].toArray.size + (padD i n).toArray.size ≤ _
      simp [hpl]; omega) ?_
    conv => whnf
    repeat (first | (refine RunH ?_; intro w hL hB; try clear w) | (refine Both.mk ?_ ?_ <;> conv => whnf) | fail)
    refine Quo.at q 10 rfl rfl (by decide) ?_
    conv => whnf
    repeat (first | (refine RunH ?_; intro w hL hB; try clear w) | (refine Both.mk ?_ ?_ <;> conv => whnf) | fail)
    refine ⟨i + 1, ⟨vint (by push_cast [hsuc]; rfl), ?_, vint (by push_cast; rfl), trivial⟩, ⟨by omega, hB, hL.tl⟩, (by first | omega | (dsimp only; omega))⟩
    refine congrArg (fun s => some (Value.string s)) ?_
    rw [hpad]
    apply ByteArray.ext
    simp [mkB]
  · obtain rfl : i = 8 := by omega
    repeat (first | (refine RunH ?_; intro w hL hB; try clear w) | (refine Both.mk ?_ ?_ <;> conv => whnf) | fail)
    exact ⟨rfl, hL.below⟩
theorem dig8_size {i : Nat} (h : i ≤ 99999999) : (⟨(dig8 i).toArray⟩ : ByteArray).size = 8 := by
  show (dig8 i).toArray.size = 8
  simp [dig8_len h]
set_option maxHeartbeats 1000000 in
theorem nameR_fn (i : Nat) (hi : i ≤ 99999999) (w0 : World) : Fn Tryz.prog 11 #[.int .i64 (i : Int)] w0 fun r w' => r = .string (vnmG i) ∧ Below w0.heap.size w0 w' := by
  have hL := Sep.start Tryz.prog w0
  have hB := Nat.le_refl w0.heap.size
  have h8 := dig8_size hi
  refine Fn.mk Tryz.func11 rfl (by kernel_rfl) Tryz.ntmps11 rfl (by rw [Tryz.results11]) ?_
  repeat (first | (refine RunH ?_; intro w hL hB; try clear w) | (refine Both.mk ?_ ?_ <;> conv => whnf) | fail)
  refine (eight_fn i hi _).mono fun r w ⟨hr, hw⟩ => ?_
  subst hr
  replace hL := hL.call hB (Turns.of_below hw)
  replace hB := Nat.le_trans hB hw.size
  conv => whnf
  repeat (first | (refine RunH ?_; intro w hL hB; try clear w) | (refine Both.mk ?_ ?_ <;> conv => whnf) | fail)
  have s1 : (⟨#[118]⟩ : ByteArray).size = 1 := rfl
  have s4 : (⟨#[46, 100, 97, 116]⟩ : ByteArray).size = 4 := rfl
  have e1 : ∀ x y : ByteArray, (x ++ y).size = x.size + y.size := fun x y => ByteArray.size_append
  refine Chk.mk (by rw [h8, s1]; omega) ?_
  conv => whnf
  repeat (first | (refine RunH ?_; intro w hL hB; try clear w) | (refine Both.mk ?_ ?_ <;> conv => whnf) | fail)
  refine Chk.mk (by rw [e1, h8, s1, s4]; omega) ?_
  conv => whnf
  repeat (first | (refine RunH ?_; intro w hL hB; try clear w) | (refine Both.mk ?_ ?_ <;> conv => whnf) | fail)
  refine ⟨congrArg Value.string ?_, hL.below⟩
  apply ByteArray.ext
  simp [vnmG]
theorem nameR_bad (id : Int) (h : ¬ (0 ≤ id ∧ id ≤ 99999999)) (w0 : World) : Fn Tryz.prog 11 #[.int .i64 id] w0 fun r w' => r = .string ⟨#[]⟩ ∧ w' = w0 := by
  have hL := Sep.start Tryz.prog w0
  have hB := Nat.le_refl w0.heap.size
  rcases (by omega : id < 0 ∨ (0 ≤ id ∧ 99999999 < id)) with h | h <;> (
    refine Fn.mk Tryz.func11 rfl (by kernel_rfl) Tryz.ntmps11 rfl (by rw [Tryz.results11]) ?_
    repeat (first | (refine RunH ?_; intro w hL hB; try clear w) | (refine Both.mk ?_ ?_ <;> conv => whnf) | fail)
    exact ⟨rfl, rfl⟩)
theorem vname_bad (id : Int) (h : ¬ (0 ≤ id ∧ id ≤ 99999999)) (w0 : World) : Fn Tryz.prog 10 #[.int .i64 id] w0 fun r w' => r = .string ⟨#[]⟩ ∧ w' = w0 := by
  have hL := Sep.start Tryz.prog w0
  have hB := Nat.le_refl w0.heap.size
  refine Fn.mk Tryz.func10 rfl (by kernel_rfl) Tryz.ntmps10 rfl (by rw [Tryz.results10]) ?_
  repeat (first | (refine RunH ?_; intro w hL hB; try clear w) | (refine Both.mk ?_ ?_ <;> conv => whnf) | fail)
  refine (isID_fn id _).mono fun r w' ⟨hr, hw⟩ => ?_
  rw [decide_eq_false h] at hr
  subst hr; subst hw
  conv => whnf
  repeat (first | (refine RunH ?_; intro w hL hB; try clear w) | (refine Both.mk ?_ ?_ <;> conv => whnf) | fail)
  exact ⟨rfl, rfl⟩
set_option maxHeartbeats 1000000 in
theorem vheadR_fn (id : Nat) (hid : id ≤ 99999999) (w0 : World) : Fn Tryz.prog 28 #[.int .i64 (id : Int)] w0 fun r w' => w'.ownsRow w0.heap.size 5 1 r (vhd id).length (bv (vhd id)) ∧ Below w0.heap.size w0 w' := by
  have hL := Sep.start Tryz.prog w0
  have hB := Nat.le_refl w0.heap.size
  have ehd : vhd id = [103, 118, 1, 0] ++ putB id 4 := rfl
  generalize vhd id = G at *
  refine Fn.mk Tryz.func28 rfl (by kernel_rfl) Tryz.ntmps28 rfl (by rw [Tryz.results28]) ?_
  repeat (first | (refine RunH ?_; intro w hL hB; try clear w) | (refine Both.mk ?_ ?_ <;> conv => whnf) | fail)
  refine Rv.buildS (len := 4) (vs := [.int .u8 103, .int .u8 118, .int .u8 1, .int .u8 0]) ttOk hL tl47 tl5 rfl rfl (by simp [cellsL]) (by decide) (by decide) hB fun bo w hL hB => ?_
  replace hL : Sep Tryz.prog w0.heap.size w0 w (.row 5 1 (.slice (some ⟨bo, 0, none⟩) 4 4) 4 (bv [103, 118, 1, 0]) :: _) := hL
  conv => whnf
  repeat (first | (refine RunH ?_; intro w hL hB; try clear w) | (refine Both.mk ?_ ?_ <;> conv => whnf) | fail)
  refine (put32Rm id (by omega) _).mono fun r w ⟨ho, hw⟩ => ?_
  replace hL := hL.addRow hB hw ho
  replace hB := Nat.le_trans hB hw.size
  clear ho hw
  generalize hX : putB id 4 = X at *
  have hXl : X.length = 4 := by rw [← hX]; exact putB_len _ _
  obtain ⟨ra, rc, rfl⟩ := (show SlN w 1 r _ _ from hL.rowN (i := 0) rfl).shape
  conv => whnf
  repeat (first | (refine RunH ?_; intro w hL hB; try clear w) | (refine Both.mk ?_ ?_ <;> conv => whnf) | fail)
  refine Rv.appendS ttOk hL tl47 tl5 rfl (by decide) 1 rfl (hL.rowN (i := 0) rfl) (bv_one _) (by simp only [maxLen]; omega) (by omega) hB fun vo w hL hB => ?_
  dsimp only [List.set] at hL
  have hGl : 4 + X.length = G.length := by rw [ehd, List.length_append]; rfl
  rw [← bv_append, ← ehd, hGl] at hL
  conv => whnf
  repeat (first | (refine RunH ?_; intro w hL hB; try clear w) | (refine Both.mk ?_ ?_ <;> conv => whnf) | fail)
  exact ⟨hL.ownR (i := 1) rfl, hL.below⟩
set_option maxHeartbeats 2000000 in
theorem sizeR4_fn {B b room : Nat} {R : List Fl} {F : List Res} (nm : ByteArray) {w0 w : World} (hD : RkS B w0 w b room R F) :
    Fn Tryz.prog 26 #[ptr b, .string nm] w fun r w' => r = .tuple #[.int .i64 (szS R nm : Nat), .bool (getS R nm).isSome] ∧ RkS B w0 w' b room R F := by
  obtain ⟨⟨L, fs, rfl, hok, hL⟩, hB⟩ := hD
  refine Fn.mk Tryz.func26 rfl (by kernel_rfl) Tryz.ntmps26 rfl (by rw [Tryz.results26]) ?_
  repeat (first | (refine RunH ?_; intro w hL hB; try clear w) | (refine Both.mk ?_ ?_ <;> conv => whnf) | fail)
  refine (spot_fn nm hok.ok.len hL hB).mono fun r w ⟨A, C, h1, h2, h3, hr, hL, hB⟩ => ?_
  subst hr
  have hat := At.of h1 h2 h3
  clear h1 h2 h3
  have hg := getF_fl fs nm
  cases hd : hdN C nm with
  | false =>
    rw [hat.no hok.srt hd] at hg
    rw [szS, hg]
    conv => whnf
    repeat (first | (refine RunH ?_; intro w hL hB; try clear w) | (refine Both.mk ?_ ?_ <;> conv => whnf) | fail)
    exact ⟨rfl, RkS.mk' hok hL hB⟩
  | true =>
    obtain ⟨f, C', rfl, hfn, hgn⟩ := hat.yes hd
    rw [hgn] at hg
    rw [szS, hg]
    obtain rfl := hat.eq
    have hl1 := len1 hok.ok f (by simp)
    have hget : (A ++ f :: C')[A.length]? = some f := by simp
    have hlA : (A ++ f :: C').length = A.length + C'.length + 1 := by simp; omega
    simp only [rkRes, List.cons_append] at hL
    obtain ⟨va, vc, hfv⟩ := rk_shape (X := [_, _]) hL f (by simp)
    obtain ⟨g, gcap, rfl, hgcap⟩ := own_shape0 (hL.ownR (i := 1) rfl) (by omega)
    conv => whnf
    repeat (first | (refine RunH ?_; intro w hL hB; try clear w) | (refine Both.mk ?_ ?_ <;> conv => whnf) | fail)
    intro o1 ho1
    conv => whnf
    refine Ld.rowF ttOk f3_len 1 (hL.rowN (i := 1) rfl).rowOf tl47 rfl hget (by rw [f3, hfv]; rfl) (by omega) ?_
    conv => whnf
    repeat (first | (refine RunH ?_; intro w hL hB; try clear w) | (refine Both.mk ?_ ?_ <;> conv => whnf) | fail)
    exact ⟨rfl, RkS.mk' (L := .slice (some ⟨g, 0, none⟩) (A ++ f :: C').length gcap) hok hL hB⟩
/-- the reference's volume -/
def rvC (k id : Nat) (v : Value) : List Value := [ptr k, .int .i64 (id : Int), v]
/-- a disk has this file alone, or none -/
def OneN (nm : ByteArray) (S : List Fl) : Prop := S = [] ∨ ∃ d la, S = [⟨nm, d, la⟩]
theorem OneN.perm {nm : ByteArray} {S R : List Fl} (h : OneN nm S) (hp : R.Perm S) : R = S := by
  rcases h with rfl | ⟨d, la, rfl⟩
  · exact hp.eq_nil
  · exact hp.eq_singleton
theorem OneN.app {nm : ByteArray} {S : List Fl} (h : OneN nm S) (room : Nat) (xs : List UInt8) : OneN nm (appS room S nm xs) := by
  rw [appS]
  split
  · rcases h with rfl | ⟨d, la, rfl⟩
    · exact .inr ⟨_, _, rfl⟩
    · exact .inr ⟨d ++ xs, la, by simp [appF, getS, putS]⟩
  · exact h
theorem OneN.sync {nm : ByteArray} {S : List Fl} (h : OneN nm S) : OneN nm (syncS S nm) := by
  rcases h with rfl | ⟨d, la, rfl⟩
  · exact .inl rfl
  · exact .inr ⟨d, d.length, by simp [syncS, getS, putS]⟩
section
variable {B k room id : Nat} {R : List Fl} {F : List Res} {w0 w : World}
set_option maxHeartbeats 2000000 in
theorem createR_fn (hid : id ≤ 99999999) (hR : RkS B w0 w k room [] F) :
    Fn Tryz.prog 9 #[ptr k, .int .i64 (id : Int)] w fun r w' =>
      (appE room [] (vnmG id) 8 ≠ 0 → r = .tuple #[.pointer none, .int .i64 (appE room [] (vnmG id) 8 : Nat)] ∧ RkS B w0 w' k room [] F) ∧
      (appE room [] (vnmG id) 8 = 0 → ∃ x, r = .tuple #[ptr x, .int .i64 0] ∧ RkS B w0 w' k room (syncS (appS room [] (vnmG id) (vhd id)) (vnmG id)) (.blk x (rvC k id (.slice none 0 0)) 80 :: F)) := by
  have hs := vnmG_size hid
  have hnm : (vnmG id).size ≤ 140737488355328 := by omega
  have hname := nameR_fn id hid
  generalize vnmG id = nm at *
  have h8 := vhd_len id
  have hhd := vheadR_fn id hid
  generalize vhd id = G at *
  obtain ⟨dL, hL, hB, close⟩ := hR.open
  clear hR
  refine Fn.mk Tryz.func9 rfl (by kernel_rfl) Tryz.ntmps9 rfl (by rw [Tryz.results9]) ?_
  repeat (first | (refine RunH ?_; intro w hL hB; try clear w) | (refine Both.mk ?_ ?_ <;> conv => whnf) | fail)
  refine (hname _).mono fun r w ⟨hr, hw⟩ => ?_
  subst hr
  replace hL := hL.call hB (Turns.of_below hw)
  replace hB := Nat.le_trans hB hw.size
  conv => whnf
  repeat (first | (refine RunH ?_; intro w hL hB; try clear w) | (refine Both.mk ?_ ?_ <;> conv => whnf) | fail)
  have hne : ¬ nm = ⟨#[]⟩ := fun e => by rw [e] at hs; exact absurd hs (by decide)
  refine Br.no (decide_eq_false hne) ?_
  conv => whnf
  repeat (first | (refine RunH ?_; intro w hL hB; try clear w) | (refine Both.mk ?_ ?_ <;> conv => whnf) | fail)
  refine (sizeR4_fn nm (close (F' := F) hL hB)).mono fun r w ⟨hr, hD⟩ => ?_
  subst hr
  clear close hL hB
  obtain ⟨dL, hL, hB, close⟩ := hD.open
  clear hD
  conv => whnf
  repeat (first | (refine RunH ?_; intro w hL hB; try clear w) | (refine Both.mk ?_ ?_ <;> conv => whnf) | fail)
  refine (hhd _).mono fun r w ⟨ho, hw⟩ => ?_
  replace hL := hL.addRow hB hw ho
  replace hB := Nat.le_trans hB hw.size
  clear ho hw
  obtain ⟨ra, rc, rfl⟩ := (show SlN w 1 r _ _ from hL.rowN (i := 0) rfl).shape
  conv => whnf
  repeat (first | (refine RunH ?_; intro w hL hB; try clear w) | (refine Both.mk ?_ ?_ <;> conv => whnf) | fail)
  refine (appendR_fn nm hnm _ G (by omega) (fun w' h => by have := h.row (i := 0) rfl; exact this) (close (F' := _ :: F) hL hB)).mono fun r w ⟨hr, R', hp, hD⟩ => ?_
  rw [h8] at hr
  subst hr
  clear close hL hB
  have one := OneN.app (nm := nm) (.inl rfl) room G
  obtain rfl := one.perm hp
  obtain ⟨dL, hL, hB, close⟩ := hD.open
  clear hD
  by_cases hE : appE room [] nm 8 = 0
  case neg =>
    rw [show appS room [] nm G = [] from by rw [appS, h8, if_neg hE]] at close
    conv => whnf
    repeat (first | (refine RunH ?_; intro w hL hB; try clear w) | (refine Both.mk ?_ ?_ <;> conv => whnf) | (refine Br.yes (by simp; omega) ?_; conv => whnf) | fail)
    refine (removeR_fn nm (close (F' := _ :: F) hL hB)).mono fun r w ⟨hr, hD⟩ => ?_
    clear close hL hB
    obtain ⟨dL, hL, hB, close⟩ := hD.open
    clear hD
    conv => whnf
    repeat (first | (refine RunH ?_; intro w hL hB; try clear w) | (refine Both.mk ?_ ?_ <;> conv => whnf) | fail)
    exact ⟨fun _ => ⟨rfl, close (F' := F) hL.tl hB⟩, fun h => absurd h hE⟩
  rw [hE]
  conv => whnf
  repeat (first | (refine RunH ?_; intro w hL hB; try clear w) | (refine Both.mk ?_ ?_ <;> conv => whnf) | fail)
  refine (syncR_fn nm (close (F' := _ :: F) hL hB)).mono fun r w ⟨hr, hD⟩ => ?_
  clear close hL hB
  obtain ⟨dL, hL, hB, close⟩ := hD.open
  clear hD
  conv => whnf
  repeat (first | (refine RunH ?_; intro w hL hB; try clear w) | (refine Both.mk ?_ ?_ <;> conv => whnf) | fail)
  (refine Nw.sep hL hB (fun x w hL hB hx => ?_); conv => whnf)
  repeat (first | (refine RunH ?_; intro w hL hB; try clear w) | (refine Both.mk ?_ ?_ <;> conv => whnf) | fail)
  exact ⟨fun h => absurd rfl h, fun _ => ⟨x, rfl, close (F' := _ :: F) (hL.sub (.cons_cons _ (.cons _ (.refl _)))) hB⟩⟩
def zPc : List Value := [.int .u64 0, .int .i64 0, .int .i64 0, .int .u32 0, .bool false]
def poC (o : Option Pc) : List Value := match o with
  | some p => pcC p
  | none => zPc
theorem poC_of (o : Option Pc) : pcOf o = .agg (poC o).toArray := by cases o <;> rfl
set_option maxHeartbeats 4000000 in
theorem thereR_fn {x n : Nat} {ra : Option Addr} {rc : Nat} {rL : List Pc} (key : Nat) (hC : Blk w0 x (rvC k id (.slice ra n rc)) 80) (hs : SlN w0 5 (.slice ra n rc) rL.length (rL.flatMap pcC)) :
    Fn Tryz.prog 78 #[ptr x, .int .u64 (key : Int)] w0 fun r w' => r = .tuple #[pcOf (there none rL key), .bool (there none rL key).isSome] ∧ Below w0.heap.size w0 w' := by
  have hL := Sep.start Tryz.prog w0
  have hB := Nat.le_refl w0.heap.size
  have hle := hs.le
  obtain ⟨a', c', he⟩ := hs.shape
  injection he with e1 e2 e3
  subst e1; subst e2; subst e3
  rw [rvC] at hC
  refine Fn.mk Tryz.func78 rfl (by kernel_rfl) Tryz.ntmps78 rfl (by rw [Tryz.results78]) ?_
  repeat (first | (refine RunH ?_; intro w hL hB; try clear w) | (refine Both.mk ?_ ?_ <;> conv => whnf) | fail)
  (refine Nw.sep hL hB (fun t4 w hL hB ht4 => ?_); conv => whnf)
  repeat (first | (refine RunH ?_; intro w hL hB; try clear w) | (refine Both.mk ?_ ?_ <;> conv => whnf) | fail)
  (refine Nw.sep hL hB (fun t6 w hL hB ht6 => ?_); conv => whnf)
  repeat (first | (refine RunH ?_; intro w hL hB; try clear w) | (refine Both.mk ?_ ?_ <;> conv => whnf) | fail)
  refine V.loop (α := Nat × Option Pc) (fun z => [(0, ptr x), (1, .int .u64 (key : Int)), (4, ptr t4), (6, ptr t6), (7, .bool z.2.isSome), (8, .int .i64 (z.1 : Int))])
    (fun z w' => z.1 ≤ rL.length ∧ there z.2 (rL.drop z.1) key = there none rL key ∧ w0.heap.size ≤ w'.heap.size ∧ Sep Tryz.prog w0.heap.size w0 w' [.blk t6 (poC z.2) 97, .blk t4 [.int .u64 0, .int .i64 0, .int .i64 0, .int .u32 0, .bool false] 97])
    (fun z => rL.length - z.1) (0, none) ⟨rfl, rfl, rfl, rfl, rfl, rfl, trivial⟩ ⟨by simp, rfl, hB, hL⟩ ?_
  clear hL hB
  rintro ⟨i, f⟩ w ⟨hi, hth, hB, hL⟩
  dsimp only at hi hth hL ⊢
  by_cases hil : i < rL.length
  · have hdrop : rL.drop i = rL[i] :: rL.drop (i + 1) := List.drop_eq_getElem_cons hil
    have hget := List.getElem?_eq_getElem hil
    rw [hdrop, there] at hth
    generalize rL[i] = p at *
    obtain ⟨bb, o, rfl, hrow0⟩ := hs.addr (by omega)
    have hrow : ∀ {w : World} {L : List Res}, Sep Tryz.prog w0.heap.size w0 w L → Row w bb o (rL.flatMap pcC) := fun h => (hs.below h.below).rowOf
    repeat (first | (refine RunH ?_; intro w hL hB; try clear w) | (refine Both.mk ?_ ?_ <;> conv => whnf) | fail)
    intro o1 ho1
    conv => whnf
    repeat (first | (refine RunH ?_; intro w hL hB; try clear w) | (refine Both.mk ?_ ?_ <;> conv => whnf) | fail)
    refine Ld.rowF ttOk pcC_len 0 (hrow hL) tl45 rfl hget rfl (by omega) ?_
    conv => whnf
    by_cases hk : p.key = key
    case neg =>
      rw [if_neg hk] at hth
      repeat (first | (refine RunH ?_; intro w hL hB; try clear w) | (refine Both.mk ?_ ?_ <;> conv => whnf) | fail)
      exact ⟨(i + 1, f), ⟨rfl, rfl, rfl, rfl, rfl, vint (by push_cast; rfl), trivial⟩, ⟨by dsimp only; omega, hth, hB, hL⟩, (by first | omega | (dsimp only; omega))⟩
    rw [if_pos hk] at hth
    repeat (first | (refine RunH ?_; intro w hL hB; try clear w) | (refine Both.mk ?_ ?_ <;> conv => whnf) | fail)
    intro o2 ho2
    conv => whnf
    repeat (first | (refine RunH ?_; intro w hL hB; try clear w) | (refine Both.mk ?_ ?_ <;> conv => whnf) | fail)
    refine Ld.rowF ttOk pcC_len 4 (hrow hL) tl4 rfl hget rfl (by omega) ?_
    conv => whnf
    cases hd : p.dead with
    | true =>
      rw [hd, if_pos rfl] at hth
      repeat (first | (refine RunH ?_; intro w hL hB; try clear w) | (refine Both.mk ?_ ?_ <;> conv => whnf) | fail)
      intro o3 ho3
      conv => whnf
      refine Ld.rowN ttOk pcC_len (hrow hL) tl97 rfl rfl hget (by omega) ?_
      conv => whnf
      repeat (first | (refine RunH ?_; intro w hL hB; try clear w) | (refine Both.mk ?_ ?_ <;> conv => whnf) | fail)
      rw [← hth]
      exact ⟨rfl, hL.below⟩
    | false =>
      rw [hd, if_neg (by decide)] at hth
      cases f with
      | none =>
        repeat (first | (refine RunH ?_; intro w hL hB; try clear w) | (refine Both.mk ?_ ?_ <;> conv => whnf) | fail)
        intro o3 ho3
        conv => whnf
        refine Ld.rowN ttOk pcC_len (hrow hL) tl97 rfl rfl hget (by omega) ?_
        rw [poC, zPc] at hL
        conv => whnf
        repeat (first | (refine RunH ?_; intro w hL hB; try clear w) | (refine Both.mk ?_ ?_ <;> conv => whnf) | fail)
        exact ⟨(i + 1, some p), ⟨rfl, rfl, rfl, rfl, rfl, vint (by push_cast; rfl), trivial⟩, ⟨by dsimp only; omega, hth, hB, hL⟩, (by first | omega | (dsimp only; omega))⟩
      | some q =>
        repeat (first | (refine RunH ?_; intro w hL hB; try clear w) | (refine Both.mk ?_ ?_ <;> conv => whnf) | fail)
        exact ⟨(i + 1, some q), ⟨rfl, rfl, rfl, rfl, rfl, vint (by push_cast; rfl), trivial⟩, ⟨by dsimp only; omega, hth, hB, hL⟩, (by first | omega | (dsimp only; omega))⟩
  · obtain rfl : i = rL.length := by omega
    rw [List.drop_length, there] at hth
    rw [← hth]
    cases f with
    | none =>
      rw [poC, zPc] at hL
      repeat (first | (refine RunH ?_; intro w hL hB; try clear w) | (refine Both.mk ?_ ?_ <;> conv => whnf) | fail)
      exact ⟨rfl, hL.below⟩
    | some q =>
      rw [poC, pcC] at hL
      repeat (first | (refine RunH ?_; intro w hL hB; try clear w) | (refine Both.mk ?_ ?_ <;> conv => whnf) | fail)
      exact ⟨rfl, hL.below⟩
end
end Go.Proofs.YtpkealgeigpjpaaGreatDoor
