/- Disks and their reference: what does not hang on the order of the files. Nothing is claimed here. -/
import Derived.Test.YtjgiailgidbkmaaTh
namespace Go.Proofs.Ytjgiailgidbkmaa
open Go.RowKit
set_option linter.unusedVariables false
set_option linter.unusedSimpArgs false
set_option maxRecDepth 100000

def NdS (S : List Fl) : Prop := (S.map (·.nm)).Nodup
theorem DkS.nd {B : Nat} {w0 w : World} {b room : Nat} {S : List Fl} {F : List Res} (h : DkS B w0 w b room S F) : NdS S := by
  obtain ⟨mo, fs, rfl, hok, _⟩ := h.of
  have := hok.nd
  rw [NdS, List.map_map]; exact this
theorem DkS.big {B : Nat} {w0 w : World} {b room : Nat} {S : List Fl} {F : List Res} (h : DkS B w0 w b room S F) {nm : ByteArray} {f : Fl} (hg : getS S nm = some f) : f.d.length ≤ 1073741824 := by
  obtain ⟨mo, fs, rfl, hok, _⟩ := h.of
  rw [getF_fl] at hg
  cases hf : getF fs nm with
  | none => rw [hf] at hg; cases hg
  | some g =>
    rw [hf] at hg
    injection hg with hg
    subst hg
    have := len_le hok hf
    show g.d.length ≤ _
    omega
theorem RkS.srt {B : Nat} {w0 w : World} {b room : Nat} {S : List Fl} {F : List Res} (h : RkS B w0 w b room S F) : (S.map (·.nm)).Pairwise ltN := by
  obtain ⟨L, fs, rfl, hok, _⟩ := h.of
  rw [List.map_map]; exact hok.srt
theorem NdS.perm {S R : List Fl} (h : NdS S) (hp : R.Perm S) : NdS R := (hp.map _).nodup_iff.2 h
theorem getS_iff {S : List Fl} (h : NdS S) {nm : ByteArray} {f : Fl} : getS S nm = some f ↔ f ∈ S ∧ f.nm = nm := by
  induction S with
  | nil => simp [getS]
  | cons g S ih =>
    have hg : g.nm ∉ S.map (·.nm) := (List.nodup_cons.1 h).1
    have h' : NdS S := (List.nodup_cons.1 h).2
    rw [getS]
    by_cases hn : g.nm = nm
    · rw [if_pos hn]
      constructor
      · intro e; injection e with e; subst e; exact ⟨by simp, hn⟩
      · rintro ⟨hm, hf⟩
        rcases List.mem_cons.1 hm with rfl | hm
        · rfl
        · exact absurd (List.mem_map_of_mem (f := fun x : Fl => x.nm) hm) (by rw [hf, ← hn]; exact hg)
    · rw [if_neg hn, ih h']
      constructor
      · rintro ⟨hm, hf⟩; exact ⟨by simp [hm], hf⟩
      · rintro ⟨hm, hf⟩
        rcases List.mem_cons.1 hm with rfl | hm
        · exact absurd hf hn
        · exact ⟨hm, hf⟩
theorem getS_perm {S R : List Fl} (h : NdS S) (hp : R.Perm S) (nm : ByteArray) : getS R nm = getS S nm := by
  cases hs : getS S nm with
  | some f => exact (getS_iff (h.perm hp)).2 ⟨hp.mem_iff.2 ((getS_iff h).1 hs).1, ((getS_iff h).1 hs).2⟩
  | none =>
    cases hr : getS R nm with
    | none => rfl
    | some f =>
      have h1 := (getS_iff (h.perm hp)).1 hr
      have h2 := (getS_iff h).2 ⟨hp.mem_iff.1 h1.1, h1.2⟩
      rw [hs] at h2; cases h2
theorem putS_perm0 : ∀ (S : List Fl) (g : Fl), (putS S g).Perm (g :: delS S g.nm)
  | [], g => .refl _
  | f :: fs, g => by
    simp only [putS, delS]
    split
    · exact .refl _
    · exact ((putS_perm0 fs g).cons f).trans (.swap _ _ _)
theorem delS_filter {S : List Fl} (h : NdS S) (nm : ByteArray) : delS S nm = S.filter fun f => decide (f.nm ≠ nm) := by
  induction S with
  | nil => rfl
  | cons g S ih =>
    have hg : g.nm ∉ S.map (·.nm) := (List.nodup_cons.1 h).1
    have h' : NdS S := (List.nodup_cons.1 h).2
    rw [delS]
    by_cases hn : g.nm = nm
    · rw [if_pos hn, List.filter_cons_of_neg (by simp [hn])]
      refine (List.filter_eq_self.2 fun f hf => ?_).symm
      have : f.nm ≠ nm := fun e => hg (by rw [hn, ← e]; exact List.mem_map_of_mem (f := fun x : Fl => x.nm) hf)
      simpa using this
    · rw [if_neg hn, List.filter_cons_of_pos (by simp [hn]), ih h']
theorem delS_perm {S R : List Fl} (h : NdS S) (hp : R.Perm S) (nm : ByteArray) : (delS R nm).Perm (delS S nm) := by
  rw [delS_filter h, delS_filter (h.perm hp)]
  exact hp.filter _
theorem putS_perm {S R : List Fl} (h : NdS S) (hp : R.Perm S) (g : Fl) : (putS R g).Perm (putS S g) :=
  (putS_perm0 R g).trans (((delS_perm h hp g.nm).cons g).trans (putS_perm0 S g).symm)
theorem NdS.del {S : List Fl} (h : NdS S) (nm : ByteArray) : NdS (delS S nm) := by
  rw [delS_filter h]
  exact h.sublist (List.filter_sublist.map _)
theorem totS_perm {S R : List Fl} (hp : R.Perm S) : totS R = totS S := (hp.map _).sum_nat
theorem appE_perm {S R : List Fl} (h : NdS S) (hp : R.Perm S) (room : Nat) (nm : ByteArray) (n : Nat) : appE room R nm n = appE room S nm n := by
  rw [appE, appE, getS_perm h hp, hp.length_eq, totS_perm hp]
theorem appS_perm {S R : List Fl} (h : NdS S) (hp : R.Perm S) (room : Nat) (nm : ByteArray) (xs : List UInt8) : (appS room R nm xs).Perm (appS room S nm xs) := by
  rw [appS, appS, appE_perm h hp]
  split
  · rw [appF, appF, getS_perm h hp]; exact putS_perm h hp _
  · exact hp
theorem syncS_perm {S R : List Fl} (h : NdS S) (hp : R.Perm S) (nm : ByteArray) : (syncS R nm).Perm (syncS S nm) := by
  rw [syncS, syncS, getS_perm h hp]
  split
  · exact putS_perm h hp _
  · exact hp
theorem renE_perm {S R : List Fl} (h : NdS S) (hp : R.Perm S) (a z : ByteArray) : renE R a z = renE S a z := by rw [renE, renE, getS_perm h hp]
theorem renS_perm {S R : List Fl} (h : NdS S) (hp : R.Perm S) (a z : ByteArray) : (renS R a z).Perm (renS S a z) := by
  rw [renS, renS, getS_perm h hp]
  split
  · split
    · exact hp
    · exact putS_perm (h.del a) (delS_perm h hp a) _
  · exact hp
theorem cutE_perm {S R : List Fl} (h : NdS S) (hp : R.Perm S) (nm : ByteArray) (n : Int) : cutE R nm n = cutE S nm n := by rw [cutE, cutE, getS_perm h hp]
theorem cutS_perm {S R : List Fl} (h : NdS S) (hp : R.Perm S) (nm : ByteArray) (n : Int) : (cutS R nm n).Perm (cutS S nm n) := by
  rw [cutS, cutS, getS_perm h hp]
  split
  · split
    · exact hp
    · exact putS_perm h hp _
  · exact hp
theorem rotE_perm {S R : List Fl} (h : NdS S) (hp : R.Perm S) (nm : ByteArray) (n : Int) : rotE R nm n = rotE S nm n := by rw [rotE, rotE, getS_perm h hp]
theorem rotS_perm {S R : List Fl} (h : NdS S) (hp : R.Perm S) (nm : ByteArray) (n : Int) (x : UInt8) : (rotS R nm n x).Perm (rotS S nm n x) := by
  rw [rotS, rotS, getS_perm h hp]
  split
  · split
    · exact hp
    · exact putS_perm h hp _
  · exact hp
theorem names_perm' {S R : List Fl} (hp : R.Perm S) : names R = names S := by
  unfold names
  exact mergeSort_of_perm (hp.map _)
theorem crashS_perm {S R : List Fl} (hp : R.Perm S) (draw : Int) : (crashS R draw).Perm (crashS S draw) := by
  rw [crashS, crashS]
  have e : ∀ f, rank R f = rank S f := fun f => by rw [rank, rank, names_perm' hp]
  simp only [e]
  exact hp.map _

/-! ### two disks side by side: the program's and the reference's -/
structure Two (B : Nat) (w0 w : World) (d k room : Nat) (S : List Fl) (F : List Res) : Prop where
  of : ∃ R dR, R.Perm S ∧ DkS B w0 w d room S (F ++ dR) ∧ ∀ {w' : World} {F' : List Res}, Sep Try.prog B w0 w' (F' ++ dR) → B ≤ w'.heap.size → RkS B w0 w' k room R F'
theorem Two.mk' {B : Nat} {w0 w : World} {d k room : Nat} {S R : List Fl} {F dD : List Res} (hp : R.Perm S) (hR : RkS B w0 w k room R (F ++ dD))
    (cl : ∀ {w' : World} {F' : List Res}, Sep Try.prog B w0 w' (F' ++ dD) → B ≤ w'.heap.size → DkS B w0 w' d room S F') : Two B w0 w d k room S F := by
  obtain ⟨dR, hL, hB, cR⟩ := hR.open
  exact ⟨R, dR, hp, cl hL.swl hB, cR⟩
theorem Two.sub {B : Nat} {w0 w : World} {d k room : Nat} {S : List Fl} {F F' : List Res} (h : Two B w0 w d k room S F) (hs : F'.Sublist F) : Two B w0 w d k room S F' := by
  obtain ⟨R, dR, hp, hD, cR⟩ := h
  exact ⟨R, dR, hp, hD.sub (hs.append (.refl _)), cR⟩
theorem Two.tl {B : Nat} {w0 w : World} {d k room : Nat} {S : List Fl} {F : List Res} {r : Res} (h : Two B w0 w d k room S (r :: F)) : Two B w0 w d k room S F := h.sub (List.sublist_cons_self _ _)
theorem strs_eq {R : List Fl} (h : (R.map (·.nm)).Pairwise ltN) : (names R).map encStr = (R.map (·.nm)).map Value.string := by
  rw [names_srt h, List.map_map, List.map_map]
  exact List.map_congr_left fun f _ => encStr_nm f.nm
end Go.Proofs.Ytjgiailgidbkmaa
