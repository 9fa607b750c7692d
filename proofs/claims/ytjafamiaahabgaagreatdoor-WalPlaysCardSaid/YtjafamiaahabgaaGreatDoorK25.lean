/- garnerref4.Disk: Crash. Disks and their reference: what does not hang on the order of the files. Nothing is claimed here. -/
import Derived.Test.YtjafamiaahabgaaGreatDoorK24
namespace Go.Proofs.YtjafamiaahabgaaGreatDoor
open Go.RowKit
set_option linter.unusedVariables false
set_option linter.unusedSimpArgs false
set_option maxRecDepth 100000

/-! ### the order of the names, and a crash by places -/
theorem names_srt {S : List Fl} (h : (S.map (·.nm)).Pairwise ltF) : names S = S.map fun f => nmB f.nm := by
  unfold names
  refine List.mergeSort_of_pairwise ?_
  rw [List.pairwise_map] at h ⊢
  refine h.imp fun {a b} hab => ?_
  rw [leB]
  exact decide_eq_true (List.le_of_lt hab)
theorem rank_srt {S : List Fl} (h : (S.map (·.nm)).Pairwise ltF) {i : Nat} (hi : i < S.length) : rank S S[i] = i := by
  have hnd : (S.map (·.nm)).Nodup := h.imp fun hab he => by subst he; exact ltN_irr _ hab
  have h1 := rank_get (S := S) (List.getElem_mem hi)
  have h2 : (names S)[i]? = some (nmB (S[i]).nm) := by rw [names_srt h]; simp [hi]
  have h3 := List.getElem?_eq_some_iff.1 h1
  have h4 := List.getElem?_eq_some_iff.1 h2
  exact (List.getElem_inj (names_nd hnd)).1 (h3.2.trans h4.2.symm)
def crashI (S : List Fl) (draw : Int) (k : Nat) : List Fl := S.mapIdx fun i f => if i < k then crash1 draw i f else f
theorem crashI_zero (S : List Fl) (draw : Int) : crashI S draw 0 = S := by
  refine List.ext_getElem? fun i => ?_
  simp [crashI]
theorem crashI_all {S : List Fl} (h : (S.map (·.nm)).Pairwise ltF) (draw : Int) : crashI S draw S.length = crashS S draw := by
  refine List.ext_getElem (by simp [crashI, crashS]) fun i h1 h2 => ?_
  have hi : i < S.length := by simpa [crashI] using h1
  simp [crashI, crashS, hi, rank_srt h hi]
theorem crashI_succ {S : List Fl} {draw : Int} {k : Nat} (hk : k < S.length) : crashI S draw (k + 1) = (crashI S draw k).set k (crash1 draw k S[k]) := by
  refine List.ext_getElem (by simp [crashI]) fun i h1 h2 => ?_
  have hi : i < S.length := by simpa [crashI] using h1
  rw [List.getElem_set]
  by_cases he : k = i
  · subst he; simp [crashI]
  · rw [if_neg he]
    by_cases hl : i < k
    · simp [crashI, hl, Nat.lt_succ_of_lt hl]
    · have : ¬ i < k + 1 := by omega
      simp [crashI, hl, this]
theorem crashI_get {S : List Fl} {draw : Int} {k : Nat} (hk : k < S.length) : (crashI S draw k)[k]? = some S[k] := by
  simp [crashI, hk]
theorem split_at {α : Type} {l : List α} {k : Nat} (h : k < l.length) : ∃ A C, l = A ++ l[k] :: C ∧ A.length = k := ⟨l.take k, l.drop (k + 1), by rw [← List.drop_eq_getElem_cons h, List.take_append_drop], by simp; omega⟩
set_option maxHeartbeats 8000000 in
theorem crashR_fn {B b room : Nat} {R : List Fl} {F : List Res} (draw : Int) (hdraw : -9223372036854775808 ≤ draw ∧ draw ≤ 9223372036854775807) {w0 w : World} (hD : RkS B w0 w b room R F) :
    Fn Tryz.prog 55 #[ptr b, .int .i64 draw] w fun r w' => RkS B w0 w' b room (crashS R draw) F := by
  have hsrt : (R.map (·.nm)).Pairwise ltF := by
    obtain ⟨⟨L, fs, rfl, hok, hL⟩, hB⟩ := hD
    rw [List.map_map]; exact hok.srt
  have hlen : R.length ≤ 256 := by
    obtain ⟨⟨L, fs, rfl, hok, hL⟩, hB⟩ := hD
    simpa using hok.ok.len
  rw [← crashI_zero R draw] at hD
  refine Fn.mk Tryz.func55 rfl (by kernel_rfl) Tryz.ntmps55 rfl (by rw [Tryz.results55]) ?_
  refine RunR ?_
  refine V.loop (α := Nat) (fun k => [(0, ptr b), (1, .int .i64 draw), (4, .int .i64 (k : Int))])
    (fun k w' => k ≤ R.length ∧ RkS B w0 w' b room (crashI R draw k) F)
    (fun k => R.length - k) 0 ⟨rfl, rfl, rfl, trivial⟩ ⟨by omega, hD⟩ ?_
  clear hD
  rintro k w ⟨hk, ⟨⟨L, fs, hR, hok, hL⟩, hB⟩⟩
  have hfl : fs.length = R.length := by have := congrArg List.length hR; simpa [crashI] using this
  simp only [rkRes, List.cons_append] at hL
  obtain ⟨ga, gc, rfl⟩ := (show SlN w 3 L fs.length _ from hL.rowN (i := 1) rfl).shape
  by_cases hkl : k < fs.length
  case neg =>
    obtain rfl : k = fs.length := by omega
    repeat (first | (refine RunH ?_; intro w hL hB; try clear w) | (refine Both.mk ?_ ?_ <;> conv => whnf) | fail)
    have h := RkS.mk' (L := .slice ga fs.length gc) (F := F) hok hL hB
    rw [hR, hfl, crashI_all hsrt] at h
    exact h
  have hkR : k < R.length := by omega
  obtain ⟨A, C', hsp, rfl⟩ := split_at hkl
  have hgR := crashI_get (draw := draw) hkR
  have hsuc := crashI_succ (draw := draw) hkR
  rw [← hR] at hgR hsuc
  generalize hf : fs[A.length] = f at hsp
  subst hsp
  obtain ⟨g, gcap, hgs, hgcap⟩ := own_shape0 (hL.ownR (i := 1) rfl) (by omega)
  injection hgs with hg1 hg2 hg3
  subst hg1; subst hg3
  have hRk : R[A.length] = f.fl := by simpa using hgR.symm
  rw [hRk] at hsuc
  have hl1 := len1 hok.ok f (by simp)
  have hla := hok.ok.la f (by simp)
  have hget : (A ++ f :: C')[A.length]? = some f := by simp
  have hlA : (A ++ f :: C').length = A.length + C'.length + 1 := by simp; omega
  obtain ⟨va, vc, hfv⟩ := rk_shape (X := [_, _]) hL f (by simp)
  obtain ⟨fn, fv, fd, fla⟩ := f
  dsimp only at *
  subst hfv
  have hrc : RowC w 5 (.slice va fd.length vc) fd.length (bv fd) := hL.hold (Fv.row ⟨fn, .slice va fd.length vc, fd, fla⟩) (by simp)
  have hvc : fd.length ≤ vc := by have := hrc.sl.len; rw [bv_length] at this; omega
  have hva : va = none ∨ ∃ fb, va = some ⟨fb, 0, none⟩ := by
    rcases hrc.of with ⟨hz, _⟩ | ⟨fb, fcap, fcur, hz, _⟩
    · injection hz with z1; exact .inl z1
    · injection hz with z1; exact .inr ⟨fb, z1⟩
  obtain ⟨T, hT⟩ : ∃ T, T = stays draw A.length ⟨fn, fd, fla⟩ := ⟨_, rfl⟩
  have hst := stays_le (draw := draw) (i := A.length) (f := ⟨fn, fd, fla⟩) hla
  rw [← hT] at hst
  dsimp only at hst
  have hcr : crash1 draw A.length ⟨fn, fd, fla⟩ = ⟨fn, fd.take T, T⟩ := by rw [crash1, ← hT]
  have hT2 : T = fla + ((max 0 draw).toNat % (fd.length - fla + 1) + A.length % (fd.length - fla + 1)) % (fd.length - fla + 1) := hT
  have hS : ∀ {w : World} {L : List Res}, Sep Tryz.prog B w0 w L → Fv.row ⟨fn, .slice va fd.length vc, fd, fla⟩ ∈ L → ∀ c', T ≤ c' → c' ≤ vc → SlN w 1 (.slice va T c') T (bv (fd.take T)) := fun h hm c' q1 q2 => by
    have h1 : Sl _ (.slice va fd.length vc) (bv fd) := RowC.sl (show RowC _ 5 _ fd.length (bv fd) from h.hold _ hm)
    have h2 := (h1.takeO (k := T) (by rw [bv_length]; exact hst.2) q1 q2).toN
    rw [← bv_take, bv_length, List.length_take, Nat.min_eq_left hst.2] at h2
    exact h2
  obtain ⟨M, hM1, hM2⟩ : ∃ M : Nat, max 0 draw = (M : Int) ∧ (max 0 draw).toNat = M := ⟨(max 0 draw).toNat, by omega, rfl⟩
  obtain ⟨D, hD1, hD2⟩ : ∃ D : Nat, (fd.length : Int) - (fla : Int) = (D : Int) ∧ fd.length - fla = D := ⟨fd.length - fla, by omega, rfl⟩
  rw [hM2, hD2] at hT2
  repeat (first | (refine RunH ?_; intro w hL hB; try clear w) | (refine Both.mk ?_ ?_ <;> conv => whnf) | fail)
  intro o1 ho1
  conv => whnf
  refine Ld.rowN ttOk f3_len (hL.rowN (i := 1) rfl).rowOf tl95 rfl rfl hget (by omega) ?_
  rw [f3]
  conv => whnf
  repeat (first | (refine RunH ?_; intro w hL hB; try clear w) | (refine Both.mk ?_ ?_ <;> conv => whnf) | fail)
  (refine Nw.sep hL hB (fun t5 w hL hB ht5 => ?_); conv => whnf)
  repeat (first | (refine RunK ?_; intro w hL hB; try clear w) | (refine V.treeA ttOk hL (.q 0 (.q 1 (.q 2 (.q 4 (.q 5 (.q 6 (.alt 3 (.alt 7 (.q 8 (.q 9 .nil)) .stop) .stop))))))) mixed (by decide +kernel) ?_; replace hL := hL.drew; conv => whnf) | (refine V.tailA ttOk mixed (by decide +kernel) ?_; replace hL := hL.drew; conv => whnf) | (refine Both.mk ?_ ?_ <;> conv => whnf) | (refine (draw_fn draw _).mono fun r w1 hr => ?_; obtain ⟨hr, hw⟩ := hr; subst hr; subst hw; conv => whnf) | fail)
  rw [hM1, show (fd.length : Int) - (fla : Int) + 1 = ((D + 1 : Nat) : Int) by omega]
  refine (round_fn M A.length (D + 1) (by omega) (by omega) (by omega) (by omega) _).mono fun r w ⟨hr, hw⟩ => ?_
  subst hr
  replace hL := hL.call hB (Turns.of_below hw)
  replace hB := Nat.le_trans hB hw.size
  conv => whnf
  repeat (first | (refine RunH ?_; intro w hL hB; try clear w) | (refine Both.mk ?_ ?_ <;> conv => whnf) | fail)
  rw [show (fla : Int) + (((M % (D + 1) + A.length % (D + 1)) % (D + 1) : Nat) : Int) = (T : Int) by omega]
  conv => whnf
  repeat (first | (refine RunK ?_; intro w hL hB; try clear w) | (refine V.treeP ttOk hL 2 (.q 0 (.q 1 (.q 2 (.q 3 (.q 4 (.q 6 (.q 7 (.q 8 (.q 9 (.alt 5 (.alt 10 (.q 11 (.q 12 (.alt 13 .nil .stop))) .stop) .stop)))))))))) mixed (by decide +kernel) ?_; replace hL := hL.drew; conv => whnf) | (refine V.tailA ttOk mixed (by decide +kernel) ?_; replace hL := hL.drew; conv => whnf) | (refine Both.mk ?_ ?_ <;> conv => whnf) | fail)
  have hF2 : (A ++ (⟨fn, .slice va fd.length vc, fd, fla⟩ : Fv) :: C').map Fv.fl = A.map Fv.fl ++ ⟨fn, fd, fla⟩ :: C'.map Fv.fl := by simp [Fv.fl]
  rw [hF2, show (A.map Fv.fl ++ (⟨fn, fd, fla⟩ : Fl) :: C'.map Fv.fl).set A.length (crash1 draw A.length (Fv.fl ⟨fn, .slice va fd.length vc, fd, fla⟩)) = A.map Fv.fl ++ ⟨fn, fd.take T, T⟩ :: C'.map Fv.fl by rw [show Fv.fl ⟨fn, .slice va fd.length vc, fd, fla⟩ = ⟨fn, fd, fla⟩ from rfl, hcr]; simp] at hsuc
  rcases hva with rfl | ⟨fb, rfl⟩ <;> (
    conv => whnf
    intro n1 c1 q1 q2
    obtain rfl : T = n1 := by omega
    conv => whnf
    repeat (first | (refine RunH ?_; intro w hL hB; try clear w) | (refine Both.mk ?_ ?_ <;> conv => whnf) | fail)
    refine Rv.buildS (len := 0) (vs := []) ttOk hL tl23 tl5 rfl rfl (by intro u hu; cases hu) (by decide) (by decide) hB fun bo w hL hB => ?_
    conv => whnf
    repeat (first | (refine RunH ?_; intro w hL hB; try clear w) | (refine Both.mk ?_ ?_ <;> conv => whnf) | fail)
    refine Rv.appendS (m := T) (news := bv (fd.take T)) ttOk hL tl23 tl5 rfl (by decide) 0 rfl (hS hL (by simp) c1 (by omega) (by omega)) (bv_one _) (by simp only [maxLen]; omega) (by omega) hB fun v1 w hL hB => ?_
    dsimp only [List.set, List.flatMap_nil, List.nil_append] at hL
    obtain ⟨xa, xc, rfl⟩ := (show SlN w 1 v1 _ _ from hL.rowN (i := 0) rfl).shape
    conv => whnf
    repeat (first | (refine RunH ?_; intro w hL hB; try clear w) | (refine Both.mk ?_ ?_ <;> conv => whnf) | fail)
    intro o3 ho3
    conv => whnf
    repeat (first | (refine RunH ?_; intro w hL hB; try clear w) | (refine Both.mk ?_ ?_ <;> conv => whnf) | fail)
    refine St.rowM ttOk hL f3_len 3 A.length 1 ⟨fn, .slice xa (0 + T) xc, fd.take T, fla⟩ tl23 rfl rfl rfl hget (by decide) rfl (by omega) hB fun w hL hB => ?_
    dsimp only [List.set] at hL
    conv => whnf
    refine An.x hL ?_
    replace hL := rk_swap (g := ⟨fn, .slice xa (0 + T) xc, fd.take T, fla⟩) rfl (by simp; omega) (by rfl) (hL.sub (.cons_cons _ (.cons _ (.refl _))))
    have hget2 : (A ++ (⟨fn, .slice xa (0 + T) xc, fd.take T, fla⟩ : Fv) :: C')[A.length]? = some ⟨fn, .slice xa (0 + T) xc, fd.take T, fla⟩ := by simp
    simp only [rkRes, List.cons_append] at hL
    conv => whnf
    repeat (first | (refine RunH ?_; intro w hL hB; try clear w) | (refine Both.mk ?_ ?_ <;> conv => whnf) | fail)
    intro o4 ho4
    conv => whnf
    repeat (first | (refine RunH ?_; intro w hL hB; try clear w) | (refine Both.mk ?_ ?_ <;> conv => whnf) | fail)
    refine St.rowM ttOk hL f3_len 1 A.length 2 ⟨fn, .slice xa (0 + T) xc, fd.take T, T⟩ tl3 rfl rfl rfl hget2 (by decide) rfl (by omega) hB fun w hL hB => ?_
    dsimp only [List.set] at hL
    conv => whnf
    repeat (first | (refine RunH ?_; intro w hL hB; try clear w) | (refine Both.mk ?_ ?_ <;> conv => whnf) | fail)
    have e0 : (A ++ (⟨fn, .slice xa (0 + T) xc, fd.take T, fla⟩ : Fv) :: C').set A.length ⟨fn, .slice xa (0 + T) xc, fd.take T, T⟩ = A ++ ⟨fn, .slice xa (0 + T) xc, fd.take T, T⟩ :: C' := by simp
    rw [e0] at hL
    have hfin := RkS.mk' (L := .slice (some ⟨g, 0, none⟩) (A.length + (C'.length + 1)) gc) (F := F) (hok.set (g := ⟨fn, .slice xa (0 + T) xc, fd.take T, T⟩) rfl (by simp; omega) (by have := hok.ok.tot; simp; omega)) (by
      rw [rkRes]
      simpa [Fv.row] using hL) hB
    rw [show (A ++ (⟨fn, .slice xa (0 + T) xc, fd.take T, T⟩ : Fv) :: C').map Fv.fl = crashI R draw (A.length + 1) by rw [hsuc]; simp [Fv.fl]] at hfin
    exact ⟨A.length + 1, ⟨rfl, rfl, vint (by push_cast; omega), trivial⟩, ⟨by omega, hfin⟩, (by first | omega | (dsimp only; omega))⟩)
end Go.Proofs.YtjafamiaahabgaaGreatDoor
namespace Go.Proofs.YtjafamiaahabgaaGreatDoor
open Go.RowKit
set_option linter.unusedVariables false
set_option linter.unusedSimpArgs false
set_option maxRecDepth 100000

def NdS (S : List Fl) : Prop := (S.map (·.nm)).Nodup
theorem DkS.nd {B : Nat} {w0 w : World} {b room : Nat} {S : List Fl} {F : List Res} (h : DkS B w0 w b room S F) : NdS S := by
  obtain ⟨mo, fs, rfl, hok, _⟩ := h.of
  have := hok.nd
  rw [NdS, List.map_map]; exact this
theorem DkS.big {B : Nat} {w0 w : World} {b room : Nat} {S : List Fl} {F : List Res} (h : DkS B w0 w b room S F) {nm : ByteArray} {f : Fl} (hg : getS S nm = some f) : f.d.length ≤ 1073741824 := by
  obtain ⟨mo, fs, rfl, hok, _⟩ := h.of
  rw [getF_fl] at hg
  cases hf : getF fs nm with
  | none => rw [hf] at hg; cases hg
  | some g =>
    rw [hf] at hg
    injection hg with hg
    subst hg
    have := len_le hok hf
    show g.d.length ≤ _
    omega
theorem RkS.srt {B : Nat} {w0 w : World} {b room : Nat} {S : List Fl} {F : List Res} (h : RkS B w0 w b room S F) : (S.map (·.nm)).Pairwise ltF := by
  obtain ⟨L, fs, rfl, hok, _⟩ := h.of
  rw [List.map_map]; exact hok.srt
theorem NdS.perm {S R : List Fl} (h : NdS S) (hp : R.Perm S) : NdS R := (hp.map _).nodup_iff.2 h
theorem getS_iff {S : List Fl} (h : NdS S) {nm : ByteArray} {f : Fl} : getS S nm = some f ↔ f ∈ S ∧ f.nm = nm := by
  induction S with
  | nil => simp [getS]
  | cons g S ih =>
    have hg : g.nm ∉ S.map (·.nm) := (List.nodup_cons.1 h).1
    have h' : NdS S := (List.nodup_cons.1 h).2
    rw [getS]
    by_cases hn : g.nm = nm
    · rw [if_pos hn]
      constructor
      · intro e; injection e with e; subst e; exact ⟨by simp, hn⟩
      · rintro ⟨hm, hf⟩
        rcases List.mem_cons.1 hm with rfl | hm
        · rfl
        · exact absurd (List.mem_map_of_mem (f := fun x : Fl => x.nm) hm) (by rw [hf, ← hn]; exact hg)
    · rw [if_neg hn, ih h']
      constructor
      · rintro ⟨hm, hf⟩; exact ⟨by simp [hm], hf⟩
      · rintro ⟨hm, hf⟩
        rcases List.mem_cons.1 hm with rfl | hm
        · exact absurd hf hn
        · exact ⟨hm, hf⟩
theorem getS_perm {S R : List Fl} (h : NdS S) (hp : R.Perm S) (nm : ByteArray) : getS R nm = getS S nm := by
  cases hs : getS S nm with
  | some f => exact (getS_iff (h.perm hp)).2 ⟨hp.mem_iff.2 ((getS_iff h).1 hs).1, ((getS_iff h).1 hs).2⟩
  | none =>
    cases hr : getS R nm with
    | none => rfl
    | some f =>
      have h1 := (getS_iff (h.perm hp)).1 hr
      have h2 := (getS_iff h).2 ⟨hp.mem_iff.1 h1.1, h1.2⟩
      rw [hs] at h2; cases h2
theorem putS_perm0 : ∀ (S : List Fl) (g : Fl), (putS S g).Perm (g :: delS S g.nm)
  | [], g => .refl _
  | f :: fs, g => by
    simp only [putS, delS]
    split
    · exact .refl _
    · exact ((putS_perm0 fs g).cons f).trans (.swap _ _ _)
theorem delS_filter {S : List Fl} (h : NdS S) (nm : ByteArray) : delS S nm = S.filter fun f => decide (f.nm ≠ nm) := by
  induction S with
  | nil => rfl
  | cons g S ih =>
    have hg : g.nm ∉ S.map (·.nm) := (List.nodup_cons.1 h).1
    have h' : NdS S := (List.nodup_cons.1 h).2
    rw [delS]
    by_cases hn : g.nm = nm
    · rw [if_pos hn, List.filter_cons_of_neg (by simp [hn])]
      refine (List.filter_eq_self.2 fun f hf => ?_).symm
      have : f.nm ≠ nm := fun e => hg (by rw [hn, ← e]; exact List.mem_map_of_mem (f := fun x : Fl => x.nm) hf)
      simpa using this
    · rw [if_neg hn, List.filter_cons_of_pos (by simp [hn]), ih h']
theorem delS_perm {S R : List Fl} (h : NdS S) (hp : R.Perm S) (nm : ByteArray) : (delS R nm).Perm (delS S nm) := by
  rw [delS_filter h, delS_filter (h.perm hp)]
  exact hp.filter _
theorem putS_perm {S R : List Fl} (h : NdS S) (hp : R.Perm S) (g : Fl) : (putS R g).Perm (putS S g) :=
  (putS_perm0 R g).trans (((delS_perm h hp g.nm).cons g).trans (putS_perm0 S g).symm)
theorem NdS.del {S : List Fl} (h : NdS S) (nm : ByteArray) : NdS (delS S nm) := by
  rw [delS_filter h]
  exact h.sublist (List.filter_sublist.map _)
theorem totS_perm {S R : List Fl} (hp : R.Perm S) : totS R = totS S := (hp.map _).sum_nat
theorem appE_perm {S R : List Fl} (h : NdS S) (hp : R.Perm S) (room : Nat) (nm : ByteArray) (n : Nat) : appE room R nm n = appE room S nm n := by
  rw [appE, appE, getS_perm h hp, hp.length_eq, totS_perm hp]
theorem appS_perm {S R : List Fl} (h : NdS S) (hp : R.Perm S) (room : Nat) (nm : ByteArray) (xs : List UInt8) : (appS room R nm xs).Perm (appS room S nm xs) := by
  rw [appS, appS, appE_perm h hp]
  split
  · rw [appF, appF, getS_perm h hp]; exact putS_perm h hp _
  · exact hp
theorem syncS_perm {S R : List Fl} (h : NdS S) (hp : R.Perm S) (nm : ByteArray) : (syncS R nm).Perm (syncS S nm) := by
  rw [syncS, syncS, getS_perm h hp]
  split
  · exact putS_perm h hp _
  · exact hp
theorem renE_perm {S R : List Fl} (h : NdS S) (hp : R.Perm S) (a z : ByteArray) : renE R a z = renE S a z := by rw [renE, renE, getS_perm h hp]
theorem renS_perm {S R : List Fl} (h : NdS S) (hp : R.Perm S) (a z : ByteArray) : (renS R a z).Perm (renS S a z) := by
  rw [renS, renS, getS_perm h hp]
  split
  · split
    · exact hp
    · exact putS_perm (h.del a) (delS_perm h hp a) _
  · exact hp
theorem cutE_perm {S R : List Fl} (h : NdS S) (hp : R.Perm S) (nm : ByteArray) (n : Int) : cutE R nm n = cutE S nm n := by rw [cutE, cutE, getS_perm h hp]
theorem cutS_perm {S R : List Fl} (h : NdS S) (hp : R.Perm S) (nm : ByteArray) (n : Int) : (cutS R nm n).Perm (cutS S nm n) := by
  rw [cutS, cutS, getS_perm h hp]
  split
  · split
    · exact hp
    · exact putS_perm h hp _
  · exact hp
theorem rotE_perm {S R : List Fl} (h : NdS S) (hp : R.Perm S) (nm : ByteArray) (n : Int) : rotE R nm n = rotE S nm n := by rw [rotE, rotE, getS_perm h hp]
theorem rotS_perm {S R : List Fl} (h : NdS S) (hp : R.Perm S) (nm : ByteArray) (n : Int) (x : UInt8) : (rotS R nm n x).Perm (rotS S nm n x) := by
  rw [rotS, rotS, getS_perm h hp]
  split
  · split
    · exact hp
    · exact putS_perm h hp _
  · exact hp
theorem names_perm' {S R : List Fl} (hp : R.Perm S) : names R = names S := by
  unfold names
  exact mergeSort_of_perm (hp.map _)
theorem crashS_perm {S R : List Fl} (hp : R.Perm S) (draw : Int) : (crashS R draw).Perm (crashS S draw) := by
  rw [crashS, crashS]
  have e : ∀ f, rank R f = rank S f := fun f => by rw [rank, rank, names_perm' hp]
  simp only [e]
  exact hp.map _

/-! ### two disks side by side: the program's and the reference's -/
structure Two (B : Nat) (w0 w : World) (d k room : Nat) (S : List Fl) (F : List Res) : Prop where
  of : ∃ R dR, R.Perm S ∧ DkS B w0 w d room S (F ++ dR) ∧ ∀ {w' : World} {F' : List Res}, Sep Tryz.prog B w0 w' (F' ++ dR) → B ≤ w'.heap.size → RkS B w0 w' k room R F'
theorem Two.mk' {B : Nat} {w0 w : World} {d k room : Nat} {S R : List Fl} {F dD : List Res} (hp : R.Perm S) (hR : RkS B w0 w k room R (F ++ dD))
    (cl : ∀ {w' : World} {F' : List Res}, Sep Tryz.prog B w0 w' (F' ++ dD) → B ≤ w'.heap.size → DkS B w0 w' d room S F') : Two B w0 w d k room S F := by
  obtain ⟨dR, hL, hB, cR⟩ := hR.open
  exact ⟨R, dR, hp, cl hL.swl hB, cR⟩
theorem Two.sub {B : Nat} {w0 w : World} {d k room : Nat} {S : List Fl} {F F' : List Res} (h : Two B w0 w d k room S F) (hs : F'.Sublist F) : Two B w0 w d k room S F' := by
  obtain ⟨R, dR, hp, hD, cR⟩ := h
  exact ⟨R, dR, hp, hD.sub (hs.append (.refl _)), cR⟩
theorem Two.tl {B : Nat} {w0 w : World} {d k room : Nat} {S : List Fl} {F : List Res} {r : Res} (h : Two B w0 w d k room S (r :: F)) : Two B w0 w d k room S F := h.sub (List.sublist_cons_self _ _)
theorem strs_eq {R : List Fl} (h : (R.map (·.nm)).Pairwise ltF) : (names R).map encStr = (R.map (·.nm)).map Value.string := by
  rw [names_srt h, List.map_map, List.map_map]
  exact List.map_congr_left fun f _ => encStr_nm f.nm
end Go.Proofs.YtjafamiaahabgaaGreatDoor
