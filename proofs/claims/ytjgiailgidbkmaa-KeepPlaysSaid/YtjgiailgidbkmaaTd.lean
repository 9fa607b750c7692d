/- garnerref4.Disk: Read, Sync, Remove. Nothing is claimed here. -/
import Derived.Test.YtjgiailgidbkmaaTc
namespace Go.Proofs.Ytjgiailgidbkmaa
open Go.RowKit
set_option linter.unusedVariables false
set_option linter.unusedSimpArgs false
set_option maxRecDepth 100000

theorem At.get {fs A C : List Fv} {nm : ByteArray} (h : At fs A C nm) (hs : (fs.map (·.nm)).Pairwise ltN) : (getS (fs.map Fv.fl) nm).isSome = hdN C nm := by
  rw [getF_fl]
  cases hd : hdN C nm with
  | true => obtain ⟨f, C', _, _, hg⟩ := h.yes hd; rw [hg]; rfl
  | false => rw [h.no hs hd]; rfl
set_option maxHeartbeats 2000000 in
theorem readR4_fn {B b room : Nat} {R : List Fl} {F : List Res} (nm : ByteArray) {w0 w : World} (hD : RkS B w0 w b room R F) :
    Fn Try.prog 53 #[ptr b, .string nm] w fun r w' => match getS R nm with
      | some f => ∃ u, r = .tuple #[u, .int .i64 0] ∧ RkS B w0 w' b room R (.row 5 1 u f.d.length (bv f.d) :: F)
      | none => r = .tuple #[.slice none 0 0, .int .i64 7] ∧ RkS B w0 w' b room R F := by
  obtain ⟨⟨L, fs, rfl, hok, hL⟩, hB⟩ := hD
  refine Fn.mk Try.func53 rfl (by kernel_rfl) Try.ntmps53 rfl (by rw [Try.results53]) ?_
  repeat (first | (refine RunH ?_; intro w hL hB; try clear w) | (refine Both.mk ?_ ?_ <;> conv => whnf) | fail)
  refine (spot_fn nm hok.ok.len hL hB).mono fun r w ⟨A, C, h1, h2, h3, hr, hL, hB⟩ => ?_
  subst hr
  have hat := At.of h1 h2 h3
  clear h1 h2 h3
  rw [getF_fl]
  cases hd : hdN C nm with
  | false =>
    rw [hat.no hok.srt hd]
    conv => whnf
    repeat (first | (refine RunH ?_; intro w hL hB; try clear w) | (refine Both.mk ?_ ?_ <;> conv => whnf) | fail)
    exact ⟨rfl, RkS.mk' hok hL hB⟩
  | true =>
    obtain ⟨f, C', rfl, hfn, hgn⟩ := hat.yes hd
    rw [hgn]
    obtain rfl := hat.eq
    have hl1 := len1 hok.ok f (by simp)
    have hget : (A ++ f :: C')[A.length]? = some f := by simp
    have hlA : (A ++ f :: C').length = A.length + C'.length + 1 := by simp; omega
    simp only [rkRes, List.cons_append] at hL
    obtain ⟨va, vc, hfv⟩ := rk_shape (X := [_, _]) hL f (by simp)
    obtain ⟨g, gcap, rfl, hgcap⟩ := own_shape0 (hL.ownR (i := 1) rfl) (by omega)
    conv => whnf
    repeat (first | (refine RunH ?_; intro w hL hB; try clear w) | (refine Both.mk ?_ ?_ <;> conv => whnf) | fail)
    refine Rv.buildS (len := 0) (vs := []) ttOk hL tl22 tl5 rfl rfl (by intro u hu; cases hu) (by decide) (by decide) hB fun bo w hL hB => ?_
    conv => whnf
    repeat (first | (refine RunH ?_; intro w hL hB; try clear w) | (refine Both.mk ?_ ?_ <;> conv => whnf) | fail)
    intro o1 ho1
    conv => whnf
    refine Ld.rowF ttOk f3_len 1 (hL.rowN (i := 2) rfl).rowOf tl22 rfl hget (by rw [f3, hfv]; rfl) (by omega) ?_
    conv => whnf
    repeat (first | (refine RunH ?_; intro w hL hB; try clear w) | (refine Both.mk ?_ ?_ <;> conv => whnf) | fail)
    have hS : Sl w (.slice va f.d.length vc) (bv f.d) := by
      have := RowC.sl (show RowC w 5 _ f.d.length (bv f.d) from hL.hold (Fv.row f) (by simp))
      rwa [hfv] at this
    refine Rv.appendS (m := f.d.length) (news := bv f.d) ttOk hL tl22 tl5 rfl (by decide) 0 rfl (by have := hS.toN; rw [bv_length] at this; exact this) (bv_one _) (by simp only [maxLen]; omega) (by omega) hB fun v1 w hL hB => ?_
    dsimp only [List.set, List.flatMap_nil, List.nil_append] at hL
    obtain ⟨xa, xc, rfl⟩ := (show SlN w 1 v1 _ _ from hL.rowN (i := 0) rfl).shape
    conv => whnf
    repeat (first | (refine RunH ?_; intro w hL hB; try clear w) | (refine Both.mk ?_ ?_ <;> conv => whnf) | fail)
    refine ⟨_, rfl, RkS.mk' (L := .slice (some ⟨g, 0, none⟩) (A ++ f :: C').length gcap) hok (hL.perm ?_) hB⟩
    rw [Nat.zero_add]
    refine (List.Perm.swap _ _ _).trans (.cons _ ((List.Perm.swap _ _ _).trans (.cons _ ?_)))
    exact List.perm_middle.symm
set_option maxHeartbeats 2000000 in
theorem syncR_fn {B b room : Nat} {R : List Fl} {F : List Res} (nm : ByteArray) {w0 w : World} (hD : RkS B w0 w b room R F) :
    Fn Try.prog 51 #[ptr b, .string nm] w fun r w' => r = .int .i64 (if (getS R nm).isSome then 0 else 7) ∧ RkS B w0 w' b room (syncS R nm) F := by
  obtain ⟨⟨L, fs, rfl, hok, hL⟩, hB⟩ := hD
  refine Fn.mk Try.func51 rfl (by kernel_rfl) Try.ntmps51 rfl (by rw [Try.results51]) ?_
  repeat (first | (refine RunH ?_; intro w hL hB; try clear w) | (refine Both.mk ?_ ?_ <;> conv => whnf) | fail)
  refine (spot_fn nm hok.ok.len hL hB).mono fun r w ⟨A, C, h1, h2, h3, hr, hL, hB⟩ => ?_
  subst hr
  have hat := At.of h1 h2 h3
  clear h1 h2 h3
  rw [syncS, getF_fl]
  cases hd : hdN C nm with
  | false =>
    rw [hat.no hok.srt hd]
    conv => whnf
    repeat (first | (refine RunH ?_; intro w hL hB; try clear w) | (refine Both.mk ?_ ?_ <;> conv => whnf) | fail)
    exact ⟨rfl, RkS.mk' hok hL hB⟩
  | true =>
    obtain ⟨f, C', rfl, hfn, hgn⟩ := hat.yes hd
    rw [hgn]
    obtain rfl := hat.eq
    have hl1 := len1 hok.ok f (by simp)
    have hget : (A ++ f :: C')[A.length]? = some f := by simp
    have hlA : (A ++ f :: C').length = A.length + C'.length + 1 := by simp; omega
    have hput := putF_fl (A ++ f :: C') ⟨nm, f.v, f.d, f.d.length⟩
    rw [putF_split (g := ⟨nm, f.v, f.d, f.d.length⟩) hat.nA hfn] at hput
    simp only [Option.map_some, Option.isSome_some]
    simp only [rkRes, List.cons_append] at hL
    obtain ⟨va, vc, hfv⟩ := rk_shape (X := [_, _]) hL f (by simp)
    obtain ⟨g, gcap, rfl, hgcap⟩ := own_shape0 (hL.ownR (i := 1) rfl) (by omega)
    obtain ⟨fn, fv, fd, fla⟩ := f
    dsimp only at *
    subst hfv; subst hfn
    conv => whnf
    repeat (first | (refine RunK ?_; intro w hL hB; try clear w) | (refine V.treeP ttOk hL 1 (.q 0 (.q 1 (.q 2 (.q 3 (.q 4 (.q 5 (.q 6 (.q 7 (.q 8 (.q 9 (.q 10 (.q 11 (.alt 12 (.q 13 (.q 14 (.q 15 (.alt 16 .nil .stop)))) .stop))))))))))))) mixed (by decide +kernel) ?_; replace hL := hL.drew; conv => whnf) | (refine V.tailA ttOk mixed (by decide +kernel) ?_; replace hL := hL.drew; conv => whnf) | (refine Both.mk ?_ ?_ <;> conv => whnf) | fail)
    intro o1 ho1
    conv => whnf
    repeat (first | (refine RunH ?_; intro w hL hB; try clear w) | (refine Both.mk ?_ ?_ <;> conv => whnf) | (refine Ld.rowF ttOk f3_len 1 (hL.rowN (i := 1) rfl).rowOf tl22 rfl hget rfl (by omega) ?_; conv => whnf) | fail)
    intro o2 ho2
    conv => whnf
    repeat (first | (refine RunH ?_; intro w hL hB; try clear w) | (refine Both.mk ?_ ?_ <;> conv => whnf) | fail)
    refine St.rowM ttOk hL f3_len 1 A.length 2 ⟨fn, .slice va fd.length vc, fd, fd.length⟩ tl3 rfl rfl rfl hget (by decide) rfl (by omega) hB fun w hL hB => ?_
    dsimp only [List.set] at hL
    conv => whnf
    repeat (first | (refine RunH ?_; intro w hL hB; try clear w) | (refine Both.mk ?_ ?_ <;> conv => whnf) | fail)
    refine ⟨rfl, ?_⟩
    have e0 : (A ++ (⟨fn, .slice va fd.length vc, fd, fla⟩ : Fv) :: C').set A.length ⟨fn, .slice va fd.length vc, fd, fd.length⟩ = A ++ ⟨fn, .slice va fd.length vc, fd, fd.length⟩ :: C' := by simp
    rw [e0] at hL
    have := RkS.mk' (L := .slice (some ⟨g, 0, none⟩) (A ++ (⟨fn, .slice va fd.length vc, fd, fla⟩ : Fv) :: C').length gcap) (F := F) (hok.set (g := ⟨fn, .slice va fd.length vc, fd, fd.length⟩) rfl (Nat.le_refl _) (by have := hok.ok.tot; simp; omega)) (by
      rw [rkRes]
      simpa [Fv.row] using hL) hB
    rw [hput] at this
    exact this
end Go.Proofs.Ytjgiailgidbkmaa
