/- garnerref4.Disk: Read, Sync, Remove. garnerref4.Disk: Remove, Rename. Nothing is claimed here. -/
import Derived.Test.YtjafamiaahabgaaGreatDoorK22
namespace Go.Proofs.YtjafamiaahabgaaGreatDoor
open Go.RowKit
set_option linter.unusedVariables false
set_option linter.unusedSimpArgs false
set_option maxRecDepth 100000

theorem At.get {fs A C : List Fv} {nm : ByteArray} (h : At fs A C nm) (hs : (fs.map (·.nm)).Pairwise ltF) : (getS (fs.map Fv.fl) nm).isSome = hdN C nm := by
  rw [getF_fl]
  cases hd : hdN C nm with
  | true => obtain ⟨f, C', _, _, hg⟩ := h.yes hd; rw [hg]; rfl
  | false => rw [h.no hs hd]; rfl
set_option maxHeartbeats 2000000 in
theorem readR4_fn {B b room : Nat} {R : List Fl} {F : List Res} (nm : ByteArray) {w0 w : World} (hD : RkS B w0 w b room R F) :
    Fn Tryz.prog 77 #[ptr b, .string nm] w fun r w' => match getS R nm with
      | some f => ∃ u, r = .tuple #[u, .int .i64 0] ∧ RkS B w0 w' b room R (.row 5 1 u f.d.length (bv f.d) :: F)
      | none => r = .tuple #[.slice none 0 0, .int .i64 7] ∧ RkS B w0 w' b room R F := by
  obtain ⟨⟨L, fs, rfl, hok, hL⟩, hB⟩ := hD
  refine Fn.mk Tryz.func77 rfl (by kernel_rfl) Tryz.ntmps77 rfl (by rw [Tryz.results77]) ?_
  repeat (first | (refine RunH ?_; intro w hL hB; try clear w) | (refine Both.mk ?_ ?_ <;> conv => whnf) | fail)
  refine (spot_fn nm hok.ok.len hL hB).mono fun r w ⟨A, C, h1, h2, h3, hr, hL, hB⟩ => ?_
  subst hr
  have hat := At.of h1 h2 h3
  clear h1 h2 h3
  rw [getF_fl]
  cases hd : hdN C nm with
  | false =>
    rw [hat.no hok.srt hd]
    conv => whnf
    repeat (first | (refine RunH ?_; intro w hL hB; try clear w) | (refine Both.mk ?_ ?_ <;> conv => whnf) | fail)
    exact ⟨rfl, RkS.mk' hok hL hB⟩
  | true =>
    obtain ⟨f, C', rfl, hfn, hgn⟩ := hat.yes hd
    rw [hgn]
    obtain rfl := hat.eq
    have hl1 := len1 hok.ok f (by simp)
    have hget : (A ++ f :: C')[A.length]? = some f := by simp
    have hlA : (A ++ f :: C').length = A.length + C'.length + 1 := by simp; omega
    simp only [rkRes, List.cons_append] at hL
    obtain ⟨va, vc, hfv⟩ := rk_shape (X := [_, _]) hL f (by simp)
    obtain ⟨g, gcap, rfl, hgcap⟩ := own_shape0 (hL.ownR (i := 1) rfl) (by omega)
    conv => whnf
    repeat (first | (refine RunH ?_; intro w hL hB; try clear w) | (refine Both.mk ?_ ?_ <;> conv => whnf) | fail)
    refine Rv.buildS (len := 0) (vs := []) ttOk hL tl23 tl5 rfl rfl (by intro u hu; cases hu) (by decide) (by decide) hB fun bo w hL hB => ?_
    conv => whnf
    repeat (first | (refine RunH ?_; intro w hL hB; try clear w) | (refine Both.mk ?_ ?_ <;> conv => whnf) | fail)
    intro o1 ho1
    conv => whnf
    refine Ld.rowF ttOk f3_len 1 (hL.rowN (i := 2) rfl).rowOf tl23 rfl hget (by rw [f3, hfv]; rfl) (by omega) ?_
    conv => whnf
    repeat (first | (refine RunH ?_; intro w hL hB; try clear w) | (refine Both.mk ?_ ?_ <;> conv => whnf) | fail)
    have hS : Sl w (.slice va f.d.length vc) (bv f.d) := by
      have := RowC.sl (show RowC w 5 _ f.d.length (bv f.d) from hL.hold (Fv.row f) (by simp))
      rwa [hfv] at this
    refine Rv.appendS (m := f.d.length) (news := bv f.d) ttOk hL tl23 tl5 rfl (by decide) 0 rfl (by have := hS.toN; rw [bv_length] at this; exact this) (bv_one _) (by simp only [maxLen]; omega) (by omega) hB fun v1 w hL hB => ?_
    dsimp only [List.set, List.flatMap_nil, List.nil_append] at hL
    obtain ⟨xa, xc, rfl⟩ := (show SlN w 1 v1 _ _ from hL.rowN (i := 0) rfl).shape
    conv => whnf
    repeat (first | (refine RunH ?_; intro w hL hB; try clear w) | (refine Both.mk ?_ ?_ <;> conv => whnf) | fail)
    refine ⟨_, rfl, RkS.mk' (L := .slice (some ⟨g, 0, none⟩) (A ++ f :: C').length gcap) hok (hL.perm ?_) hB⟩
    rw [Nat.zero_add]
    refine (List.Perm.swap _ _ _).trans (.cons _ ((List.Perm.swap _ _ _).trans (.cons _ ?_)))
    exact List.perm_middle.symm
set_option maxHeartbeats 2000000 in
theorem syncR_fn {B b room : Nat} {R : List Fl} {F : List Res} (nm : ByteArray) {w0 w : World} (hD : RkS B w0 w b room R F) :
    Fn Tryz.prog 82 #[ptr b, .string nm] w fun r w' => r = .int .i64 (if (getS R nm).isSome then 0 else 7) ∧ RkS B w0 w' b room (syncS R nm) F := by
  obtain ⟨⟨L, fs, rfl, hok, hL⟩, hB⟩ := hD
  refine Fn.mk Tryz.func82 rfl (by kernel_rfl) Tryz.ntmps82 rfl (by rw [Tryz.results82]) ?_
  repeat (first | (refine RunH ?_; intro w hL hB; try clear w) | (refine Both.mk ?_ ?_ <;> conv => whnf) | fail)
  refine (spot_fn nm hok.ok.len hL hB).mono fun r w ⟨A, C, h1, h2, h3, hr, hL, hB⟩ => ?_
  subst hr
  have hat := At.of h1 h2 h3
  clear h1 h2 h3
  rw [syncS, getF_fl]
  cases hd : hdN C nm with
  | false =>
    rw [hat.no hok.srt hd]
    conv => whnf
    repeat (first | (refine RunH ?_; intro w hL hB; try clear w) | (refine Both.mk ?_ ?_ <;> conv => whnf) | fail)
    exact ⟨rfl, RkS.mk' hok hL hB⟩
  | true =>
    obtain ⟨f, C', rfl, hfn, hgn⟩ := hat.yes hd
    rw [hgn]
    obtain rfl := hat.eq
    have hl1 := len1 hok.ok f (by simp)
    have hget : (A ++ f :: C')[A.length]? = some f := by simp
    have hlA : (A ++ f :: C').length = A.length + C'.length + 1 := by simp; omega
    have hput := putF_fl (A ++ f :: C') ⟨nm, f.v, f.d, f.d.length⟩
    rw [putF_split (g := ⟨nm, f.v, f.d, f.d.length⟩) hat.nA hfn] at hput
    simp only [Option.map_some, Option.isSome_some]
    simp only [rkRes, List.cons_append] at hL
    obtain ⟨va, vc, hfv⟩ := rk_shape (X := [_, _]) hL f (by simp)
    obtain ⟨g, gcap, rfl, hgcap⟩ := own_shape0 (hL.ownR (i := 1) rfl) (by omega)
    obtain ⟨fn, fv, fd, fla⟩ := f
    dsimp only at *
    subst hfv; subst hfn
    conv => whnf
    repeat (first | (refine RunK ?_; intro w hL hB; try clear w) | (refine V.treeP ttOk hL 1 (.q 0 (.q 1 (.q 2 (.q 3 (.q 4 (.q 5 (.q 6 (.q 7 (.q 8 (.q 9 (.q 10 (.q 11 (.alt 12 (.q 13 (.q 14 (.q 15 (.alt 16 .nil .stop)))) .stop))))))))))))) mixed (by decide +kernel) ?_; replace hL := hL.drew; conv => whnf) | (refine V.tailA ttOk mixed (by decide +kernel) ?_; replace hL := hL.drew; conv => whnf) | (refine Both.mk ?_ ?_ <;> conv => whnf) | fail)
    intro o1 ho1
    conv => whnf
    repeat (first | (refine RunH ?_; intro w hL hB; try clear w) | (refine Both.mk ?_ ?_ <;> conv => whnf) | (refine Ld.rowF ttOk f3_len 1 (hL.rowN (i := 1) rfl).rowOf tl23 rfl hget rfl (by omega) ?_; conv => whnf) | fail)
    intro o2 ho2
    conv => whnf
    repeat (first | (refine RunH ?_; intro w hL hB; try clear w) | (refine Both.mk ?_ ?_ <;> conv => whnf) | fail)
    refine St.rowM ttOk hL f3_len 1 A.length 2 ⟨fn, .slice va fd.length vc, fd, fd.length⟩ tl3 rfl rfl rfl hget (by decide) rfl (by omega) hB fun w hL hB => ?_
    dsimp only [List.set] at hL
    conv => whnf
    repeat (first | (refine RunH ?_; intro w hL hB; try clear w) | (refine Both.mk ?_ ?_ <;> conv => whnf) | fail)
    refine ⟨rfl, ?_⟩
    have e0 : (A ++ (⟨fn, .slice va fd.length vc, fd, fla⟩ : Fv) :: C').set A.length ⟨fn, .slice va fd.length vc, fd, fd.length⟩ = A ++ ⟨fn, .slice va fd.length vc, fd, fd.length⟩ :: C' := by simp
    rw [e0] at hL
    have := RkS.mk' (L := .slice (some ⟨g, 0, none⟩) (A ++ (⟨fn, .slice va fd.length vc, fd, fla⟩ : Fv) :: C').length gcap) (F := F) (hok.set (g := ⟨fn, .slice va fd.length vc, fd, fd.length⟩) rfl (Nat.le_refl _) (by have := hok.ok.tot; simp; omega)) (by
      rw [rkRes]
      simpa [Fv.row] using hL) hB
    rw [hput] at this
    exact this
end Go.Proofs.YtjafamiaahabgaaGreatDoor
namespace Go.Proofs.YtjafamiaahabgaaGreatDoor
open Go.RowKit
set_option linter.unusedVariables false
set_option linter.unusedSimpArgs false
set_option maxRecDepth 100000

theorem drop_at {α : Type} (A : List α) (f : α) (C : List α) : (A ++ f :: C).drop (A.length + 1) = C := by
  rw [List.drop_append, List.drop_of_length_le (by omega), Nat.add_sub_cancel_left]; rfl
theorem rk_gone {B b room n m : Nat} {v Lo : Value} {xs ys : List Value} {w0 w : World} {A C : List Fv} {f : Fv} {F : List Res} (hn : n = (A ++ C).length) (hx : xs = (A ++ C).flatMap f3)
    (hL : Sep Tryz.prog B w0 w (.row 95 3 v n xs :: .blk b [.int .i64 (room : Int), v] 90 :: .row 95 3 Lo m ys :: ((A ++ f :: C).map Fv.row ++ F))) :
    Sep Tryz.prog B w0 w (f.row :: (rkRes b room v (A ++ C) ++ F)) := by
  subst hn; subst hx
  refine (hL.sub (L' := .row 95 3 v (A ++ C).length ((A ++ C).flatMap f3) :: .blk b [.int .i64 (room : Int), v] 90 :: ((A ++ f :: C).map Fv.row ++ F)) (.cons_cons _ (.cons_cons _ (.cons _ (.refl _))))).perm ?_
  rw [rkRes]
  simp only [List.map_append, List.map_cons, List.cons_append, List.append_assoc]
  refine (List.Perm.swap _ _ _).trans ?_
  refine ((List.perm_middle (l₁ := A.map Fv.row)).cons _ |>.cons _).trans ?_
  exact (((List.Perm.swap _ _ _).cons _).trans (.swap _ _ _))
set_option maxHeartbeats 8000000 in
theorem removeR_raw {B b room : Nat} {L : Value} {fs : List Fv} {F : List Res} (nm : ByteArray) (hs : (fs.map (·.nm)).Pairwise ltF) (hlen : fs.length ≤ 256) {w0 w : World} (hL : Sep Tryz.prog B w0 w (rkRes b room L fs ++ F)) (hB : B ≤ w.heap.size) :
    Fn Tryz.prog 76 #[ptr b, .string nm] w fun r w' => B ≤ w'.heap.size ∧ ((getF fs nm = none ∧ r = .int .i64 7 ∧ Sep Tryz.prog B w0 w' (rkRes b room L fs ++ F)) ∨
      (∃ A f C' L', fs = A ++ f :: C' ∧ f.nm = nm ∧ getF fs nm = some f ∧ (∀ x ∈ A, x.nm ≠ nm) ∧ r = .int .i64 0 ∧ Sep Tryz.prog B w0 w' (f.row :: (rkRes b room L' (A ++ C') ++ F)))) := by
  refine Fn.mk Tryz.func76 rfl (by kernel_rfl) Tryz.ntmps76 rfl (by rw [Tryz.results76]) ?_
  repeat (first | (refine RunH ?_; intro w hL hB; try clear w) | (refine Both.mk ?_ ?_ <;> conv => whnf) | fail)
  refine (spot_fn nm hlen hL hB).mono fun r w ⟨A, C, h1, h2, h3, hr, hL, hB⟩ => ?_
  subst hr
  have hat := At.of h1 h2 h3
  clear h1 h2 h3
  cases hd : hdN C nm with
  | false =>
    conv => whnf
    repeat (first | (refine RunH ?_; intro w hL hB; try clear w) | (refine Both.mk ?_ ?_ <;> conv => whnf) | fail)
    exact ⟨hB, .inl ⟨hat.no hs hd, rfl, hL⟩⟩
  | true =>
    obtain ⟨f, C', rfl, hfn, hgn⟩ := hat.yes hd
    obtain rfl := hat.eq
    have hlA : (A ++ f :: C').length = A.length + C'.length + 1 := by simp; omega
    simp only [rkRes, List.cons_append] at hL
    have hsh := rk_shape (X := [_, _]) hL
    have hshA : ∀ f ∈ A, ∃ a c, f.v = .slice a f.d.length c := fun x hx => hsh x (by simp [hx])
    have hshC : ∀ f ∈ C', ∃ a c, f.v = .slice a f.d.length c := fun x hx => hsh x (by simp [hx])
    obtain ⟨g, gcap, rfl, hgcap⟩ := own_shape0 (hL.ownR (i := 1) rfl) (by omega)
    conv => whnf
    repeat' (first | (refine RunK ?_; intro w hL hB; try clear w) | (refine V.treeP ttOk hL 0 (.q 0 (.q 2 (.q 3 (.q 4 (.q 6 (.q 9 (.q 10 (.q 11 (.q 13 (.q 14 (.alt 1 (.alt 5 (.q 7 (.alt 8 (.alt 12 (.q 15 (.alt 16 (.q 17 (.q 18 (.alt 19 .nil .stop))) .stop)) .stop) (.alt 12 (.q 15 (.alt 8 (.alt 16 (.q 17 (.q 18 (.alt 19 .nil .stop))) .stop) .stop)) .stop))) (.alt 12 (.q 15 (.alt 5 (.q 7 (.alt 8 (.alt 16 (.q 17 (.q 18 (.alt 19 .nil .stop))) .stop) .stop)) .stop)) .stop)) (.alt 5 (.q 7 (.alt 1 (.alt 8 (.alt 12 (.q 15 (.alt 16 (.q 17 (.q 18 (.alt 19 .nil .stop))) .stop)) .stop) (.alt 12 (.q 15 (.alt 8 (.alt 16 (.q 17 (.q 18 (.alt 19 .nil .stop))) .stop) .stop)) .stop)) (.alt 12 (.q 15 (.alt 1 (.alt 8 (.alt 16 (.q 17 (.q 18 (.alt 19 .nil .stop))) .stop) .stop) .stop)) .stop))) (.alt 12 (.q 15 (.alt 1 (.alt 5 (.q 7 (.alt 8 (.alt 16 (.q 17 (.q 18 (.alt 19 .nil .stop))) .stop) .stop)) .stop) (.alt 5 (.q 7 (.alt 1 (.alt 8 (.alt 16 (.q 17 (.q 18 (.alt 19 .nil .stop))) .stop) .stop) .stop)) .stop))) .stop))))))))))))) mixed (by decide +kernel) ?_; replace hL := hL.drew; conv => whnf) | (refine V.tailA ttOk mixed (by decide +kernel) ?_; replace hL := hL.drew; conv => whnf) | (refine Br.dec (fun hbr => ?_) (fun hbr => ?_) <;> conv => whnf) | (refine Br.mk (fun hbr => ?_) (fun hbr => ?_) <;> conv => whnf) | (refine Both.mk ?_ ?_ <;> conv => whnf) | (refine Rv.buildS (len := 0) (vs := []) ttOk hL tl88 tl95 rfl rfl (by intro u hu; cases hu) (by decide) (by decide) hB fun bo w hL hB => ?_; conv => whnf) | (intro o2 n2 c2 q3 q4 q5 q6; obtain rfl : n2 = C'.length := (by omega); conv => whnf) | (intro n1 c1 q1 q2; obtain rfl : n1 = A.length := (by omega); conv => whnf) | (refine Rv.appendS (m := A.length) (news := A.flatMap f3) ttOk hL tl88 tl95 rfl (by decide) 0 rfl (by have := SlN.takeF f3_len (hL.rowN (i := 2) rfl) (k := A.length) (by omega) (c' := c1) (by omega) (by omega); rwa [List.take_left' rfl] at this) (f3_one A hshA) (by simp only [maxLen]; omega) (by omega) hB fun v1 w hL hB => ?_; dsimp only [List.set, List.flatMap_nil, List.nil_append] at hL; obtain ⟨xa, xc, rfl⟩ := (show SlN w 3 v1 _ _ from hL.rowN (i := 0) rfl).shape; conv => whnf) | (refine Rv.appendS (m := C'.length) (news := C'.flatMap f3) ttOk hL tl88 tl95 rfl (by decide) 0 rfl (by have := SlN.dropF f3_len (hL.rowN (i := 2) rfl) (k := A.length + 1) (by omega) (o' := o2) (n' := C'.length) (c' := c2) (fun h => by have := q3 (by omega); omega) (by omega) (by omega); rwa [drop_at, show (A ++ f :: C').length - (A.length + 1) = C'.length from (by omega)] at this) (f3_one C' hshC) (by simp only [maxLen]; omega) (by omega) hB fun v2 w hL hB => ?_; dsimp only [List.set, List.flatMap_nil, List.nil_append] at hL; obtain ⟨ya, yc, rfl⟩ := (show SlN w 3 v2 _ _ from hL.rowN (i := 0) rfl).shape; conv => whnf) | fail)
    all_goals exact ⟨hB, .inr ⟨A, f, C', _, rfl, hfn, hgn, hat.nA, rfl, rk_gone (by simp) (by simp) hL⟩⟩
theorem OkR.del {room : Nat} {A C : List Fv} {f : Fv} (h : OkR room (A ++ f :: C)) : OkR room (A ++ C) := by
  have hsub : (A ++ C).Sublist (A ++ f :: C) := (List.Sublist.refl _).append (.cons _ (.refl _))
  have et : tot (A ++ f :: C) = tot (A ++ C) + f.d.length := by simp [tot]; omega
  have := h.ok.tot
  have := h.ok.len
  exact ⟨⟨h.ok.nd.sublist (hsub.map _), fun x hx => h.ok.la x (hsub.subset hx), by omega, h.ok.room, fun x hx => h.ok.nm x (hsub.subset hx), Nat.le_trans hsub.length_le h.ok.len⟩, h.srt.sublist (hsub.map _)⟩
theorem removeR_fn {B b room : Nat} {R : List Fl} {F : List Res} (nm : ByteArray) {w0 w : World} (hD : RkS B w0 w b room R F) :
    Fn Tryz.prog 76 #[ptr b, .string nm] w fun r w' => r = .int .i64 (if (getS R nm).isSome then 0 else 7) ∧ RkS B w0 w' b room (delS R nm) F := by
  obtain ⟨⟨L, fs, rfl, hok, hL⟩, hB⟩ := hD
  refine (removeR_raw nm hok.srt hok.ok.len hL hB).mono fun r w ⟨hB, hr⟩ => ?_
  rw [getF_fl, ← delF_fl]
  rcases hr with ⟨hg, rfl, hL⟩ | ⟨A, f, C', L', rfl, hfn, hg, hA, rfl, hL⟩
  · rw [hg, delF_none (getF_none hg)]
    exact ⟨rfl, RkS.mk' hok hL hB⟩
  · rw [hg, delF_split hA hfn]
    exact ⟨rfl, RkS.mk' hok.del hL.tl hB⟩
theorem permXY {α : Type} {x y : α} {R F : List α} : (x :: y :: (R ++ F)).Perm (R ++ (y :: x :: F)) :=
  (List.Perm.swap y x _).trans (((List.perm_middle (l₁ := R)).symm.cons y).trans (List.perm_middle (l₁ := R)).symm)
theorem getF_del {fs : List Fv} {nm : ByteArray} (hnd : (fs.map (·.nm)).Nodup) : ∀ y ∈ delF fs nm, y.nm ≠ nm := by
  cases hg : getF fs nm with
  | none => rw [delF_none (getF_none hg)]; exact getF_none hg
  | some f =>
    obtain ⟨A, C, rfl, h1, h2⟩ := getF_some hg
    rw [delF_split h2 h1]
    intro y hy he
    simp only [List.map_append, List.map_cons, List.nodup_append, List.nodup_cons, List.mem_map, List.mem_cons] at hnd
    rcases List.mem_append.1 hy with hy | hy
    · exact h2 y hy he
    · exact hnd.2.1.1 ⟨y, hy, he.trans h1.symm⟩
theorem hdN_no {C : List Fv} {nm : ByteArray} (h : ∀ y ∈ C, y.nm ≠ nm) : hdN C nm = false := by
  cases C with
  | nil => rfl
  | cons c C => exact decide_eq_false (h c (by simp))
theorem putF_perm : ∀ (fs : List Fv) (g : Fv), (putF fs g).Perm (g :: delF fs g.nm)
  | [], g => .refl _
  | f :: fs, g => by
    simp only [putF, delF]
    split
    · exact .refl _
    · exact ((putF_perm fs g).cons f).trans (.swap _ _ _)
end Go.Proofs.YtjafamiaahabgaaGreatDoor
