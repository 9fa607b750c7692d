/- garnerref4.Disk: Remove, Rename. garnerref4.Disk: Cut, Rot. Nothing is claimed here. -/
import Derived.Test.YtpkealgeigpjpaaGreatDoorK30
namespace Go.Proofs.YtpkealgeigpjpaaGreatDoor
open Go.RowKit
set_option linter.unusedVariables false
set_option linter.unusedSimpArgs false
set_option maxRecDepth 100000

theorem drop_at {α : Type} (A : List α) (f : α) (C : List α) : (A ++ f :: C).drop (A.length + 1) = C := by
  rw [List.drop_append, List.drop_of_length_le (by omega), Nat.add_sub_cancel_left]; rfl
theorem rk_gone {B b room n m : Nat} {v Lo : Value} {xs ys : List Value} {w0 w : World} {A C : List Fv} {f : Fv} {F : List Res} (hn : n = (A ++ C).length) (hx : xs = (A ++ C).flatMap f3)
    (hL : Sep Tryz.prog B w0 w (.row 112 3 v n xs :: .blk b [.int .i64 (room : Int), v] 63 :: .row 112 3 Lo m ys :: ((A ++ f :: C).map Fv.row ++ F))) :
    Sep Tryz.prog B w0 w (f.row :: (rkRes b room v (A ++ C) ++ F)) := by
  subst hn; subst hx
  refine (hL.sub (L' := .row 112 3 v (A ++ C).length ((A ++ C).flatMap f3) :: .blk b [.int .i64 (room : Int), v] 63 :: ((A ++ f :: C).map Fv.row ++ F)) (.cons_cons _ (.cons_cons _ (.cons _ (.refl _))))).perm ?_
  rw [rkRes]
  simp only [List.map_append, List.map_cons, List.cons_append, List.append_assoc]
  refine (List.Perm.swap _ _ _).trans ?_
  refine ((List.perm_middle (l₁ := A.map Fv.row)).cons _ |>.cons _).trans ?_
  exact (((List.Perm.swap _ _ _).cons _).trans (.swap _ _ _))
set_option maxHeartbeats 8000000 in
theorem removeR_raw {B b room : Nat} {L : Value} {fs : List Fv} {F : List Res} (nm : ByteArray) (hs : (fs.map (·.nm)).Pairwise ltF) (hlen : fs.length ≤ 256) {w0 w : World} (hL : Sep Tryz.prog B w0 w (rkRes b room L fs ++ F)) (hB : B ≤ w.heap.size) :
    Fn Tryz.prog 29 #[ptr b, .string nm] w fun r w' => B ≤ w'.heap.size ∧ ((getF fs nm = none ∧ r = .int .i64 7 ∧ Sep Tryz.prog B w0 w' (rkRes b room L fs ++ F)) ∨
      (∃ A f C' L', fs = A ++ f :: C' ∧ f.nm = nm ∧ getF fs nm = some f ∧ (∀ x ∈ A, x.nm ≠ nm) ∧ r = .int .i64 0 ∧ Sep Tryz.prog B w0 w' (f.row :: (rkRes b room L' (A ++ C') ++ F)))) := by
  refine Fn.mk Tryz.func29 rfl (by kernel_rfl) Tryz.ntmps29 rfl (by rw [Tryz.results29]) ?_
  repeat (first | (refine RunH ?_; intro w hL hB; try clear w) | (refine Both.mk ?_ ?_ <;> conv => whnf) | fail)
  refine (spot_fn nm hlen hL hB).mono fun r w ⟨A, C, h1, h2, h3, hr, hL, hB⟩ => ?_
  subst hr
  have hat := At.of h1 h2 h3
  clear h1 h2 h3
  cases hd : hdN C nm with
  | false =>
    conv => whnf
    repeat (first | (refine RunH ?_; intro w hL hB; try clear w) | (refine Both.mk ?_ ?_ <;> conv => whnf) | fail)
    exact ⟨hB, .inl ⟨hat.no hs hd, rfl, hL⟩⟩
  | true =>
    obtain ⟨f, C', rfl, hfn, hgn⟩ := hat.yes hd
    obtain rfl := hat.eq
    have hlA : (A ++ f :: C').length = A.length + C'.length + 1 := by simp; omega
    simp only [rkRes, List.cons_append] at hL
    have hsh := rk_shape (X := [_, _]) hL
    have hshA : ∀ f ∈ A, ∃ a c, f.v = .slice a f.d.length c := fun x hx => hsh x (by simp [hx])
    have hshC : ∀ f ∈ C', ∃ a c, f.v = .slice a f.d.length c := fun x hx => hsh x (by simp [hx])
    obtain ⟨g, gcap, rfl, hgcap⟩ := own_shape0 (hL.ownR (i := 1) rfl) (by omega)
    conv => whnf
    repeat' (first | (refine RunK ?_; intro w hL hB; try clear w) | (refine V.treeP ttOk hL 0 (.q 0 (.q 2 (.q 3 (.q 4 (.q 6 (.q 9 (.q 10 (.q 11 (.q 13 (.q 14 (.alt 1 (.alt 5 (.q 7 (.alt 8 (.alt 12 (.q 15 (.alt 16 (.q 17 (.q 18 (.alt 19 .nil .stop))) .stop)) .stop) (.alt 12 (.q 15 (.alt 8 (.alt 16 (.q 17 (.q 18 (.alt 19 .nil .stop))) .stop) .stop)) .stop))) (.alt 12 (.q 15 (.alt 5 (.q 7 (.alt 8 (.alt 16 (.q 17 (.q 18 (.alt 19 .nil .stop))) .stop) .stop)) .stop)) .stop)) (.alt 5 (.q 7 (.alt 1 (.alt 8 (.alt 12 (.q 15 (.alt 16 (.q 17 (.q 18 (.alt 19 .nil .stop))) .stop)) .stop) (.alt 12 (.q 15 (.alt 8 (.alt 16 (.q 17 (.q 18 (.alt 19 .nil .stop))) .stop) .stop)) .stop)) (.alt 12 (.q 15 (.alt 1 (.alt 8 (.alt 16 (.q 17 (.q 18 (.alt 19 .nil .stop))) .stop) .stop) .stop)) .stop))) (.alt 12 (.q 15 (.alt 1 (.alt 5 (.q 7 (.alt 8 (.alt 16 (.q 17 (.q 18 (.alt 19 .nil .stop))) .stop) .stop)) .stop) (.alt 5 (.q 7 (.alt 1 (.alt 8 (.alt 16 (.q 17 (.q 18 (.alt 19 .nil .stop))) .stop) .stop) .stop)) .stop))) .stop))))))))))))) mixed (by decide +kernel) ?_; replace hL := hL.drew; conv => whnf) | (refine V.tailA ttOk mixed (by decide +kernel) ?_; replace hL := hL.drew; conv => whnf) | (refine Br.dec (fun hbr => ?_) (fun hbr => ?_) <;> conv => whnf) | (refine Br.mk (fun hbr => ?_) (fun hbr => ?_) <;> conv => whnf) | (refine Both.mk ?_ ?_ <;> conv => whnf) | (refine Rv.buildS (len := 0) (vs := []) ttOk hL tl61 tl112 rfl rfl (by intro u hu; cases hu) (by decide) (by decide) hB fun bo w hL hB => ?_; conv => whnf) | (intro o2 n2 c2 q3 q4 q5 q6; obtain rfl : n2 = C'.length := (by omega); conv => whnf) | (intro n1 c1 q1 q2; obtain rfl : n1 = A.length := (by omega); conv => whnf) | (refine Rv.appendS (m := A.length) (news := A.flatMap f3) ttOk hL tl61 tl112 rfl (by decide) 0 rfl (by have := SlN.takeF f3_len (hL.rowN (i := 2) rfl) (k := A.length) (by omega) (c' := c1) (by omega) (by omega); rwa [List.take_left' rfl] at this) (f3_one A hshA) (by simp only [maxLen]; omega) (by omega) hB fun v1 w hL hB => ?_; dsimp only [List.set, List.flatMap_nil, List.nil_append] at hL; obtain ⟨xa, xc, rfl⟩ := (show SlN w 3 v1 _ _ from hL.rowN (i := 0) rfl).shape; conv => whnf) | (refine Rv.appendS (m := C'.length) (news := C'.flatMap f3) ttOk hL tl61 tl112 rfl (by decide) 0 rfl (by have := SlN.dropF f3_len (hL.rowN (i := 2) rfl) (k := A.length + 1) (by omega) (o' := o2) (n' := C'.length) (c' := c2) (fun h => by have := q3 (by omega); omega) (by omega) (by omega); rwa [drop_at, show (A ++ f :: C').length - (A.length + 1) = C'.length from (by omega)] at this) (f3_one C' hshC) (by simp only [maxLen]; omega) (by omega) hB fun v2 w hL hB => ?_; dsimp only [List.set, List.flatMap_nil, List.nil_append] at hL; obtain ⟨ya, yc, rfl⟩ := (show SlN w 3 v2 _ _ from hL.rowN (i := 0) rfl).shape; conv => whnf) | fail)
    all_goals exact ⟨hB, .inr ⟨A, f, C', _, rfl, hfn, hgn, hat.nA, rfl, rk_gone (by simp) (by simp) hL⟩⟩
theorem OkR.del {room : Nat} {A C : List Fv} {f : Fv} (h : OkR room (A ++ f :: C)) : OkR room (A ++ C) := by
  have hsub : (A ++ C).Sublist (A ++ f :: C) := (List.Sublist.refl _).append (.cons _ (.refl _))
  have et : tot (A ++ f :: C) = tot (A ++ C) + f.d.length := by simp [tot]; omega
  have := h.ok.tot
  have := h.ok.len
  exact ⟨⟨h.ok.nd.sublist (hsub.map _), fun x hx => h.ok.la x (hsub.subset hx), by omega, h.ok.room, fun x hx => h.ok.nm x (hsub.subset hx), Nat.le_trans hsub.length_le h.ok.len⟩, h.srt.sublist (hsub.map _)⟩
theorem removeR_fn {B b room : Nat} {R : List Fl} {F : List Res} (nm : ByteArray) {w0 w : World} (hD : RkS B w0 w b room R F) :
    Fn Tryz.prog 29 #[ptr b, .string nm] w fun r w' => r = .int .i64 (if (getS R nm).isSome then 0 else 7) ∧ RkS B w0 w' b room (delS R nm) F := by
  obtain ⟨⟨L, fs, rfl, hok, hL⟩, hB⟩ := hD
  refine (removeR_raw nm hok.srt hok.ok.len hL hB).mono fun r w ⟨hB, hr⟩ => ?_
  rw [getF_fl, ← delF_fl]
  rcases hr with ⟨hg, rfl, hL⟩ | ⟨A, f, C', L', rfl, hfn, hg, hA, rfl, hL⟩
  · rw [hg, delF_none (getF_none hg)]
    exact ⟨rfl, RkS.mk' hok hL hB⟩
  · rw [hg, delF_split hA hfn]
    exact ⟨rfl, RkS.mk' hok.del hL.tl hB⟩
theorem permXY {α : Type} {x y : α} {R F : List α} : (x :: y :: (R ++ F)).Perm (R ++ (y :: x :: F)) :=
  (List.Perm.swap y x _).trans (((List.perm_middle (l₁ := R)).symm.cons y).trans (List.perm_middle (l₁ := R)).symm)
theorem getF_del {fs : List Fv} {nm : ByteArray} (hnd : (fs.map (·.nm)).Nodup) : ∀ y ∈ delF fs nm, y.nm ≠ nm := by
  cases hg : getF fs nm with
  | none => rw [delF_none (getF_none hg)]; exact getF_none hg
  | some f =>
    obtain ⟨A, C, rfl, h1, h2⟩ := getF_some hg
    rw [delF_split h2 h1]
    intro y hy he
    simp only [List.map_append, List.map_cons, List.nodup_append, List.nodup_cons, List.mem_map, List.mem_cons] at hnd
    rcases List.mem_append.1 hy with hy | hy
    · exact h2 y hy he
    · exact hnd.2.1.1 ⟨y, hy, he.trans h1.symm⟩
theorem hdN_no {C : List Fv} {nm : ByteArray} (h : ∀ y ∈ C, y.nm ≠ nm) : hdN C nm = false := by
  cases C with
  | nil => rfl
  | cons c C => exact decide_eq_false (h c (by simp))
theorem putF_perm : ∀ (fs : List Fv) (g : Fv), (putF fs g).Perm (g :: delF fs g.nm)
  | [], g => .refl _
  | f :: fs, g => by
    simp only [putF, delF]
    split
    · exact .refl _
    · exact ((putF_perm fs g).cons f).trans (.swap _ _ _)
end Go.Proofs.YtpkealgeigpjpaaGreatDoor
namespace Go.Proofs.YtpkealgeigpjpaaGreatDoor
open Go.RowKit
set_option linter.unusedVariables false
set_option linter.unusedSimpArgs false
set_option maxRecDepth 100000

theorem put_at {A C' : List Fv} {f g : Fv} {nm : ByteArray} (hA : ∀ x ∈ A, x.nm ≠ nm) (hfn : f.nm = nm) (hgn : g.nm = nm) : (A ++ g :: C').map Fv.fl = putS ((A ++ f :: C').map Fv.fl) g.fl := by
  rw [← putF_fl, putF_split (g := g) (by rw [hgn]; exact hA) (by rw [hgn]; exact hfn)]
theorem Sl.takeO {w : World} {a : Option Addr} {n c : Nat} {xs : List Value} (h : Sl w (.slice a n c) xs) {k : Nat} (hk : k ≤ xs.length) {c' : Nat} (h1 : k ≤ c') (h2 : c' ≤ c) : Sl w (.slice a k c') (xs.take k) := by
  obtain ⟨a', c0, he, e1, e2, e3, e4⟩ := h.of
  injection he with he1 he2 he3
  subst he1; subst he3
  refine ⟨a, c', by rw [List.length_take, Nat.min_eq_left hk], by rw [List.length_take]; omega, by omega, fun h => by have := e3 h; omega, fun ad had hne => ?_⟩
  have hx : xs ≠ [] := fun h => by subst h; simp at hne
  exact ⟨(e4 ad had hx).1, (e4 ad had hx).2.take k⟩
set_option maxHeartbeats 8000000 in
theorem cutR_fn {B b room : Nat} {R : List Fl} {F : List Res} (nm : ByteArray) (n : Int) {w0 w : World} (hD : RkS B w0 w b room R F) :
    Fn Tryz.prog 46 #[ptr b, .string nm, .int .i64 n] w fun r w' => r = .int .i64 (cutE R nm n : Nat) ∧ RkS B w0 w' b room (cutS R nm n) F := by
  obtain ⟨⟨L, fs, rfl, hok, hL⟩, hB⟩ := hD
  refine Fn.mk Tryz.func46 rfl (by kernel_rfl) Tryz.ntmps46 rfl (by rw [Tryz.results46]) ?_
  repeat (first | (refine RunH ?_; intro w hL hB; try clear w) | (refine Both.mk ?_ ?_ <;> conv => whnf) | fail)
  refine (spot_fn nm hok.ok.len hL hB).mono fun r w ⟨A, C, h1, h2, h3, hr, hL, hB⟩ => ?_
  subst hr
  have hat := At.of h1 h2 h3
  clear h1 h2 h3
  cases hd : hdN C nm with
  | false =>
    have e1 : cutE (fs.map Fv.fl) nm n = 7 := by rw [cutE, getF_fl, hat.no hok.srt hd]; rfl
    have e2 : cutS (fs.map Fv.fl) nm n = fs.map Fv.fl := by rw [cutS, getF_fl, hat.no hok.srt hd]; rfl
    rw [e1, e2]
    conv => whnf
    repeat (first | (refine RunH ?_; intro w hL hB; try clear w) | (refine Both.mk ?_ ?_ <;> conv => whnf) | fail)
    exact ⟨rfl, RkS.mk' hok hL hB⟩
  | true =>
    obtain ⟨f, C', rfl, hfn, hgn⟩ := hat.yes hd
    obtain rfl := hat.eq
    have hl1 := len1 hok.ok f (by simp)
    have hla := hok.ok.la f (by simp)
    have hget : (A ++ f :: C')[A.length]? = some f := by simp
    have hlA : (A ++ f :: C').length = A.length + C'.length + 1 := by simp; omega
    have hnA := hat.nA
    simp only [rkRes, List.cons_append] at hL
    obtain ⟨va, vc, hfv⟩ := rk_shape (X := [_, _]) hL f (by simp)
    obtain ⟨g, gcap, rfl, hgcap⟩ := own_shape0 (hL.ownR (i := 1) rfl) (by omega)
    obtain ⟨fn, fv, fd, fla⟩ := f
    dsimp only at *
    subst hfv; subst hfn
    have eE : cutE ((A ++ (⟨fn, .slice va fd.length vc, fd, fla⟩ : Fv) :: C').map Fv.fl) fn n = if n < 0 ∨ (fd.length : Int) < n then 1 else 0 := by rw [cutE, getF_fl, hgn]; rfl
    have eS : cutS ((A ++ (⟨fn, .slice va fd.length vc, fd, fla⟩ : Fv) :: C').map Fv.fl) fn n = if n < 0 ∨ (fd.length : Int) < n then (A ++ (⟨fn, .slice va fd.length vc, fd, fla⟩ : Fv) :: C').map Fv.fl else putS ((A ++ (⟨fn, .slice va fd.length vc, fd, fla⟩ : Fv) :: C').map Fv.fl) ⟨fn, fd.take n.toNat, min n.toNat fla⟩ := by rw [cutS, getF_fl, hgn]; rfl
    rw [eE, eS]
    clear eE eS
    by_cases h0 : n < 0
    · rw [if_pos (.inl h0), if_pos (.inl h0)]
      conv => whnf
      repeat (first | (refine RunH ?_; intro w hL hB; try clear w) | (refine Both.mk ?_ ?_ <;> conv => whnf) | fail)
      exact ⟨rfl, RkS.mk' (L := .slice (some ⟨g, 0, none⟩) (A ++ (⟨fn, .slice va fd.length vc, fd, fla⟩ : Fv) :: C').length gcap) hok hL hB⟩
    by_cases h1 : (fd.length : Int) < n
    · rw [if_pos (.inr h1), if_pos (.inr h1)]
      conv => whnf
      repeat (first | (refine RunH ?_; intro w hL hB; try clear w) | (refine Both.mk ?_ ?_ <;> conv => whnf) | fail)
      intro o1 ho1
      conv => whnf
      repeat (first | (refine RunH ?_; intro w hL hB; try clear w) | (refine Both.mk ?_ ?_ <;> conv => whnf) | fail)
      refine Ld.rowF ttOk f3_len 1 (hL.rowN (i := 1) rfl).rowOf tl47 rfl hget rfl (by omega) ?_
      conv => whnf
      repeat (first | (refine RunH ?_; intro w hL hB; try clear w) | (refine Both.mk ?_ ?_ <;> conv => whnf) | fail)
      exact ⟨rfl, RkS.mk' (L := .slice (some ⟨g, 0, none⟩) (A ++ (⟨fn, .slice va fd.length vc, fd, fla⟩ : Fv) :: C').length gcap) hok hL hB⟩
    rw [if_neg (by omega), if_neg (by omega)]
    obtain ⟨k, rfl⟩ : ∃ k : Nat, n = k := ⟨n.toNat, by omega⟩
    have hk : k ≤ fd.length := by omega
    rw [Int.toNat_natCast]
    have hrc : RowC w 5 (.slice va fd.length vc) fd.length (bv fd) := hL.hold (Fv.row ⟨fn, .slice va fd.length vc, fd, fla⟩) (by simp)
    have hvc : fd.length ≤ vc := by have := hrc.sl.len; rw [bv_length] at this; omega
    have hS : ∀ {w : World} {L : List Res}, Sep Tryz.prog B w0 w L → Fv.row ⟨fn, .slice va fd.length vc, fd, fla⟩ ∈ L → ∀ c', k ≤ c' → c' ≤ vc → SlN w 1 (.slice va k c') k (bv (fd.take k)) := fun h hm c' q1 q2 => by
      have h1 : Sl _ (.slice va fd.length vc) (bv fd) := RowC.sl (show RowC _ 5 _ fd.length (bv fd) from h.hold _ hm)
      have h2 := (h1.takeO (k := k) (by rw [bv_length]; exact hk) q1 q2).toN
      rw [← bv_take, bv_length, List.length_take, Nat.min_eq_left hk] at h2
      exact h2
    conv => whnf
    repeat (first | (refine RunH ?_; intro w hL hB; try clear w) | (refine Both.mk ?_ ?_ <;> conv => whnf) | fail)
    intro o1 ho1
    conv => whnf
    repeat (first | (refine RunH ?_; intro w hL hB; try clear w) | (refine Both.mk ?_ ?_ <;> conv => whnf) | fail)
    refine Ld.rowF ttOk f3_len 1 (hL.rowN (i := 1) rfl).rowOf tl47 rfl hget rfl (by omega) ?_
    conv => whnf
    repeat (first | (refine RunK ?_; intro w hL hB; try clear w) | (refine V.treeP ttOk hL 1 (.q 0 (.q 1 (.q 2 (.q 3 (.q 4 (.q 6 (.q 7 (.q 8 (.q 9 (.q 10 (.q 11 (.q 12 (.q 14 (.alt 5 (.alt 13 (.q 15 (.alt 16 (.q 17 (.q 18 (.alt 19 .nil .stop))) .stop)) .stop) (.alt 13 (.q 15 (.alt 5 (.alt 16 (.q 17 (.q 18 (.alt 19 .nil .stop))) .stop) .stop)) .stop))))))))))))))) mixed (by decide +kernel) ?_; replace hL := hL.drew; conv => whnf) | (refine V.tailA ttOk mixed (by decide +kernel) ?_; replace hL := hL.drew; conv => whnf) | (refine Both.mk ?_ ?_ <;> conv => whnf) | fail)
    intro o2 ho2
    have hva : va = none ∨ ∃ fb, va = some ⟨fb, 0, none⟩ := by
      rcases hrc.of with ⟨hz, _⟩ | ⟨fb, fcap, fcur, hz, _⟩
      · injection hz with z1; exact .inl z1
      · injection hz with z1; exact .inr ⟨fb, z1⟩
    rcases hva with rfl | ⟨fb, rfl⟩ <;> (
      conv => whnf
      repeat' (first | (refine RunH ?_; intro w hL hB; try clear w) | (refine Br.dec (fun hbr => ?_) (fun hbr => ?_) <;> conv => whnf) | (refine Br.mk (fun hbr => ?_) (fun hbr => ?_) <;> conv => whnf) | (refine Both.mk ?_ ?_ <;> conv => whnf) | (refine Rv.buildS (len := 0) (vs := []) ttOk hL tl47 tl5 rfl rfl (by intro u hu; cases hu) (by decide) (by decide) hB fun bo w hL hB => ?_; conv => whnf) | (refine Ld.rowF ttOk f3_len 1 (hL.rowN (i := 1) rfl).rowOf tl47 rfl hget rfl (by omega) ?_; conv => whnf) | (refine Ld.rowF ttOk f3_len 1 (hL.rowN (i := 2) rfl).rowOf tl47 rfl hget rfl (by omega) ?_; conv => whnf) | (intro n1 c1 q1 q2; obtain rfl : k = n1 := (by omega); conv => whnf) | fail)
      all_goals (
        refine Rv.appendS (m := k) (news := bv (fd.take k)) ttOk hL tl47 tl5 rfl (by decide) 0 rfl (hS hL (by simp) c1 (by omega) (by omega)) (bv_one _) (by simp only [maxLen]; omega) (by omega) hB fun v1 w hL hB => ?_
        dsimp only [List.set, List.flatMap_nil, List.nil_append] at hL
        obtain ⟨xa, xc, rfl⟩ := (show SlN w 1 v1 _ _ from hL.rowN (i := 0) rfl).shape
        conv => whnf
        repeat (first | (refine RunH ?_; intro w hL hB; try clear w) | (refine Both.mk ?_ ?_ <;> conv => whnf) | fail)
        intro o3 ho3
        conv => whnf
        repeat (first | (refine RunH ?_; intro w hL hB; try clear w) | (refine Both.mk ?_ ?_ <;> conv => whnf) | fail)
        refine St.rowM ttOk hL f3_len 2 A.length 1 ⟨fn, .slice xa (0 + k) xc, fd.take k, fla⟩ tl47 rfl rfl rfl hget (by decide) rfl (by omega) hB fun w hL hB => ?_
        dsimp only [List.set] at hL
        conv => whnf
        refine An.x hL ?_
        replace hL := rk_swap (g := ⟨fn, .slice xa (0 + k) xc, fd.take k, fla⟩) rfl (by simp; omega) (by rfl) hL
        have hget2 : (A ++ (⟨fn, .slice xa (0 + k) xc, fd.take k, fla⟩ : Fv) :: C')[A.length]? = some ⟨fn, .slice xa (0 + k) xc, fd.take k, fla⟩ := by simp
        simp only [rkRes, List.cons_append] at hL
        conv => whnf
        repeat (first | (refine RunK ?_; intro w hL hB; try clear w) | (refine V.treeP ttOk hL 1 (.q 0 (.q 1 (.q 2 (.q 3 (.q 4 (.q 5 (.q 6 (.q 7 (.q 8 (.q 9 (.q 10 (.q 11 (.q 13 (.alt 12 (.q 14 (.q 15 (.q 16 (.alt 17 .nil .stop)))) .stop)))))))))))))) mixed (by decide +kernel) ?_; replace hL := hL.drew; conv => whnf) | (refine V.tailA ttOk mixed (by decide +kernel) ?_; replace hL := hL.drew; conv => whnf) | (refine Both.mk ?_ ?_ <;> conv => whnf) | fail)
        intro o4 ho4
        conv => whnf
        repeat (first | (refine RunH ?_; intro w hL hB; try clear w) | (refine Both.mk ?_ ?_ <;> conv => whnf) | fail)
        refine Ld.rowF ttOk f3_len 2 (hL.rowN (i := 1) rfl).rowOf tl3 rfl hget2 rfl (by omega) ?_
        conv => whnf
        repeat (first | (refine RunH ?_; intro w hL hB; try clear w) | (refine Both.mk ?_ ?_ <;> conv => whnf) | fail)
        intro o5 ho5
        conv => whnf
        repeat (first | (refine RunH ?_; intro w hL hB; try clear w) | (refine Both.mk ?_ ?_ <;> conv => whnf) | fail)
        refine St.rowM ttOk hL f3_len 1 A.length 2 ⟨fn, .slice xa (0 + k) xc, fd.take k, min k fla⟩ tl3 rfl rfl rfl hget2 (by decide) (by
          have e : min (fla : Int) (k : Int) = ((min k fla : Nat) : Int) := by omega
          show [_, _, Value.int .i64 (min (fla : Int) (k : Int))] = _
          rw [e]; rfl) (by omega) hB fun w hL hB => ?_
        dsimp only [List.set] at hL
        conv => whnf
        repeat (first | (refine RunH ?_; intro w hL hB; try clear w) | (refine Both.mk ?_ ?_ <;> conv => whnf) | fail)
        refine ⟨rfl, ?_⟩
        have e0 : (A ++ (⟨fn, .slice xa (0 + k) xc, fd.take k, fla⟩ : Fv) :: C').set A.length ⟨fn, .slice xa (0 + k) xc, fd.take k, min k fla⟩ = A ++ ⟨fn, .slice xa (0 + k) xc, fd.take k, min k fla⟩ :: C' := by simp
        rw [e0] at hL
        have := RkS.mk' (L := .slice (some ⟨g, 0, none⟩) (A ++ (⟨fn, .slice xa (0 + k) xc, fd.take k, fla⟩ : Fv) :: C').length gcap) (F := F) (hok.set (g := ⟨fn, .slice xa (0 + k) xc, fd.take k, min k fla⟩) rfl (by simp; omega) (by have := hok.ok.tot; simp; omega)) (by
          rw [rkRes]
          simpa [Fv.row] using hL) hB
        rw [put_at (f := ⟨fn, .slice _ fd.length vc, fd, fla⟩) (nm := fn) hnA rfl rfl] at this
        exact this))
theorem bits_xor8 (b c : UInt8) : ((b.toNat ^^^ c.toNat : Nat) : Int) = ((b ^^^ c).toNat : Int) := by simp
theorem splice_set1 (xs : List Value) (j : Nat) (v : Value) (h : j < xs.length) : splice xs j [v] = xs.set j v := by
  rw [splice_eq _ _ _ (by simp; omega), List.set_eq_take_append_cons_drop, if_pos h]
  simp
theorem bv_set (l : List UInt8) (j : Nat) (b : UInt8) : (bv l).set j (u8 b) = bv (l.set j b) := by
  unfold bv
  rw [List.map_set]
set_option maxHeartbeats 8000000 in
theorem rotR_fn {B b room : Nat} {R : List Fl} {F : List Res} (nm : ByteArray) (n : Int) (x : UInt8) {w0 w : World} (hD : RkS B w0 w b room R F) :
    Fn Tryz.prog 44 #[ptr b, .string nm, .int .i64 n, .int .u8 (x.toNat : Int)] w fun r w' => r = .int .i64 (rotE R nm n : Nat) ∧ RkS B w0 w' b room (rotS R nm n x) F := by
  obtain ⟨⟨L, fs, rfl, hok, hL⟩, hB⟩ := hD
  refine Fn.mk Tryz.func44 rfl (by kernel_rfl) Tryz.ntmps44 rfl (by rw [Tryz.results44]) ?_
  repeat (first | (refine RunH ?_; intro w hL hB; try clear w) | (refine Both.mk ?_ ?_ <;> conv => whnf) | fail)
  refine (spot_fn nm hok.ok.len hL hB).mono fun r w ⟨A, C, h1, h2, h3, hr, hL, hB⟩ => ?_
  subst hr
  have hat := At.of h1 h2 h3
  clear h1 h2 h3
  cases hd : hdN C nm with
  | false =>
    have e1 : rotE (fs.map Fv.fl) nm n = 7 := by rw [rotE, getF_fl, hat.no hok.srt hd]; rfl
    have e2 : rotS (fs.map Fv.fl) nm n x = fs.map Fv.fl := by rw [rotS, getF_fl, hat.no hok.srt hd]; rfl
    rw [e1, e2]
    conv => whnf
    repeat (first | (refine RunH ?_; intro w hL hB; try clear w) | (refine Both.mk ?_ ?_ <;> conv => whnf) | fail)
    exact ⟨rfl, RkS.mk' hok hL hB⟩
  | true =>
    obtain ⟨f, C', rfl, hfn, hgn⟩ := hat.yes hd
    obtain rfl := hat.eq
    have hl1 := len1 hok.ok f (by simp)
    have hla := hok.ok.la f (by simp)
    have hget : (A ++ f :: C')[A.length]? = some f := by simp
    have hlA : (A ++ f :: C').length = A.length + C'.length + 1 := by simp; omega
    have hnA := hat.nA
    simp only [rkRes, List.cons_append] at hL
    obtain ⟨va, vc, hfv⟩ := rk_shape (X := [_, _]) hL f (by simp)
    obtain ⟨g, gcap, rfl, hgcap⟩ := own_shape0 (hL.ownR (i := 1) rfl) (by omega)
    obtain ⟨fn, fv, fd, fla⟩ := f
    dsimp only at *
    subst hfv; subst hfn
    have eE : rotE ((A ++ (⟨fn, .slice va fd.length vc, fd, fla⟩ : Fv) :: C').map Fv.fl) fn n = if n < 0 ∨ (fd.length : Int) ≤ n then 7 else 0 := by rw [rotE, getF_fl, hgn]; rfl
    have eS : rotS ((A ++ (⟨fn, .slice va fd.length vc, fd, fla⟩ : Fv) :: C').map Fv.fl) fn n x = if n < 0 ∨ (fd.length : Int) ≤ n then (A ++ (⟨fn, .slice va fd.length vc, fd, fla⟩ : Fv) :: C').map Fv.fl else putS ((A ++ (⟨fn, .slice va fd.length vc, fd, fla⟩ : Fv) :: C').map Fv.fl) ⟨fn, rotL fd n.toNat x, fla⟩ := by rw [rotS, getF_fl, hgn]; rfl
    rw [eE, eS]
    clear eE eS
    by_cases h0 : n < 0
    · rw [if_pos (.inl h0), if_pos (.inl h0)]
      conv => whnf
      repeat (first | (refine RunH ?_; intro w hL hB; try clear w) | (refine Both.mk ?_ ?_ <;> conv => whnf) | fail)
      exact ⟨rfl, RkS.mk' (L := .slice (some ⟨g, 0, none⟩) (A ++ (⟨fn, .slice va fd.length vc, fd, fla⟩ : Fv) :: C').length gcap) hok hL hB⟩
    by_cases h1 : (fd.length : Int) ≤ n
    · rw [if_pos (.inr h1), if_pos (.inr h1)]
      conv => whnf
      repeat (first | (refine RunH ?_; intro w hL hB; try clear w) | (refine Both.mk ?_ ?_ <;> conv => whnf) | fail)
      intro o1 ho1
      conv => whnf
      repeat (first | (refine RunH ?_; intro w hL hB; try clear w) | (refine Both.mk ?_ ?_ <;> conv => whnf) | fail)
      refine Ld.rowF ttOk f3_len 1 (hL.rowN (i := 1) rfl).rowOf tl47 rfl hget rfl (by omega) ?_
      conv => whnf
      repeat (first | (refine RunH ?_; intro w hL hB; try clear w) | (refine Both.mk ?_ ?_ <;> conv => whnf) | fail)
      exact ⟨rfl, RkS.mk' (L := .slice (some ⟨g, 0, none⟩) (A ++ (⟨fn, .slice va fd.length vc, fd, fla⟩ : Fv) :: C').length gcap) hok hL hB⟩
    rw [if_neg (by omega), if_neg (by omega)]
    obtain ⟨k, rfl⟩ : ∃ k : Nat, n = k := ⟨n.toNat, by omega⟩
    have hk : k < fd.length := by omega
    rw [Int.toNat_natCast]
    conv => whnf
    repeat (first | (refine RunH ?_; intro w hL hB; try clear w) | (refine Both.mk ?_ ?_ <;> conv => whnf) | fail)
    intro o1 ho1
    conv => whnf
    repeat (first | (refine RunH ?_; intro w hL hB; try clear w) | (refine Both.mk ?_ ?_ <;> conv => whnf) | fail)
    refine Ld.rowF ttOk f3_len 1 (hL.rowN (i := 1) rfl).rowOf tl47 rfl hget rfl (by omega) ?_
    conv => whnf
    repeat (first | (refine RunH ?_; intro w hL hB; try clear w) | (refine Both.mk ?_ ?_ <;> conv => whnf) | fail)
    refine Rv.buildS (len := 0) (vs := []) ttOk hL tl47 tl5 rfl rfl (by intro u hu; cases hu) (by decide) (by decide) hB fun bo w hL hB => ?_
    conv => whnf
    repeat (first | (refine RunH ?_; intro w hL hB; try clear w) | (refine Both.mk ?_ ?_ <;> conv => whnf) | fail)
    intro o2 ho2
    conv => whnf
    refine Ld.rowF ttOk f3_len 1 (hL.rowN (i := 2) rfl).rowOf tl47 rfl hget rfl (by omega) ?_
    conv => whnf
    repeat (first | (refine RunH ?_; intro w hL hB; try clear w) | (refine Both.mk ?_ ?_ <;> conv => whnf) | fail)
    have hS : Sl w (.slice va fd.length vc) (bv fd) := RowC.sl (show RowC w 5 _ fd.length (bv fd) from hL.hold (Fv.row ⟨fn, .slice va fd.length vc, fd, fla⟩) (by simp))
    refine Rv.appendS (m := fd.length) (news := bv fd) ttOk hL tl47 tl5 rfl (by decide) 0 rfl (by have := hS.toN; rw [bv_length] at this; exact this) (bv_one _) (by simp only [maxLen]; omega) (by omega) hB fun v1 w hL hB => ?_
    dsimp only [List.set, List.flatMap_nil, List.nil_append] at hL
    rw [Nat.zero_add, show List.flatMap cellsL [] ++ bv fd = bv fd from rfl] at hL
    obtain ⟨xg, xc, rfl, hxc⟩ := own_shape0 (hL.ownR (i := 0) rfl) (by omega)
    conv => whnf
    repeat (first | (refine RunH ?_; intro w hL hB; try clear w) | (refine Both.mk ?_ ?_ <;> conv => whnf) | fail)
    intro o3 ho3
    conv => whnf
    refine Ld.row1 ttOk (k := k) (hL.rowN (i := 0) rfl).rowOf tl5 rfl (bv_get (List.getElem?_eq_getElem hk)) (by omega) ?_
    conv => whnf
    repeat (first | (refine RunH ?_; intro w hL hB; try clear w) | (refine Both.mk ?_ ?_ <;> conv => whnf) | fail)
    refine Bt.xor8 fd[k].toNat x.toNat rfl rfl (UInt8.toNat_lt _) (UInt8.toNat_lt _) ?_
    rw [bits_xor8]
    conv => whnf
    repeat (first | (refine RunH ?_; intro w hL hB; try clear w) | (refine Both.mk ?_ ?_ <;> conv => whnf) | fail)
    intro o4 ho4
    obtain rfl : k = o4 := by omega
    conv => whnf
    repeat (first | (refine RunH ?_; intro w hL hB; try clear w) | (refine Both.mk ?_ ?_ <;> conv => whnf) | fail)
    refine St.rowS ttOk hL 0 rfl rfl rfl rfl (by rw [bv_length]; exact hk) hB (fun w hL hB => ?_)
    dsimp only [List.set] at hL
    rw [show cellsL (Value.int IntKind.u8 ((fd[k] ^^^ x).toNat : Int)) = [u8 (fd[k] ^^^ x)] from rfl, splice_set1 _ _ _ (by rw [bv_length]; exact hk), bv_set] at hL
    conv => whnf
    repeat (first | (refine RunH ?_; intro w hL hB; try clear w) | (refine Both.mk ?_ ?_ <;> conv => whnf) | fail)
    intro o5 ho5
    conv => whnf
    repeat (first | (refine RunH ?_; intro w hL hB; try clear w) | (refine Both.mk ?_ ?_ <;> conv => whnf) | fail)
    refine St.rowM ttOk hL f3_len 2 A.length 1 ⟨fn, .slice (some ⟨xg, 0, none⟩) fd.length xc, fd.set k (fd[k] ^^^ x), fla⟩ tl47 rfl rfl rfl hget (by decide) rfl (by omega) hB fun w hL hB => ?_
    dsimp only [List.set] at hL
    conv => whnf
    repeat (first | (refine RunH ?_; intro w hL hB; try clear w) | (refine Both.mk ?_ ?_ <;> conv => whnf) | fail)
    refine ⟨rfl, ?_⟩
    have hr : rotL fd k x = fd.set k (fd[k] ^^^ x) := by
      rw [rotL]; simp [List.getD_eq_getElem?_getD, List.getElem?_eq_getElem hk]
    have := RkS.mk' (F := F) (hok.set (g := ⟨fn, .slice (some ⟨xg, 0, none⟩) fd.length xc, fd.set k (fd[k] ^^^ x), fla⟩) rfl (by simp; omega) (by have := hok.ok.tot; simp; omega)) (rk_swap (g := ⟨fn, .slice (some ⟨xg, 0, none⟩) fd.length xc, fd.set k (fd[k] ^^^ x), fla⟩) rfl (by simp) rfl hL) hB
    rw [put_at (f := ⟨fn, .slice va fd.length vc, fd, fla⟩) (nm := fn) hnA rfl rfl] at this
    rw [hr]
    exact this
end Go.Proofs.YtpkealgeigpjpaaGreatDoor
