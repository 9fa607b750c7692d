/- garnerref4.Disk: Copy. Nothing is claimed here. -/
import Derived.Test.YtpfmnpkjhnbkhaaTh
namespace Go.Proofs.Ytpfmnpkjhnbkhaa
open Go.RowKit
set_option linter.unusedVariables false
set_option linter.unusedSimpArgs false
set_option maxRecDepth 100000

theorem fl_names' (fs : List Fv) : fs.map (·.nm) = (fs.map Fv.fl).map (·.nm) := by rw [List.map_map]; rfl
theorem OkF.of_fl' {room : Nat} {fs fs2 : List Fv} (h : OkF room fs) (hp : (fs2.map Fv.fl).Perm (fs.map Fv.fl)) : OkF room fs2 := by
  have hm : ∀ g ∈ fs2, ∃ f ∈ fs, f.fl = g.fl := fun g hg => by
    have := hp.mem_iff.1 (List.mem_map_of_mem (f := Fv.fl) hg)
    simpa using this
  have ht : Go.Proofs.Ytpfmnpkjhnbkhaa.tot fs2 = Go.Proofs.Ytpfmnpkjhnbkhaa.tot fs := by
    rw [← tot_fl, ← tot_fl]
    exact (hp.map (fun f : Fl => f.d.length)).sum_nat
  refine ⟨?_, ?_, by rw [ht]; exact h.tot, h.room, ?_, ?_⟩
  · rw [fl_names']
    have := h.nd
    rw [fl_names'] at this
    exact (hp.map _).nodup_iff.2 this
  · intro g hg
    obtain ⟨f, hf, he⟩ := hm g hg
    have h1 := h.la f hf
    have e1 : f.la = g.la := congrArg Fl.la he
    have e2 : f.d = g.d := congrArg Fl.d he
    rw [← e1, ← e2]; exact h1
  · intro g hg
    obtain ⟨f, hf, he⟩ := hm g hg
    have h1 := h.nm f hf
    have e1 : f.nm = g.nm := congrArg Fl.nm he
    rw [← e1]; exact h1
  · have := hp.length_eq
    simp at this
    rw [this]; exact h.len
theorem arr2 {α : Type} {g c x b l : α} {X Y F : List α} : (g :: c :: x :: b :: l :: (Y ++ (X ++ F))).Perm (c :: x :: b :: l :: (Y ++ ((X ++ [g]) ++ F))) := by
  have h1 := (List.perm_middle (a := g) (l₁ := c :: x :: b :: l :: (Y ++ X)) (l₂ := F)).symm
  simpa using h1
theorem arr {α : Type} {c x b l : α} {X Y F : List α} : (c :: x :: (X ++ (b :: l :: (Y ++ F)))).Perm (c :: x :: b :: l :: (Y ++ (X ++ F))) := by
  refine .cons _ (.cons _ ?_)
  have h1 : (X ++ (b :: l :: (Y ++ F))).Perm ((b :: l :: (Y ++ F)) ++ X) := List.perm_append_comm
  refine h1.trans ?_
  simp only [List.cons_append, List.append_assoc]
  exact .cons _ (.cons _ (List.perm_append_comm.append_left Y))
set_option maxHeartbeats 8000000 in
theorem copyR_fn {B b room : Nat} {R : List Fl} {F : List Res} {w0 w : World} (hD : RkS B w0 w b room R F) :
    Fn Try.prog 26 #[ptr b] w fun r w' => ∃ c dL, r = ptr c ∧ RkS B w0 w' c room R (F ++ dL) ∧
      ∀ {w'' : World} {F' : List Res}, Sep Try.prog B w0 w'' (F' ++ dL) → B ≤ w''.heap.size → RkS B w0 w'' b room R F' := by
  obtain ⟨⟨L, fs, rfl, hok, hL⟩, hB⟩ := hD
  have hlen := hok.ok.len
  simp only [rkRes, List.cons_append] at hL
  have hsh := rk_shape (X := [_, _]) hL
  obtain ⟨ga, gc, rfl⟩ := (show SlN w 3 L fs.length _ from hL.rowN (i := 1) rfl).shape
  refine Fn.mk Try.func26 rfl (by kernel_rfl) Try.ntmps26 rfl (by rw [Try.results26]) ?_
  repeat (first | (refine RunH ?_; intro w hL hB; try clear w) | (refine Both.mk ?_ ?_ <;> conv => whnf) | fail)
  (refine Nw.sep hL hB (fun c w hL hB hc => ?_); conv => whnf)
  repeat (first | (refine RunH ?_; intro w hL hB; try clear w) | (refine Both.mk ?_ ?_ <;> conv => whnf) | fail)
  refine V.loop (α := Nat × Value × List Fv) (fun z => [(0, ptr b), (3, ptr c), (4, .int .i64 (z.1 : Int))])
    (fun z w' => z.1 ≤ fs.length ∧ z.2.2.map Fv.fl = (fs.take z.1).map Fv.fl ∧ Sep Try.prog B w0 w' (.blk c [.int .i64 (room : Int), z.2.1] 77 :: .row 79 3 z.2.1 z.2.2.length (z.2.2.flatMap f3) :: .blk b [.int .i64 (room : Int), .slice ga fs.length gc] 77 :: .row 79 3 (.slice ga fs.length gc) fs.length (fs.flatMap f3) :: (fs.map Fv.row ++ (z.2.2.map Fv.row ++ F))) ∧ B ≤ w'.heap.size)
    (fun z => fs.length - z.1) (0, .slice none 0 0, []) ⟨rfl, rfl, rfl, trivial⟩ ⟨by omega, rfl, (hL.nilRow 79 3).perm (.swap _ _ _), hB⟩ ?_
  clear hL hB
  rintro ⟨k, Lx, xfs⟩ w ⟨hk, hxf, hL, hB⟩
  dsimp only at *
  have hxl : xfs.length = k := by have := congrArg List.length hxf; simp at this; omega
  by_cases hkl : k < fs.length
  case neg =>
    obtain rfl : k = fs.length := by omega
    rw [List.take_length] at hxf
    repeat (first | (refine RunH ?_; intro w hL hB; try clear w) | (refine Both.mk ?_ ?_ <;> conv => whnf) | fail)
    refine ⟨c, .blk b [.int .i64 (room : Int), .slice ga fs.length gc] 77 :: .row 79 3 (.slice ga fs.length gc) fs.length (fs.flatMap f3) :: fs.map Fv.row, rfl, ?_, fun hL hB => RkS.mk' (L := .slice ga fs.length gc) hok (hL.perm List.perm_append_comm) hB⟩
    rw [← hxf]
    have hokx : OkR room xfs := by
      refine ⟨hok.ok.of_fl' (hxf ▸ .refl _), ?_⟩
      have h1 : xfs.map (·.nm) = fs.map (·.nm) := by
        have := congrArg (List.map Fl.nm) hxf
        simpa [List.map_map, Function.comp_def, Fv.fl] using this
      rw [h1]; exact hok.srt
    refine RkS.mk' (L := Lx) hokx (hL.perm ?_) hB
    refine .cons _ (.cons _ ?_)
    have h1 := List.perm_append_comm (l₁ := Res.blk b [.int .i64 (room : Int), .slice ga fs.length gc] 77 :: .row 79 3 (.slice ga fs.length gc) fs.length (fs.flatMap f3) :: fs.map Fv.row) (l₂ := xfs.map Fv.row ++ F)
    simpa using h1
  obtain ⟨bb, o, rfl, hrow0⟩ := SlN.addr (show SlN w 3 (.slice ga fs.length gc) fs.length _ from hL.rowN (i := 3) rfl) (by omega)
  obtain ⟨lxa, lxc, rfl⟩ := (show SlN w 3 Lx xfs.length _ from hL.rowN (i := 1) rfl).shape
  have hget := List.getElem?_eq_getElem hkl
  have hl1 := len1 hok.ok _ (List.getElem_mem hkl)
  obtain ⟨va, vc, hfv⟩ := hsh _ (List.getElem_mem hkl)
  have hmem := List.getElem_mem hkl
  have htk : (fs.take (k + 1)).map Fv.fl = (fs.take k).map Fv.fl ++ [(fs[k]).fl] := by rw [List.take_succ_eq_append_getElem hkl]; simp only [List.map_append, List.map_cons, List.map_nil]
  generalize hf : fs[k] = f at *
  obtain ⟨fn, fv, fd, fla⟩ := f
  dsimp only at *
  subst hfv
  repeat (first | (refine RunK ?_; intro w hL hB; try clear w) | (refine V.tree ttOk (fun x => Sep Try.prog B w0 x (.blk b [.int .i64 (room : Int), .slice (some ⟨bb, o, none⟩) fs.length gc] 77 :: .row 79 3 (.slice (some ⟨bb, o, none⟩) fs.length gc) fs.length (fs.flatMap f3) :: (fs.map Fv.row ++ (xfs.map Fv.row ++ F)))) (.q 0 (.q 1 (.q 2 (.q 3 (.q 5 (.q 6 (.q 7 (.q 8 (.q 9 (.q 10 (.q 11 (.q 12 (.q 14 (.q 15 (.q 16 (.q 17 (.q 18 (.q 19 (.q 20 (.q 21 (.q 23 (.q 24 (.q 25 (.q 26 (.q 27 (.q 28 (.q 29 (.q 30 (.alt 4 (.alt 13 (.alt 22 (.q 31 (.alt 32 (.alt 33 (.q 34 (.q 35 (.alt 36 .nil .stop))) .stop) .stop)) .stop) .stop) (.alt 13 (.alt 4 (.alt 22 (.q 31 (.alt 32 (.alt 33 (.q 34 (.q 35 (.alt 36 .nil .stop))) .stop) .stop)) .stop) (.alt 22 (.q 31 (.alt 4 (.alt 32 (.alt 33 (.q 34 (.q 35 (.alt 36 .nil .stop))) .stop) .stop) (.alt 32 (.alt 4 (.alt 33 (.q 34 (.q 35 (.alt 36 .nil .stop))) .stop) .stop) .stop))) .stop)) .stop)))))))))))))))))))))))))))))) mixed (by decide +kernel) (hL.drew.sub (.cons _ (.cons _ (.refl _)))) ?_; replace hL := hL.drew; conv => whnf) | (refine V.tailA ttOk mixed (by decide +kernel) ?_; replace hL := hL.drew; conv => whnf) | (refine Both.mk ?_ ?_ <;> conv => whnf) | fail)
  repeat' (first | (refine RunH ?_; intro w hL hB; try clear w) | (refine Br.dec (fun hbr => ?_) (fun hbr => ?_) <;> conv => whnf) | (refine Br.mk (fun hbr => ?_) (fun hbr => ?_) <;> conv => whnf) | (refine Both.mk ?_ ?_ <;> conv => whnf) | (intro o1 ho1; conv => whnf) | (refine Lq.of_class (fun x hx => Ld.rowF (K := fun u => u = _) ttOk f3_len 0 (hx.rowN (i := 1) rfl).rowOf tl9 rfl hget rfl (by omega) rfl) ?_; conv => whnf) | (refine Lq.of_class (fun x hx => Ld.rowF (K := fun u => u = _) ttOk f3_len 1 (hx.rowN (i := 1) rfl).rowOf tl22 rfl hget rfl (by omega) rfl) ?_; conv => whnf) | (refine Lq.of_class (fun x hx => Ld.rowF (K := fun u => u = _) ttOk f3_len 2 (hx.rowN (i := 1) rfl).rowOf tl3 rfl hget rfl (by omega) rfl) ?_; conv => whnf) | (refine Rv.buildS (len := 0) (vs := []) ttOk hL tl22 tl5 rfl rfl (by intro u hu; cases hu) (by decide) (by decide) hB fun bo w hL hB => ?_; conv => whnf) | (refine Rv.appendS (m := fd.length) (news := bv fd) ttOk hL tl22 tl5 rfl (by decide) 0 rfl (by have := (RowC.sl (show RowC w 5 (.slice va fd.length vc) fd.length (bv fd) from hL.hold (Fv.row ⟨fn, .slice va fd.length vc, fd, fla⟩) (by simp only [List.mem_cons, List.mem_append, List.mem_map]; exact .inr (.inr (.inr (.inr (.inr (.inl ⟨_, hmem, rfl⟩)))))))).toN; rw [bv_length] at this; exact this) (bv_one _) (by simp only [maxLen]; omega) (by omega) hB fun v1 w hL hB => ?_; dsimp only [List.set, List.flatMap_nil, List.nil_append] at hL; obtain ⟨xa, xc, rfl⟩ := (show SlN w 1 v1 _ _ from hL.rowN (i := 0) rfl).shape; conv => whnf) | (refine Rv.buildS (len := 1) (vs := [.agg #[.string fn, .slice xa (0 + fd.length) xc, .int .i64 (fla : Int)] ]) ttOk hL tl75 tl79 rfl rfl (by intro u hu; simp at hu; subst hu; rfl) (by decide) (by decide) hB fun bo2 w hL hB => ?_; conv => whnf) | (refine Rv.appendS (m := 1) (news := [.string fn, .slice xa (0 + fd.length) xc, .int .i64 (fla : Int)]) ttOk hL tl75 tl79 rfl (by decide) 3 rfl (hL.rowN (i := 0) rfl) (by intro u hu; simp at hu; rcases hu with rfl | rfl | rfl <;> rfl) (by simp only [maxLen]; omega) (by omega) hB fun v2 w hL hB => ?_; dsimp only [List.set] at hL; obtain ⟨ya, yc, rfl⟩ := (show SlN w 3 v2 _ _ from hL.rowN (i := 3) rfl).shape; conv => whnf) | fail)
  all_goals (
    have hL2 := (hL.tl.says (R' := Fv.row ⟨fn, .slice xa (0 + fd.length) xc, fd, fla⟩) (by
      have := RowC.of_own (hL.ownR (i := 1) rfl)
      simpa [Fv.row, Res.holds] using this) rfl).perm arr2
    refine ⟨(k + 1, .slice ya (xfs.length + 1) yc, xfs ++ [⟨fn, .slice xa (0 + fd.length) xc, fd, fla⟩]), ⟨rfl, rfl, vint (by push_cast; omega), trivial⟩, ⟨by omega, ?_, ?_, hB⟩, (by first | omega | (dsimp only; omega))⟩
    · rw [List.map_append, hxf, htk]; rfl
    · have e1 : (xfs ++ [(⟨fn, .slice xa (0 + fd.length) xc, fd, fla⟩ : Fv)]).flatMap f3 = xfs.flatMap f3 ++ [.string fn, .slice xa (0 + fd.length) xc, .int .i64 (fla : Int)] := by simp [f3]
      have e2 : (xfs ++ [(⟨fn, .slice xa (0 + fd.length) xc, fd, fla⟩ : Fv)]).length = xfs.length + 1 := by simp
      dsimp only
      rw [e1, e2, List.map_append]
      exact hL2)
end Go.Proofs.Ytpfmnpkjhnbkhaa
