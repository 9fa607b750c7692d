/- disk: Copy. Nothing is claimed here. -/
import Derived.Test.YtpfmnpkjhnbkhaaDh
namespace Go.Proofs.Ytpfmnpkjhnbkhaa
open Go.RowKit
open Go.Maps (Keyed)
set_option linter.unusedVariables false
set_option linter.unusedSimpArgs false
set_option maxRecDepth 100000

theorem fl_names (fs : List Fv) : fs.map (·.nm) = (fs.map Fv.fl).map (·.nm) := by rw [List.map_map]; rfl
theorem OkF.of_fl {room : Nat} {fs fs2 : List Fv} (h : OkF room fs) (hp : (fs2.map Fv.fl).Perm (fs.map Fv.fl)) : OkF room fs2 := by
  have hm : ∀ g ∈ fs2, ∃ f ∈ fs, f.fl = g.fl := fun g hg => by
    have := hp.mem_iff.1 (List.mem_map_of_mem (f := Fv.fl) hg)
    simpa using this
  have ht : Go.Proofs.Ytpfmnpkjhnbkhaa.tot fs2 = Go.Proofs.Ytpfmnpkjhnbkhaa.tot fs := by
    rw [← tot_fl, ← tot_fl]
    exact (hp.map (fun f : Fl => f.d.length)).sum_nat
  refine ⟨?_, ?_, by rw [ht]; exact h.tot, h.room, ?_, ?_⟩
  · rw [fl_names]
    have := h.nd
    rw [fl_names] at this
    exact (hp.map _).nodup_iff.2 this
  · intro g hg
    obtain ⟨f, hf, he⟩ := hm g hg
    have h1 := h.la f hf
    have e1 : f.la = g.la := congrArg Fl.la he
    have e2 : f.d = g.d := congrArg Fl.d he
    rw [← e1, ← e2]; exact h1
  · intro g hg
    obtain ⟨f, hf, he⟩ := hm g hg
    have h1 := h.nm f hf
    have e1 : f.nm = g.nm := congrArg Fl.nm he
    rw [← e1]; exact h1
  · have := hp.length_eq
    simp at this
    rw [this]; exact h.len
/-- what is copied already, and what is not -/
structure Half (fs done rest fs2 : List Fv) (left : List (Value × Value)) : Prop where
  perm : fs.Perm (done ++ rest)
  same : fs2.map Fv.fl = done.map Fv.fl
  left_in : ∀ q ∈ left, ∃ f ∈ rest, f.ent = q
  rest_in : ∀ f ∈ rest, f.ent ∈ left
theorem Half.start (fs : List Fv) : Half fs [] fs [] (fs.map Fv.ent) := ⟨.refl _, rfl, fun q hq => by simpa using hq, fun f hf => List.mem_map_of_mem hf⟩
theorem Half.stop {fs done rest fs2 : List Fv} (h : Half fs done rest fs2 []) : (fs2.map Fv.fl).Perm (fs.map Fv.fl) := by
  have : rest = [] := List.eq_nil_iff_forall_not_mem.2 fun f hf => by cases h.rest_in f hf
  subst this
  rw [h.same]
  have := h.perm
  rw [List.append_nil] at this
  exact (this.map _).symm
theorem Half.tots {fs done rest fs2 : List Fv} {left : List (Value × Value)} (h : Half fs done rest fs2 left) : tot fs2 + tot rest = tot fs := by
  have h1 := ((h.perm.map (fun f : Fv => f.d.length))).sum_nat
  rw [List.map_append, List.sum_append] at h1
  have h2 : tot fs2 = tot done := by rw [← tot_fl, ← tot_fl, h.same]
  rw [h2]
  exact h1.symm
theorem Half.nd {fs done rest fs2 : List Fv} {left : List (Value × Value)} (h : Half fs done rest fs2 left) (hnd : (fs.map (·.nm)).Nodup) : (fs2.map (·.nm)).Nodup := by
  have e1 : fs2.map (·.nm) = done.map (·.nm) := by rw [fl_names, h.same, ← fl_names]
  rw [e1]
  have := (h.perm.map (·.nm)).nodup_iff.1 hnd
  rw [List.map_append] at this
  exact (List.nodup_append.1 this).1
theorem Half.step {fs done rest fs2 : List Fv} {left left' : List (Value × Value)} {p : Value × Value} (h : Half fs done rest fs2 left) (hnd : (fs.map (·.nm)).Nodup) (hp : p ∈ left)
    (h1 : ∀ q ∈ left, q = p ∨ q ∈ left') (h2 : ∀ q ∈ left', q ∈ left ∧ q.1 ≠ p.1) :
    ∃ f ∈ fs, p = f.ent ∧ (∀ g ∈ fs2, g.nm ≠ f.nm) ∧ ∃ rest', tot rest = f.d.length + tot rest' ∧ ∀ g : Fv, g.fl = f.fl → Half fs (done ++ [f]) rest' (fs2 ++ [g]) left' := by
  obtain ⟨f, hf, rfl⟩ := h.left_in p hp
  obtain ⟨A, C, rfl⟩ := List.append_of_mem hf
  have hpp : fs.Perm ((done ++ [f]) ++ (A ++ C)) := by
    refine h.perm.trans ?_
    rw [List.append_assoc]
    exact (List.perm_middle (l₁ := A)).append_left done
  have hnd2 : (((done ++ [f]) ++ (A ++ C)).map (·.nm)).Nodup := (hpp.map _).nodup_iff.1 hnd
  rw [List.map_append, List.map_append, List.nodup_append, List.nodup_append] at hnd2
  refine ⟨f, hpp.mem_iff.2 (by simp), rfl, ?_, A ++ C, ?_, ?_⟩
  · intro g hg he
    have hgm : g.nm ∈ done.map (·.nm) := by
      have e1 : fs2.map (·.nm) = done.map (·.nm) := by rw [fl_names, h.same, ← fl_names]
      rw [← e1]
      exact List.mem_map_of_mem (f := fun x : Fv => x.nm) hg
    exact hnd2.1.2.2 g.nm hgm f.nm (by simp) he
  · simp only [tot, List.map_append, List.sum_append, List.map_cons, List.sum_cons]; omega
  · intro g hg
    refine ⟨hpp, by simp [h.same, hg], fun q hq => ?_, fun x hx => ?_⟩
    · obtain ⟨q1, q2⟩ := h2 q hq
      obtain ⟨x, hx, rfl⟩ := h.left_in q q1
      refine ⟨x, ?_, rfl⟩
      simp only [List.mem_append, List.mem_cons] at hx ⊢
      rcases hx with hx | rfl | hx
      · exact .inl hx
      · exact absurd rfl q2
      · exact .inr hx
    · have hxl := h.rest_in x (by simp only [List.mem_append, List.mem_cons] at hx ⊢; rcases hx with hx | hx <;> simp [hx])
      rcases h1 _ hxl with he | he
      · exfalso
        injection he with e1 _
        injection e1 with e1
        exact hnd2.2.2 f.nm (by simp) x.nm (List.mem_map_of_mem (f := fun x : Fv => x.nm) hx) e1.symm
      · exact he

/-- a loop over no map -/
theorem Rv.rangeNS {P : Program} {T : Tab} (hT : TabOk P T) {B : Nat} {w0 w : World} {L : List Res} (hL : Sep P B w0 w L) {K : Value → World → Prop} {t k e : TypeId} {s b' : Nat} {z : Value} (ht : look T t = some ⟨.map k e, s, b', z⟩) (hB : B ≤ w.heap.size)
    (hk : ∀ r w', w'.heap[r]? = some (.mapIter none 0 #[] 0) → Sep P B w0 w' L → B ≤ w'.heap.size → K (.pointer (some ⟨r, 0, none⟩)) w') : Rv P (Instr.range t (.map none)) w K :=
  Rv.rangeN hT ht fun w' hi hg => hk _ w' hi (hL.call hB ⟨hg.os, hg.tape, hg.output, hg.size, fun k hk _ => hg.block k hk (by simp)⟩) (Nat.le_trans hB hg.size)
theorem perm3 {α : Type} {x y : α} {R F D : List α} : (x :: y :: (R ++ (F ++ D))).Perm (D ++ (F ++ (y :: x :: R))) := by
  refine (List.Perm.swap y x _).trans ?_
  refine (List.perm_append_comm (l₁ := y :: x :: R) (l₂ := F ++ D)).trans ?_
  rw [← List.append_assoc D F]
  exact (List.perm_append_comm).append_right _

set_option maxHeartbeats 4000000 in
theorem copy_fn {B b room : Nat} {S : List Fl} {F : List Res} {w0 w : World} (hD : DkS B w0 w b room S F) :
    Fn Try.prog 21 #[ptr b] w fun r w' => ∃ c S' dL, r = ptr c ∧ S'.Perm S ∧ DkS B w0 w' c room S' (F ++ dL) ∧
      ∀ {w'' : World} {F' : List Res}, Sep Try.prog B w0 w'' (F' ++ dL) → B ≤ w''.heap.size → DkS B w0 w'' b room S F' := by
  obtain ⟨⟨mo, fs, rfl, hok, hmo, hL⟩, hB⟩ := hD
  refine Fn.mk Try.func21 rfl (by kernel_rfl) Try.ntmps21 rfl (by rw [Try.results21]) ?_
  cases mo with
  | none =>
    obtain rfl := hmo rfl
    simp only [dkRes, mRes, List.map_nil, List.nil_append, List.cons_append] at hL
    repeat (first | (refine RunH ?_; intro w hL hB; try clear w) | (refine Both.mk ?_ ?_ <;> conv => whnf) | (refine Nw.sep hL hB (fun c w hL hB hc => ?_); conv => whnf) | (refine Rv.rangeNS ttOk hL tl61 hB (fun r w hi hL hB => ?_); conv => whnf) | fail)
    refine V.loop (α := Unit) (fun _ => [(3, ptr c), (18, .pointer (some ⟨r, 0, none⟩))])
      (fun _ w' => w'.heap[r]? = some (.mapIter none 0 #[] 0) ∧ Sep Try.prog B w0 w' (.blk c [.int .i64 (room : Int), .int .i64 0, .map none] 63 :: .blk b [.int .i64 (room : Int), .int .i64 (tot [] : Int), .map none] 63 :: F) ∧ B ≤ w'.heap.size)
      (fun _ => 0) () ⟨rfl, rfl, trivial⟩ ⟨hi, hL, hB⟩ ?_
    clear hL hB hi
    rintro _ w ⟨hi, hL, hB⟩
    dsimp only at *
    repeat (first | (refine RunH ?_; intro w hL hB; try clear w) | (refine Both.mk ?_ ?_ <;> conv => whnf) | (refine Rv.nextN hi ?_; conv => whnf) | fail)
    refine ⟨c, [], [.blk b [.int .i64 (room : Int), .int .i64 (tot [] : Int), .map none] 63], rfl, .refl _, DkS.mk' (mo := none) (fs := []) (used := 0) hok hmo rfl (hL.perm ?_) hB, fun hL hB => DkS.mk' (mo := none) (fs := []) hok hmo rfl (hL.perm List.perm_append_comm) hB⟩
    exact .cons _ (List.perm_append_comm (l₁ := [_]))
  | some m =>
    simp only [dkRes, mRes, List.nil_append, List.cons_append] at hL
    repeat (first | (refine RunH ?_; intro w hL hB; try clear w) | (refine Both.mk ?_ ?_ <;> conv => whnf) | (refine Nw.sep hL hB (fun c w hL hB hc => ?_); conv => whnf) | (refine Rv.rangeS ttOk hL 1 tl61 rfl hB (fun r w hL hB => ?_); conv => whnf) | (refine Rv.rangeS ttOk hL 2 tl61 rfl hB (fun r w hL hB => ?_); conv => whnf) | fail)
    refine V.loop (α := List Fv × List Fv × List Fv × Option Nat × List (Value × Value) × Option (Value × Value)) (fun _ => [(3, ptr c), (18, .pointer (some ⟨r, 0, none⟩))])
      (fun z w' => Half fs z.1 z.2.1 z.2.2.1 z.2.2.2.2.1 ∧ (z.2.2.2.1 = none → z.2.2.1 = []) ∧ Sep Try.prog B w0 w' (.it 9 r m (fs.map Fv.ent) z.2.2.2.2.1 z.2.2.2.2.2 :: (.blk b [.int .i64 (room : Int), .int .i64 (tot fs : Int), .map (some m)] 63 :: (fs.map Fv.row ++ (F ++ dkRes c room (tot z.2.2.1) z.2.2.2.1 z.2.2.1)))) ∧ B ≤ w'.heap.size)
      (fun z => z.2.2.2.2.1.length) ([], fs, [], none, fs.map Fv.ent, none) ⟨rfl, rfl, trivial⟩ ⟨Half.start fs, fun _ => rfl, hL.perm ?_, hB⟩ ?_
    · change (Res.blk c [.int .i64 (room : Int), .int .i64 0, .map none] 63 :: .blk b [.int .i64 (room : Int), .int .i64 (tot fs : Int), .map (some m)] 63 :: .it 9 r m (fs.map Fv.ent) (fs.map Fv.ent) none :: (fs.map Fv.row ++ F)).Perm (.it 9 r m (fs.map Fv.ent) (fs.map Fv.ent) none :: .blk b [.int .i64 (room : Int), .int .i64 (tot fs : Int), .map (some m)] 63 :: (fs.map Fv.row ++ (F ++ [.blk c [.int .i64 (room : Int), .int .i64 0, .map none] 63])))
      rw [← List.append_assoc (fs.map Fv.row)]
      exact (List.perm_append_comm (l₁ := [_])).trans (.swap _ _ _)
    clear hL hB
    rintro ⟨done, rest, fs2, mo2, left, cur⟩ w ⟨hh, hmo2, hL, hB⟩
    dsimp only at *
    have htot := hh.tots
    have htr := hok.tot
    have hrm := hok.room
    repeat (first | (refine RunH ?_; intro w hL hB; try clear w) | (refine Both.mk ?_ ?_ <;> conv => whnf) | (refine Rv.nextS hL 0 rfl hB (fun hleft hL => ?_) (fun p left' w hp hpl hlen hq1 hq2 hL hB => ?_) <;> conv => whnf) | fail)
    · subst hleft
      exact ⟨c, fs2.map Fv.fl, .blk b [.int .i64 (room : Int), .int .i64 (tot fs : Int), .map (some m)] 63 :: .mp 9 m (fs.map Fv.ent) :: fs.map Fv.row, rfl, hh.stop, DkS.mk' (mo := mo2) (OkF.of_fl hok hh.stop) hmo2 rfl (hL.perm perm3) hB,
        fun hL hB => DkS.mk' (mo := some m) hok hmo rfl (hL.perm List.perm_append_comm) hB⟩
    · obtain ⟨f, hf, rfl, hnew, rest', hrest, hstep⟩ := hh.step hok.nd hp hq1 hq2
      have hfo := hok.nm f hf
      have hrow : f.row.holds Try.prog w := hL.hold f.row (by simp only [List.set, List.mem_cons, List.mem_append, List.mem_map]; exact .inr (.inr (.inl ⟨f, hf, rfl⟩)))
      obtain ⟨fn, fv, fd, fl⟩ := f
      obtain ⟨fa, fc, rfl⟩ : ∃ a c, fv = .slice a fd.length c := RowC.shape hrow
      simp only [Fv.ent, Fv.val, List.set] at hL ⊢
      repeat (first | (refine RunK ?_; intro w hL hB; try clear w) | (refine V.tree ttOk (fun x => Sep Try.prog B w0 x [.blk t [.slice fa fd.length fc, .int .i64 (fl : Int)] 66]) (.q 0 (.q 1 (.q 2 (.q 3 (.q 5 (.q 6 (.alt 4 (.q 7 (.alt 8 .nil .stop)) .stop))))))) mixed (by decide +kernel) (hL.drew.sub (.cons_cons _ (List.nil_sublist _))) ?_; replace hL := hL.drew; conv => whnf) | (refine V.tailA ttOk mixed (by decide +kernel) ?_; replace hL := hL.drew; conv => whnf) | (refine Both.mk ?_ ?_ <;> conv => whnf) | (refine Rv.curS hL 0 rfl ?_; conv => whnf) | (refine Nw.sep hL hB (fun t w hL hB ht => ?_); conv => whnf) | fail)
      dsimp only at hrest hfo hnew
      have hlen2 : fd.length ≤ 1073741824 := by omega
      have hS : Sl _ (.slice fa fd.length fc) (bv fd) := RowC.sl (show RowC _ 5 _ fd.length (bv fd) from hL.hold (Fv.row ⟨fn, .slice fa fd.length fc, fd, fl⟩) (by simp only [List.mem_cons, List.mem_append, List.mem_map]; exact .inr (.inr (.inr (.inl ⟨_, hf, rfl⟩)))))
      refine (clone_fn _ fd _ hS (by omega)).mono fun r2 w ⟨ho, hw⟩ => ?_
      replace hL := hL.addRow hB hw ho
      replace hB := Nat.le_trans hB hw.size
      obtain ⟨ga, gc, rfl⟩ := (show SlN w 1 r2 _ _ from hL.rowN (i := 0) rfl).shape
      conv => whnf
      refine ⟨hL.sub (.cons _ (.cons_cons _ (List.nil_sublist _))), ?_⟩
      conv => whnf
      repeat (first | (refine RunH ?_; intro w hL hB; try clear w) | (refine Both.mk ?_ ?_ <;> conv => whnf) | fail)
      have hp2 : putF fs2 ⟨fn, .slice ga fd.length gc, fd, fl⟩ = fs2 ++ [⟨fn, .slice ga fd.length gc, fd, fl⟩] := putF_none hnew
      have hd : tot fs2 ≤ 1073741824 := by omega
      have hsh2 : ∀ g ∈ fs2, ∃ a c, g.v = .slice a g.d.length c := fun g hg => RowC.shape (show RowC w 5 g.v g.d.length (bv g.d) from hL.hold (Fv.row g) (by
        simp only [dkRes, List.mem_cons, List.mem_append, List.mem_map]
        exact .inr (.inr (.inr (.inr (.inr (.inr (.inr (.inr ⟨g, hg, rfl⟩))))))))) 
      have hL2 : Sep Try.prog B w0 w (.blk c [.int .i64 (room : Int), .int .i64 (tot fs2 : Int), .map mo2] 63 :: (mRes mo2 fs2 ++ ((putF fs2 ⟨fn, .slice ga fd.length gc, fd, fl⟩).map Fv.row ++ (.blk t [.slice fa fd.length fc, .int .i64 (fl : Int)] 66 :: .it 9 r m (fs.map Fv.ent) left' (some (.string fn, .agg #[.slice fa fd.length fc, .int .i64 (fl : Int)])) :: .blk b [.int .i64 (room : Int), .int .i64 (tot fs : Int), .map (some m)] 63 :: (fs.map Fv.row ++ F))))) := by
        rw [hp2]
        refine (hL.says (R' := Fv.row ⟨fn, .slice ga fd.length gc, fd, fl⟩) (RowC.of_own (hL.ownR (i := 0) rfl)) rfl).perm ?_
        have := List.perm_append_comm (l₁ := Fv.row ⟨fn, .slice ga fd.length gc, fd, fl⟩ :: .blk t [.slice fa fd.length fc, .int .i64 (fl : Int)] 66 :: .it 9 r m (fs.map Fv.ent) left' (some (.string fn, .agg #[.slice fa fd.length fc, .int .i64 (fl : Int)])) :: .blk b [.int .i64 (room : Int), .int .i64 (tot fs : Int), .map (some m)] 63 :: (fs.map Fv.row ++ F)) (l₂ := dkRes c room (tot fs2) mo2 fs2)
        simpa [dkRes] using this
      refine (lay_fn (mo := mo2) (fs := fs2) ⟨fn, .slice ga fd.length gc, fd, fl⟩ (by dsimp only; omega) (hh.nd hok.nd) hmo2 hsh2 rfl (by omega) (by dsimp only; omega) hL2 hB).mono fun r3 w ⟨m', hL, hB⟩ => ?_
      refine ⟨(hL.sub (List.sublist_append_right _ _)).sub (.cons_cons _ (List.nil_sublist _)), ?_⟩
      conv => whnf
      rw [hp2] at hL
      have hL3 : Sep Try.prog B w0 w (.blk t [.slice fa fd.length fc, .int .i64 (fl : Int)] 66 :: .it 9 r m (fs.map Fv.ent) left' (some (.string fn, .agg #[.slice fa fd.length fc, .int .i64 (fl : Int)])) :: .blk b [.int .i64 (room : Int), .int .i64 (tot fs : Int), .map (some m)] 63 :: (fs.map Fv.row ++ (F ++ dkRes c room (tot (fs2 ++ [⟨fn, .slice ga fd.length gc, fd, fl⟩])) (some m') (fs2 ++ [⟨fn, .slice ga fd.length gc, fd, fl⟩])))) := by
        have := List.perm_append_comm (l₁ := dkRes c room (tot (fs2 ++ [⟨fn, .slice ga fd.length gc, fd, fl⟩])) (some m') (fs2 ++ [⟨fn, .slice ga fd.length gc, fd, fl⟩])) (l₂ := .blk t [.slice fa fd.length fc, .int .i64 (fl : Int)] 66 :: .it 9 r m (fs.map Fv.ent) left' (some (.string fn, .agg #[.slice fa fd.length fc, .int .i64 (fl : Int)])) :: .blk b [.int .i64 (room : Int), .int .i64 (tot fs : Int), .map (some m)] 63 :: (fs.map Fv.row ++ F))
        refine hL.perm ?_
        simpa using this
      exact ⟨(done ++ [⟨fn, .slice fa fd.length fc, fd, fl⟩], rest', fs2 ++ [⟨fn, .slice ga fd.length gc, fd, fl⟩], some m', left', some (.string fn, .agg #[.slice fa fd.length fc, .int .i64 (fl : Int)])), ⟨rfl, rfl, trivial⟩, ⟨hstep ⟨fn, .slice ga fd.length gc, fd, fl⟩ rfl, (fun h => by cases h), hL3.tl, hB⟩, (by first | omega | (dsimp only; omega))⟩
end Go.Proofs.Ytpfmnpkjhnbkhaa
