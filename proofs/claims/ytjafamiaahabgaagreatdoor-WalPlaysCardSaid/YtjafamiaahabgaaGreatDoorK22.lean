/- garnerref4.Disk: Used, insert, Append. garnerref4.Disk: places and names; Append. Nothing is claimed here. -/
import Derived.Test.YtjafamiaahabgaaGreatDoorK21
namespace Go.Proofs.YtjafamiaahabgaaGreatDoor
open Go.RowKit
set_option linter.unusedVariables false
set_option linter.unusedSimpArgs false
set_option maxRecDepth 100000

theorem tot_take {fs : List Fv} {k : Nat} (h : k < fs.length) : tot (fs.take (k + 1)) = tot (fs.take k) + (fs[k]).d.length := by
  rw [List.take_succ_eq_append_getElem h]
  simp only [tot, List.map_append, List.sum_append, List.map_cons, List.map_nil, List.sum_cons, List.sum_nil]
  omega
theorem usedR_fn {B b room : Nat} {L : Value} {fs : List Fv} {F : List Res} (hlen : fs.length ≤ 256) (hle : ∀ f ∈ fs, f.d.length ≤ 1073741824) {w0 w : World} (hL : Sep Tryz.prog B w0 w (rkRes b room L fs ++ F)) (hB : B ≤ w.heap.size) :
    Fn Tryz.prog 44 #[ptr b] w fun r w' => r = .int .i64 (tot fs : Nat) ∧ w' = w := by
  refine Fn.mk Tryz.func44 rfl (by kernel_rfl) Tryz.ntmps44 rfl (by rw [Tryz.results44]) ?_
  simp only [rkRes, List.cons_append] at hL ⊢
  have hsh := rk_shape (X := [_, _]) hL
  obtain ⟨ga, gc, rfl⟩ := (show SlN w 3 L fs.length _ from hL.rowN (i := 1) rfl).shape
  repeat (first | (refine RunH ?_; intro w hL hB; try clear w) | (refine Both.mk ?_ ?_ <;> conv => whnf) | fail)
  refine V.loop (α := Nat) (fun k => [(0, ptr b), (3, .int .i64 (tot (fs.take k) : Nat)), (4, .int .i64 (k : Int))])
    (fun k w' => k ≤ fs.length ∧ tot (fs.take k) ≤ k * 1073741824 ∧ w' = w)
    (fun k => fs.length - k) 0 ⟨rfl, rfl, rfl, trivial⟩ ⟨by omega, by simp [tot], rfl⟩ ?_
  rintro k _ ⟨hk, ht, rfl⟩
  by_cases hkl : k < fs.length
  case neg =>
    obtain rfl : k = fs.length := by omega
    repeat (first | (refine RunH ?_; intro w hL hB; try clear w) | (refine Both.mk ?_ ?_ <;> conv => whnf) | fail)
    rw [List.take_length]
    exact ⟨rfl, rfl⟩
  obtain ⟨bb, o, rfl, hrow⟩ := SlN.addr (show SlN _ 3 (.slice ga fs.length gc) fs.length _ from hL.rowN (i := 1) rfl) (by omega)
  obtain ⟨va, vc, hv⟩ := hsh _ (List.getElem_mem hkl)
  have hd := hle _ (List.getElem_mem hkl)
  have hts := tot_take hkl
  repeat (first | (refine RunH ?_; intro w hL hB; try clear w) | (refine Both.mk ?_ ?_ <;> conv => whnf) | fail)
  intro o1 ho1
  conv => whnf
  repeat (first | (refine RunH ?_; intro w hL hB; try clear w) | (refine Both.mk ?_ ?_ <;> conv => whnf) | fail)
  refine Ld.rowF ttOk f3_len 1 hrow tl23 rfl (List.getElem?_eq_getElem hkl) (by rw [f3, hv]; rfl) (by omega) ?_
  conv => whnf
  repeat (first | (refine RunH ?_; intro w hL hB; try clear w) | (refine Both.mk ?_ ?_ <;> conv => whnf) | fail)
  exact ⟨k + 1, ⟨rfl, vint (by push_cast; omega), vint (by push_cast; omega), trivial⟩, ⟨by omega, by omega, rfl⟩, (by first | omega | (dsimp only; omega))⟩

theorem zeroF3 : True := trivial
set_option maxHeartbeats 4000000 in
/-- a file with no byte of its own yet is laid in -/
theorem insert_fn {B b room : Nat} {L : Value} {A C : List Fv} {F : List Res} (g : Fv) (hg : ∃ a c, g.v = .slice a g.d.length c) (hlen : (A ++ C).length ≤ 256) {w0 w : World}
    (hL : Sep Tryz.prog B w0 w (.blk b [.int .i64 (room : Int), L] 90 :: .row 95 3 L (A ++ C).length ((A ++ C).flatMap f3) :: ((A ++ g :: C).map Fv.row ++ F))) (hB : B ≤ w.heap.size) :
    Fn Tryz.prog 45 #[ptr b, .int .i64 (A.length : Nat), .agg (f3 g).toArray] w fun r w' => ∃ L', Sep Tryz.prog B w0 w' (rkRes b room L' (A ++ g :: C) ++ F) ∧ B ≤ w'.heap.size := by
  have hsh := rk_shape (X := [_, _]) hL
  obtain ⟨va, vc, hv⟩ := hg
  have hshA : ∀ f ∈ A, ∃ a c, f.v = .slice a f.d.length c := fun f hf => hsh f (by simp [hf])
  have hshC : ∀ f ∈ C, ∃ a c, f.v = .slice a f.d.length c := fun f hf => hsh f (by simp [hf])
  have hshg : ∀ f ∈ [g], ∃ a c, f.v = .slice a f.d.length c := fun f hf => by simp at hf; subst hf; exact ⟨va, vc, hv⟩
  obtain ⟨gn, gv, gd, gl⟩ := g
  dsimp only at hv
  subst hv
  simp only [List.length_append] at hlen
  refine Fn.mk Tryz.func45 rfl (by kernel_rfl) Tryz.ntmps45 rfl (by rw [Tryz.results45]) ?_
  simp only [f3]
  repeat (first | (refine RunH ?_; intro w hL hB; try clear w) | (refine Both.mk ?_ ?_ <;> conv => whnf) | fail)
  (refine Nw.sep hL hB (fun t5 w hL hB ht5 => ?_); conv => whnf)
  repeat (first | (refine RunH ?_; intro w hL hB; try clear w) | (refine Both.mk ?_ ?_ <;> conv => whnf) | fail)
  refine Rv.buildS (len := 0) (vs := []) ttOk hL tl88 tl95 rfl rfl (by intro u hu; cases hu) (by decide) (by decide) hB fun bo w hL hB => ?_
  conv => whnf
  have hsl := hL.rowN (i := 3) rfl
  have hpp : ((A ++ (⟨gn, .slice va gd.length vc, gd, gl⟩ : Fv) :: C).map Fv.row).length = A.length + C.length + 1 := by simp; omega
  rcases own_shape (hL.ownR (i := 3) rfl) with ⟨rfl, h0⟩ | ⟨g, gc, rfl, hgc⟩
  · simp only [List.length_append, Nat.add_eq_zero_iff] at h0
    obtain rfl := List.eq_nil_of_length_eq_zero h0.1
    obtain rfl := List.eq_nil_of_length_eq_zero h0.2
    repeat (first | (refine RunH ?_; intro w hL hB; try clear w) | (refine Both.mk ?_ ?_ <;> conv => whnf) | fail)
    intro n1 c1 q1 q2
    obtain rfl : n1 = 0 := by simp at q1; omega
    obtain rfl : c1 = 0 := by simp at q2; omega
    conv => whnf
    repeat (first | (refine RunH ?_; intro w hL hB; try clear w) | (refine Both.mk ?_ ?_ <;> conv => whnf) | fail)
    refine Rv.appendS (m := 0) (news := []) ttOk hL tl88 tl95 rfl (by decide) 0 rfl (SlN.nil _ _) (by simp) (by simp [maxLen]) (by simp) hB fun v1 w hL hB => ?_
    dsimp only [List.set, List.flatMap_nil, List.append_nil] at hL
    obtain ⟨xa, xc, rfl⟩ := (show SlN w 3 v1 _ _ from hL.rowN (i := 0) rfl).shape
    conv => whnf
    repeat (first | (refine RunH ?_; intro w hL hB; try clear w) | (refine Both.mk ?_ ?_ <;> conv => whnf) | fail)
    refine Rv.buildS (len := 1) (vs := [.agg #[.string gn, .slice va gd.length vc, .int .i64 (gl : Int)]]) ttOk hL tl88 tl95 rfl rfl (by intro u hu; simp at hu; subst hu; rfl) (by decide) (by decide) hB fun bo2 w hL hB => ?_
    conv => whnf
    repeat (first | (refine RunH ?_; intro w hL hB; try clear w) | (refine Both.mk ?_ ?_ <;> conv => whnf) | fail)
    refine Rv.appendS (m := 1) (news := [.string gn, .slice va gd.length vc, .int .i64 (gl : Int)]) ttOk hL tl88 tl95 rfl (by decide) 1 rfl (hL.rowN (i := 0) rfl) (by intro u hu; simp at hu; rcases hu with rfl | rfl | rfl <;> rfl) (by simp [maxLen]) (by simp) hB fun v2 w hL hB => ?_
    dsimp only [List.set, List.flatMap_nil, List.append_nil] at hL
    obtain ⟨ya, yc, rfl⟩ := (show SlN w 3 v2 _ _ from hL.rowN (i := 1) rfl).shape
    conv => whnf
    repeat (first | (refine RunH ?_; intro w hL hB; try clear w) | (refine Both.mk ?_ ?_ <;> conv => whnf) | fail)
    intro n2 c2 q3 q4
    obtain rfl : n2 = 0 := by simp at q3; omega
    obtain rfl : c2 = 0 := by simp at q4; omega
    conv => whnf
    repeat (first | (refine RunH ?_; intro w hL hB; try clear w) | (refine Both.mk ?_ ?_ <;> conv => whnf) | fail)
    refine Rv.appendS (m := 0) (news := []) ttOk hL tl88 tl95 rfl (by decide) 1 rfl (SlN.nil _ _) (by simp) (by simp [maxLen]) (by simp) hB fun v3 w hL hB => ?_
    dsimp only [List.set, List.flatMap_nil, List.append_nil] at hL
    obtain ⟨za, zc, rfl⟩ := (show SlN w 3 v3 _ _ from hL.rowN (i := 1) rfl).shape
    conv => whnf
    repeat (first | (refine RunH ?_; intro w hL hB; try clear w) | (refine Both.mk ?_ ?_ <;> conv => whnf) | fail)
    rw [show 0 + 0 + 1 + 0 = ((([] : List Fv)) ++ (⟨gn, .slice va gd.length vc, gd, gl⟩ : Fv) :: ([])).length by simp; try omega] at hL
    have hL2 := (hL.sub (L' := _ :: _ :: ((((([] : List Fv)) ++ (⟨gn, .slice va gd.length vc, gd, gl⟩ : Fv) :: ([])).map Fv.row ++ F))) (.cons _ (.cons_cons _ (.cons _ (.cons_cons _ (.cons _ (.refl _))))))).perm (.swap _ _ _)
    refine ⟨.slice za 1 zc, ?_, hB⟩
    simpa [rkRes, f3] using hL2
  · simp only [List.length_append] at hgc
    repeat (first | (refine RunH ?_; intro w hL hB; try clear w) | (refine Both.mk ?_ ?_ <;> conv => whnf) | fail)
    intro n1 c1 q1 q2
    obtain rfl : n1 = A.length := by omega
    conv => whnf
    repeat (first | (refine RunH ?_; intro w hL hB; try clear w) | (refine Both.mk ?_ ?_ <;> conv => whnf) | fail)
    refine Rv.appendS (m := A.length) (news := A.flatMap f3) ttOk hL tl88 tl95 rfl (by decide) 0 rfl (by
      have := SlN.takeF f3_len (hL.rowN (i := 3) rfl) (k := A.length) (by simp) (c' := c1) (by omega) (by omega)
      rwa [List.take_left' rfl] at this) (f3_one A hshA) (by simp only [maxLen]; omega) (by omega) hB fun v1 w hL hB => ?_
    dsimp only [List.set, List.flatMap_nil, List.append_nil] at hL
    obtain ⟨xa, xc, rfl⟩ := (show SlN w 3 v1 _ _ from hL.rowN (i := 0) rfl).shape
    conv => whnf
    repeat (first | (refine RunH ?_; intro w hL hB; try clear w) | (refine Both.mk ?_ ?_ <;> conv => whnf) | fail)
    refine Rv.buildS (len := 1) (vs := [.agg #[.string gn, .slice va gd.length vc, .int .i64 (gl : Int)]]) ttOk hL tl88 tl95 rfl rfl (by intro u hu; simp at hu; subst hu; rfl) (by decide) (by decide) hB fun bo2 w hL hB => ?_
    conv => whnf
    repeat (first | (refine RunH ?_; intro w hL hB; try clear w) | (refine Both.mk ?_ ?_ <;> conv => whnf) | fail)
    refine Rv.appendS (m := 1) (news := [.string gn, .slice va gd.length vc, .int .i64 (gl : Int)]) ttOk hL tl88 tl95 rfl (by decide) 1 rfl (hL.rowN (i := 0) rfl) (by intro u hu; simp at hu; rcases hu with rfl | rfl | rfl <;> rfl) (by simp only [maxLen]; omega) (by omega) hB fun v2 w hL hB => ?_
    dsimp only [List.set, List.flatMap_nil, List.append_nil] at hL
    obtain ⟨ya, yc, rfl⟩ := (show SlN w 3 v2 _ _ from hL.rowN (i := 1) rfl).shape
    conv => whnf
    repeat (first | (refine RunH ?_; intro w hL hB; try clear w) | (refine Both.mk ?_ ?_ <;> conv => whnf) | fail)
    have hAC : (A ++ C).length = A.length + C.length := List.length_append
    refine ⟨⟨by omega, ?_⟩⟩
    conv => whnf
    intro o2 n2 c2 q3 q4 q5 q6
    obtain rfl : n2 = C.length := by omega
    conv => whnf
    repeat (first | (refine RunH ?_; intro w hL hB; try clear w) | (refine Both.mk ?_ ?_ <;> conv => whnf) | fail)
    refine Rv.appendS (m := C.length) (news := C.flatMap f3) ttOk hL tl88 tl95 rfl (by decide) 1 rfl (by
      have := SlN.dropF f3_len (hL.rowN (i := 4) rfl) (k := A.length) (by simp) (o' := o2) (n' := C.length) (c' := c2) (fun h => by have := q3 (by omega); omega) (by simp) (by omega)
      rwa [List.drop_left' rfl, List.length_append, Nat.add_sub_cancel_left] at this) (f3_one C hshC) (by simp only [maxLen]; omega) (by omega) hB fun v3 w hL hB => ?_
    dsimp only [List.set, List.flatMap_nil, List.append_nil] at hL
    obtain ⟨za, zc, rfl⟩ := (show SlN w 3 v3 _ _ from hL.rowN (i := 1) rfl).shape
    conv => whnf
    repeat (first | (refine RunH ?_; intro w hL hB; try clear w) | (refine Both.mk ?_ ?_ <;> conv => whnf) | fail)
    rw [show 0 + A.length + 1 + C.length = ((A) ++ (⟨gn, .slice va gd.length vc, gd, gl⟩ : Fv) :: (C)).length by simp; try omega] at hL
    have hL2 := (hL.sub (L' := _ :: _ :: ((((A) ++ (⟨gn, .slice va gd.length vc, gd, gl⟩ : Fv) :: (C)).map Fv.row ++ F))) (.cons _ (.cons_cons _ (.cons _ (.cons_cons _ (.cons _ (.refl _))))))).perm (.swap _ _ _)
    refine ⟨.slice za ((A) ++ (⟨gn, .slice va gd.length vc, gd, gl⟩ : Fv) :: (C)).length zc, ?_, hB⟩
    have e : ((A) ++ (⟨gn, .slice va gd.length vc, gd, gl⟩ : Fv) :: (C)).flatMap f3 = A.flatMap f3 ++ [.string gn, .slice va gd.length vc, .int .i64 (gl : Int)] ++ C.flatMap f3 := by simp [f3]
    rw [rkRes, e]
    exact hL2
end Go.Proofs.YtjafamiaahabgaaGreatDoor
namespace Go.Proofs.YtjafamiaahabgaaGreatDoor
open Go.RowKit
set_option linter.unusedVariables false
set_option linter.unusedSimpArgs false
set_option maxRecDepth 100000

theorem ltN_irr (a : ByteArray) : ¬ ltF a a := List.lt_irrefl _
theorem ltN_tr {a b c : ByteArray} (h : ltF a b) (h2 : ltF b c) : ltF a c := List.lt_trans h h2
theorem ltN_tri {a b : ByteArray} (h : ¬ ltF a b) (hn : a ≠ b) : ltF b a := by
  refine Classical.byContradiction fun h' => hn (nmB_inj ?_)
  exact List.le_antisymm (List.not_lt.1 h') (List.not_lt.1 h)
/-- a list parted at a name -/
structure At (fs A C : List Fv) (nm : ByteArray) : Prop where
  eq : fs = A ++ C
  lo : ∀ f ∈ A, ltF f.nm nm
  hi : ∀ c C', C = c :: C' → ¬ ltF c.nm nm
theorem At.nA {fs A C : List Fv} {nm : ByteArray} (h : At fs A C nm) : ∀ f ∈ A, f.nm ≠ nm := fun f hf he => ltN_irr nm (he ▸ h.lo f hf)
theorem At.yes {fs A C : List Fv} {nm : ByteArray} (h : At fs A C nm) (hd : hdN C nm = true) : ∃ f C', C = f :: C' ∧ f.nm = nm ∧ getF fs nm = some f := by
  cases C with
  | nil => cases hd
  | cons f C' =>
    have hn : f.nm = nm := by simpa [hdN] using hd
    exact ⟨f, C', rfl, hn, by rw [h.eq]; exact getF_split h.nA hn⟩
theorem At.above {fs A C : List Fv} {nm : ByteArray} (h : At fs A C nm) (hs : (fs.map (·.nm)).Pairwise ltF) (hd : hdN C nm = false) : ∀ c ∈ C, ltF nm c.nm := by
  rw [h.eq, List.map_append, List.pairwise_append] at hs
  cases C with
  | nil => simp
  | cons f C' =>
    have hn : f.nm ≠ nm := by simpa [hdN] using hd
    have h1 := ltN_tri (h.hi f C' rfl) hn
    intro c hc
    rcases List.mem_cons.1 hc with rfl | hc
    · exact h1
    · exact ltN_tr h1 ((List.pairwise_cons.1 hs.2.1).1 _ (List.mem_map_of_mem (f := fun x : Fv => x.nm) hc))
theorem At.no {fs A C : List Fv} {nm : ByteArray} (h : At fs A C nm) (hs : (fs.map (·.nm)).Pairwise ltF) (hd : hdN C nm = false) : getF fs nm = none := by
  refine getF_of_none fun f hf he => ?_
  rw [h.eq] at hf
  rcases List.mem_append.1 hf with hf | hf
  · exact h.nA f hf he
  · exact ltN_irr nm (by have := h.above hs hd f hf; rwa [he] at this)
/-- a new name keeps the order -/
theorem At.srt {fs A C : List Fv} {nm : ByteArray} (h : At fs A C nm) (hs : (fs.map (·.nm)).Pairwise ltF) (hd : hdN C nm = false) {g : Fv} (hg : g.nm = nm) : ((A ++ g :: C).map (·.nm)).Pairwise ltF := by
  have ha := h.above hs hd
  rw [h.eq, List.map_append, List.pairwise_append] at hs
  rw [List.map_append, List.map_cons, List.pairwise_append, List.pairwise_cons]
  refine ⟨hs.1, ⟨fun c hc => ?_, hs.2.1⟩, fun a ha' c hc => ?_⟩
  · obtain ⟨x, hx, rfl⟩ := List.mem_map.1 hc
    rw [hg]; exact ha x hx
  · obtain ⟨x, hx, rfl⟩ := List.mem_map.1 ha'
    rcases List.mem_cons.1 hc with rfl | hc
    · rw [hg]; exact h.lo x hx
    · exact hs.2.2 _ ha' _ hc
theorem At.of {fs A C : List Fv} {nm : ByteArray} (h1 : fs = A ++ C) (h2 : ∀ f ∈ A, ltF f.nm nm) (h3 : ∀ c C', C = c :: C' → ¬ ltF c.nm nm) : At fs A C nm := ⟨h1, h2, h3⟩
/-- a file put in the place of another, or of none -/
theorem OkR.set {room : Nat} {A C : List Fv} {f g : Fv} (h : OkR room (A ++ f :: C)) (hn : g.nm = f.nm) (hla : g.la ≤ g.d.length) (ht : tot (A ++ f :: C) + g.d.length ≤ room + f.d.length) : OkR room (A ++ g :: C) := by
  have e : (A ++ g :: C).map (·.nm) = (A ++ f :: C).map (·.nm) := by simp [hn]
  have et : tot (A ++ g :: C) + f.d.length = tot (A ++ f :: C) + g.d.length := by simp [tot]; omega
  refine ⟨⟨by rw [e]; exact h.ok.nd, fun x hx => ?_, by omega, h.ok.room, fun x hx => ?_, by have := h.ok.len; simpa using this⟩, by rw [e]; exact h.srt⟩
  · rcases List.mem_append.1 hx with hx | hx
    · exact h.ok.la x (by simp [hx])
    · rcases List.mem_cons.1 hx with rfl | hx
      · exact hla
      · exact h.ok.la x (by simp [hx])
  · rcases List.mem_append.1 hx with hx | hx
    · exact h.ok.nm x (by simp [hx])
    · rcases List.mem_cons.1 hx with rfl | hx
      · rw [hn]; exact h.ok.nm f (by simp)
      · exact h.ok.nm x (by simp [hx])
theorem OkR.ins {room : Nat} {fs A C : List Fv} {g : Fv} (h : OkR room fs) (hat : At fs A C g.nm) (hd : hdN C g.nm = false) (hn : 1 ≤ g.nm.size ∧ g.nm.size ≤ 64) (hla : g.la ≤ g.d.length) (ht : tot fs + g.d.length ≤ room) (hl : fs.length < 256) : OkR room (A ++ g :: C) := by
  have hs := hat.srt h.srt hd (g := g) rfl
  have et : tot (A ++ g :: C) = tot fs + g.d.length := by rw [hat.eq]; simp [tot]; omega
  have hm : ∀ x ∈ A ++ g :: C, x = g ∨ x ∈ fs := fun x hx => by
    rw [hat.eq]
    simp only [List.mem_append, List.mem_cons] at hx ⊢
    rcases hx with hx | hx | hx
    · exact .inr (.inl hx)
    · exact .inl hx
    · exact .inr (.inr hx)
  refine ⟨⟨hs.imp fun hab he => by subst he; exact ltN_irr _ hab, fun x hx => ?_, by omega, h.ok.room, fun x hx => ?_, ?_⟩, hs⟩
  · rcases hm x hx with rfl | hx
    · exact hla
    · exact h.ok.la x hx
  · rcases hm x hx with rfl | hx
    · exact hn
    · exact h.ok.nm x hx
  · have : fs.length = A.length + C.length := by rw [hat.eq]; simp
    simp; omega
/-- a file's row, changed for a new one -/
theorem rk_swap {B b room : Nat} {L : Value} {w0 w : World} {A C : List Fv} {f g : Fv} {n : Nat} {xs : List Value} {F : List Res} {v : Value} (hv : g.v = v) (hn : g.d.length = n) (hx : bv g.d = xs)
    (hL : Sep Tryz.prog B w0 w (.row 5 1 v n xs :: .blk b [.int .i64 (room : Int), L] 90 :: .row 95 3 L (A ++ f :: C).length (((A ++ f :: C).set A.length g).flatMap f3) :: ((A ++ f :: C).map Fv.row ++ F))) :
    Sep Tryz.prog B w0 w (rkRes b room L (A ++ g :: C) ++ F) := by
  subst hv; subst hn; subst hx
  have e1 : (A ++ f :: C).set A.length g = A ++ g :: C := by simp
  have e2 : (A ++ f :: C).length = (A ++ g :: C).length := by simp
  rw [e1, e2] at hL
  have h2 := hL.says (R' := Fv.row g) (RowC.of_own (hL.ownR (i := 0) rfl)) rfl
  refine (h2.sub (L' := Fv.row g :: .blk b [.int .i64 (room : Int), L] 90 :: .row 95 3 L (A ++ g :: C).length ((A ++ g :: C).flatMap f3) :: (A.map Fv.row ++ (C.map Fv.row ++ F))) ?_).perm ?_
  · refine .cons_cons _ (.cons_cons _ (.cons_cons _ ?_))
    rw [List.map_append, List.append_assoc]
    exact (List.Sublist.refl _).append (.cons _ (.refl _))
  · rw [rkRes]
    simp only [List.map_append, List.map_cons, List.cons_append, List.append_assoc]
    refine (List.Perm.swap _ _ _).trans (.cons _ ((List.Perm.swap _ _ _).trans (.cons _ ?_)))
    exact List.perm_middle.symm
theorem len1 {room : Nat} {fs : List Fv} (h : OkF room fs) : ∀ f ∈ fs, f.d.length ≤ 1073741824 := fun f hf => by
  have h1 : f.d.length ≤ tot fs := by
    obtain ⟨A, C, rfl⟩ := List.append_of_mem hf
    simp [tot]; omega
  have := h.tot
  have := h.room
  omega

set_option maxHeartbeats 8000000 in
theorem appendR_fn {B b room : Nat} {R : List Fl} {F : List Res} (nm : ByteArray) (hnm : nm.size ≤ 140737488355328) (p : Value) (xs : List UInt8) (hx : xs.length ≤ 140737488355328) {w0 w : World} (hp : ∀ w', Sep Tryz.prog B w0 w' F → Sl w' p (bv xs)) (hD : RkS B w0 w b room R F) :
    Fn Tryz.prog 21 #[ptr b, .string nm, p] w fun r w' => r = .int .i64 (appE room R nm xs.length : Nat) ∧ ∃ R', R'.Perm (appS room R nm xs) ∧ RkS B w0 w' b room R' F := by
  obtain ⟨⟨L, fs, rfl, hok, hL⟩, hB⟩ := hD
  have hp0 := hp w (hL.sub (List.sublist_append_right _ _))
  obtain ⟨pa, pc, rfl⟩ := hp0.shape
  simp only [bv_length] at hp hp0 ⊢
  have htr := hok.ok.tot
  have hrm := hok.ok.room
  by_cases hn : 1 ≤ nm.size ∧ nm.size ≤ 64
  case neg =>
    have e1 : appE room (fs.map Fv.fl) nm xs.length = 1 := by rw [appE, if_pos hn]
    have e2 : appS room (fs.map Fv.fl) nm xs = fs.map Fv.fl := by rw [appS, e1]; rfl
    rw [e1, e2]
    refine Fn.mk Tryz.func21 rfl (by kernel_rfl) Tryz.ntmps21 rfl (by rw [Tryz.results21]) ?_
    repeat (first | (refine RunH ?_; intro w hL hB; try clear w) | (refine Both.mk ?_ ?_ <;> conv => whnf) | (refine (isNameR_fn nm hnm _).mono fun r w1 hr => ?_; obtain ⟨hr, hw⟩ := hr; subst hr; subst hw; conv => whnf) | fail)
    exact ⟨rfl, _, .refl _, RkS.mk' hok hL hB⟩
  refine Fn.mk Tryz.func21 rfl (by kernel_rfl) Tryz.ntmps21 rfl (by rw [Tryz.results21]) ?_
  repeat (first | (refine RunH ?_; intro w hL hB; try clear w) | (refine Both.mk ?_ ?_ <;> conv => whnf) | (refine (isNameR_fn nm hnm _).mono fun r w1 hr => ?_; obtain ⟨hr, hw⟩ := hr; subst hr; subst hw; conv => whnf) | (refine Br.yes (decide_eq_true hn) ?_; conv => whnf) | fail)
  refine (spot_fn nm hok.ok.len hL hB).mono fun r w ⟨A, C, h1, h2, h3, hr, hL, hB⟩ => ?_
  subst hr
  have hat := At.of h1 h2 h3
  clear h1 h2 h3
  have hl1 := len1 hok.ok
  have hlen := hok.ok.len
  have hfl : (fs.map Fv.fl).length = fs.length := by simp
  have htf := tot_fl fs
  have hgs : (getS (fs.map Fv.fl) nm).isNone = ! hdN C nm := by
    rw [getF_fl]
    cases hd : hdN C nm with
    | true => obtain ⟨f, C', _, _, hg⟩ := hat.yes hd; rw [hg]; rfl
    | false => rw [hat.no hok.srt hd]; rfl
  by_cases hfull : (hdN C nm = false ∧ 256 ≤ fs.length) ∨ room < tot fs + xs.length
  · have e1 : appE room (fs.map Fv.fl) nm xs.length = 6 := by rw [appE, if_neg (fun h => h hn), if_pos]; rw [hgs, hfl, htf]; simpa using hfull
    have e2 : appS room (fs.map Fv.fl) nm xs = fs.map Fv.fl := by rw [appS, e1]; rfl
    rw [e1, e2]
    simp only [rkRes, List.cons_append] at hL
    obtain ⟨ga, gc, rfl⟩ := (show SlN w 3 L fs.length _ from hL.rowN (i := 1) rfl).shape
    cases hd : hdN C nm with
    | true =>
      have hx : room < tot fs + xs.length := by simpa [hd] using hfull
      conv => whnf
      repeat (first | (refine RunK ?_; intro w hL hB; try clear w) | (refine V.treeA ttOk hL (.q 0 (.q 1 (.q 2 (.q 3 (.q 4 (.q 5 (.q 6 (.q 7 (.q 8 (.q 9 (.q 10 (.q 11 (.q 13 (.q 14 (.q 16 (.q 17 (.q 18 (.q 19 (.alt 12 (.q 15 (.q 20 (.q 21 .nil))) .stop))))))))))))))))))) mixed (by decide +kernel) ?_; replace hL := hL.drew; conv => whnf) | (refine V.tailA ttOk mixed (by decide +kernel) ?_; replace hL := hL.drew; conv => whnf) | (refine Both.mk ?_ ?_ <;> conv => whnf) | (refine (usedR_fn (w0 := w0) (B := B) (L := .slice ga fs.length gc) (F := F) (room := room) hlen hl1 hL hB).mono fun r w1 hr => ?_; obtain ⟨hr, hw⟩ := hr; subst hr; subst hw; conv => whnf) | fail)
      exact ⟨rfl, _, .refl _, RkS.mk' (L := .slice ga fs.length gc) hok hL hB⟩
    | false =>
      by_cases h256 : 256 ≤ fs.length
      · conv => whnf
        repeat (first | (refine RunK ?_; intro w hL hB; try clear w) | (refine V.treeA ttOk hL (.q 0 (.q 1 (.q 2 (.q 3 (.q 4 (.q 5 (.q 6 (.q 7 (.q 8 (.q 9 (.q 10 (.q 11 (.q 13 (.q 14 (.q 16 (.q 17 (.q 18 (.q 19 (.alt 12 (.q 15 (.q 20 (.q 21 .nil))) .stop))))))))))))))))))) mixed (by decide +kernel) ?_; replace hL := hL.drew; conv => whnf) | (refine V.tailA ttOk mixed (by decide +kernel) ?_; replace hL := hL.drew; conv => whnf) | (refine Both.mk ?_ ?_ <;> conv => whnf) | (refine (usedR_fn (w0 := w0) (B := B) (L := .slice ga fs.length gc) (F := F) (room := room) hlen hl1 hL hB).mono fun r w1 hr => ?_; obtain ⟨hr, hw⟩ := hr; subst hr; subst hw; conv => whnf) | fail)
        exact ⟨rfl, _, .refl _, RkS.mk' (L := .slice ga fs.length gc) hok hL hB⟩
      · have hx : room < tot fs + xs.length := by simpa [hd, h256] using hfull
        conv => whnf
        repeat (first | (refine RunK ?_; intro w hL hB; try clear w) | (refine V.treeA ttOk hL (.q 0 (.q 1 (.q 2 (.q 3 (.q 4 (.q 5 (.q 6 (.q 7 (.q 8 (.q 9 (.q 10 (.q 11 (.q 13 (.q 14 (.q 16 (.q 17 (.q 18 (.q 19 (.alt 12 (.q 15 (.q 20 (.q 21 .nil))) .stop))))))))))))))))))) mixed (by decide +kernel) ?_; replace hL := hL.drew; conv => whnf) | (refine V.tailA ttOk mixed (by decide +kernel) ?_; replace hL := hL.drew; conv => whnf) | (refine Both.mk ?_ ?_ <;> conv => whnf) | (refine (usedR_fn (w0 := w0) (B := B) (L := .slice ga fs.length gc) (F := F) (room := room) hlen hl1 hL hB).mono fun r w1 hr => ?_; obtain ⟨hr, hw⟩ := hr; subst hr; subst hw; conv => whnf) | fail)
        exact ⟨rfl, _, .refl _, RkS.mk' (L := .slice ga fs.length gc) hok hL hB⟩
  have e1 : appE room (fs.map Fv.fl) nm xs.length = 0 := by rw [appE, if_neg (fun h => h hn), if_neg]; rw [hgs, hfl, htf]; simpa using hfull
  rw [e1]
  have hfit : tot fs + xs.length ≤ room := Nat.le_of_not_lt fun h => hfull (.inr h)
  have h256 : hdN C nm = false → fs.length < 256 := fun h => Nat.lt_of_not_le fun h' => hfull (.inl ⟨h, h'⟩)
  simp only [rkRes, List.cons_append] at hL
  obtain ⟨ga, gc, rfl⟩ := (show SlN w 3 L fs.length _ from hL.rowN (i := 1) rfl).shape
  cases hd : hdN C nm <;> (
    try have hlt := h256 hd
    conv => whnf
    repeat (first | (refine V.go ?_; first | ((first | refine V.reg ttOk ?_ | refine V.ext ?_ | refine V.rt ?_ | refine V.skp ?_ | refine V.lab ?_ | fail); conv => whnf) | refine V.seq ?_ | refine V.blk ?_ | (refine V.treeA ttOk hL (.q 0 (.q 1 (.q 2 (.q 3 (.q 4 (.q 5 (.q 6 (.q 7 (.q 8 (.q 9 (.q 10 (.q 11 (.q 13 (.q 14 (.q 16 (.q 17 (.q 18 (.q 19 (.alt 12 (.q 15 (.q 20 (.q 21 .nil))) .stop))))))))))))))))))) mixed (by decide +kernel) ?_; replace hL := hL.drew; conv => whnf) | (refine V.tailA ttOk mixed (by decide +kernel) ?_; replace hL := hL.drew; conv => whnf) | fail) | (refine Br.go ?_; first | ((first | refine Br.tt ?_ | refine Br.ff ?_ | refine Br.y ?_ | refine Br.n ?_ | refine Br.t ?_ | refine Br.f ?_ | fail); conv => whnf) | refine Br.not ?_ | fail) | (refine Ld.go ?_; first | ((first | refine Ld.x ttOk hL ?_ | refine Ld.p ttOk hL ?_ | fail); conv => whnf) | fail) | (refine St.x ttOk hL hB (fun w hL hB => ?_); dsimp only [List.set, splice, overL, cellsL, takeL, dropL, List.drop, List.take, rkRes, List.append_nil, List.nil_append, List.cons_append] at hL; conv => whnf) | (refine Lq.go ?_; first | ((first | refine Lq.x ttOk hL.cls ?_ | refine Lq.x ttOk (fun _ h => h) ?_ | refine Lq.p ttOk hL.cls ?_ | refine Lq.p ttOk (fun _ h => h) ?_ | fail); conv => whnf) | fail) | (refine Ar.go ?_; first | ((first | refine Ar.s ?_ | refine Ar.u ?_ | refine Ar.h ?_ | refine Ar.b ?_ | fail); conv => whnf) | fail) | ((first | refine Chk.m ?_ | refine Qv.str ttOk rfl rfl rfl ?_ | refine An.x hL ?_ | fail); conv => whnf) | (refine Both.mk ?_ ?_ <;> conv => whnf) | (refine (usedR_fn (w0 := w0) (B := B) (L := .slice ga fs.length gc) (F := F) (room := room) hlen hl1 hL hB).mono fun r w1 hr => ?_; obtain ⟨hr, hw⟩ := hr; subst hr; subst hw; conv => whnf) | fail)
    refine V.cnd rfl ?_
    refine Br.f ?_
    conv => whnf
    refine V.skp ?_
    conv => whnf
    refine V.seqJoin (α := Value × Fv × List Fv) (fun _ => [(0, ptr b), (2, .slice pa xs.length pc), (7, .int .i64 (A.length : Nat))])
      (fun z w' => z.2.1.nm = nm ∧ z.2.1.d.length ≤ 1073741824 ∧ (A ++ z.2.1 :: z.2.2).length ≤ 256 ∧ (∀ v', OkR room (A ++ ⟨z.2.1.nm, v', z.2.1.d ++ xs, z.2.1.la⟩ :: z.2.2) ∧ ((A ++ (⟨z.2.1.nm, v', z.2.1.d ++ xs, z.2.1.la⟩ : Fv) :: z.2.2).map Fv.fl).Perm (appS room (fs.map Fv.fl) nm xs)) ∧
        Sep Tryz.prog B w0 w' (rkRes b room z.1 (A ++ z.2.1 :: z.2.2) ++ F) ∧ B ≤ w'.heap.size) ?_ ?_
    rotate_left
    · rintro ⟨L', f, C'⟩ w ⟨hfn, hfl, hln, hfin, hL, hB⟩
      dsimp only at *
      have hlA : (A ++ f :: C').length = A.length + C'.length + 1 := by simp; omega
      have hget : (A ++ f :: C')[A.length]? = some f := by simp
      simp only [rkRes, List.cons_append] at hL
      obtain ⟨va, vc, hfv⟩ := rk_shape (X := [_, _]) hL f (by simp)
      obtain ⟨g, gcap, rfl, hgcap⟩ := own_shape0 (hL.ownR (i := 1) rfl) (by omega)
      obtain ⟨fn, fv, fd, fla⟩ := f
      dsimp only at *
      subst hfv
      repeat (first | (refine RunK ?_; intro w hL hB; try clear w) | (refine V.treeP ttOk hL 1 (.q 0 (.q 1 (.q 2 (.q 3 (.q 4 (.q 6 (.q 7 (.q 8 (.q 9 (.q 10 (.q 11 (.q 12 (.q 15 (.alt 5 (.alt 13 (.alt 14 (.alt 16 (.q 17 (.q 18 (.alt 19 .nil .stop))) .stop) .stop) .stop) (.alt 13 (.alt 5 (.alt 14 (.alt 16 (.q 17 (.q 18 (.alt 19 .nil .stop))) .stop) .stop) .stop) .stop))))))))))))))) mixed (by decide +kernel) ?_; replace hL := hL.drew; conv => whnf) | (refine V.tailA ttOk mixed (by decide +kernel) ?_; replace hL := hL.drew; conv => whnf) | (refine Both.mk ?_ ?_ <;> conv => whnf) | fail)
      intro o1 ho1
      conv => whnf
      repeat (first | (refine RunH ?_; intro w hL hB; try clear w) | (refine Both.mk ?_ ?_ <;> conv => whnf) | fail)
      all_goals (
        repeat (first | (refine RunH ?_; intro w hL hB; try clear w) | (refine Both.mk ?_ ?_ <;> conv => whnf) | (refine Rv.buildS (len := 0) (vs := []) ttOk hL tl23 tl5 rfl rfl (by intro u hu; cases hu) (by decide) (by decide) hB fun bo w hL hB => ?_; conv => whnf) | (refine Ld.rowF ttOk f3_len 1 (hL.rowN (i := 1) rfl).rowOf tl23 rfl hget rfl (by omega) ?_; conv => whnf) | (refine Ld.rowF ttOk f3_len 1 (hL.rowN (i := 2) rfl).rowOf tl23 rfl hget rfl (by omega) ?_; conv => whnf) | fail)
        have hS : Sl w (.slice va fd.length vc) (bv fd) := RowC.sl (show RowC w 5 _ fd.length (bv fd) from hL.hold (Fv.row ⟨fn, .slice va fd.length vc, fd, fla⟩) (by simp))
        refine Rv.appendS (m := fd.length) (news := bv fd) ttOk hL tl23 tl5 rfl (by decide) 0 rfl (by have := hS.toN; rw [bv_length] at this; exact this) (bv_one _) (by simp only [maxLen]; omega) (by omega) hB fun v1 w hL hB => ?_
        dsimp only [List.set, List.flatMap_nil, List.nil_append] at hL
        obtain ⟨xa, xc, rfl⟩ := (show SlN w 1 v1 _ _ from hL.rowN (i := 0) rfl).shape
        conv => whnf
        repeat (first | (refine RunH ?_; intro w hL hB; try clear w) | (refine Both.mk ?_ ?_ <;> conv => whnf) | fail)
        refine Rv.appendS (m := xs.length) (news := bv xs) ttOk hL tl23 tl5 rfl (by decide) 0 rfl (by have := (hp _ (hL.sub (.cons _ (.cons _ (.cons _ (List.sublist_append_right _ _)))))).toN; rw [bv_length] at this; exact this) (bv_one _) (by simp only [maxLen]; omega) (by omega) hB fun v2 w hL hB => ?_
        dsimp only [List.set, List.flatMap_nil, List.nil_append] at hL
        obtain ⟨ya, yc, rfl⟩ := (show SlN w 1 v2 _ _ from hL.rowN (i := 0) rfl).shape
        conv => whnf
        repeat (first | (refine RunH ?_; intro w hL hB; try clear w) | (refine Both.mk ?_ ?_ <;> conv => whnf) | fail)
        intro o2 ho2
        conv => whnf
        repeat (first | (refine RunH ?_; intro w hL hB; try clear w) | (refine Both.mk ?_ ?_ <;> conv => whnf) | fail)
        refine St.rowM ttOk hL f3_len 2 A.length 1 ⟨fn, .slice ya (0 + fd.length + xs.length) yc, fd ++ xs, fla⟩ tl23 rfl rfl rfl hget (by decide) rfl (by omega) hB fun w hL hB => ?_
        dsimp only [List.set] at hL
        conv => whnf
        repeat (first | (refine RunH ?_; intro w hL hB; try clear w) | (refine Both.mk ?_ ?_ <;> conv => whnf) | fail)
        exact ⟨rfl, _, (hfin (.slice ya (0 + fd.length + xs.length) yc)).2, RkS.mk' (hfin _).1 (rk_swap (g := ⟨fn, .slice ya (0 + fd.length + xs.length) yc, fd ++ xs, fla⟩) rfl (by simp) (by rw [bv_append]; rfl) hL) hB⟩)
    )
  · obtain rfl := hat.eq
    have hlt := h256 hd
    have hgn := hat.no hok.srt hd
    repeat (first | (refine RunH ?_; intro w hL hB; try clear w) | (refine Both.mk ?_ ?_ <;> conv => whnf) | fail)
    have hL2 := (hL.nilC 5).perm (show (_ : List Res).Perm (.blk b [.int .i64 (room : Int), .slice ga (A ++ C).length gc] 90 :: .row 95 3 (.slice ga (A ++ C).length gc) (A ++ C).length ((A ++ C).flatMap f3) :: ((A ++ (⟨nm, .slice none 0 0, [], 0⟩ : Fv) :: C).map Fv.row ++ F)) by
      simp only [List.map_append, List.map_cons, List.append_assoc, List.cons_append]
      refine (List.Perm.swap _ _ _).trans (.cons _ ((List.Perm.swap _ _ _).trans (.cons _ ?_)))
      exact List.perm_middle.symm)
    refine (insert_fn (A := A) (C := C) ⟨nm, .slice none 0 0, [], 0⟩ ⟨none, 0, rfl⟩ hlen hL2 hB).mono fun r w ⟨L', hL, hB⟩ => ?_
    conv => whnf
    repeat (first | (refine RunH ?_; intro w hL hB; try clear w) | (refine Both.mk ?_ ?_ <;> conv => whnf) | fail)
    refine ⟨(L', ⟨nm, .slice none 0 0, [], 0⟩, C), ⟨rfl, rfl, rfl, trivial⟩, rfl, by simp, by simp at hlt ⊢; omega, fun v' => ⟨hok.ins (g := ⟨nm, v', [] ++ xs, 0⟩) hat hd hn (by simp) (by simpa using hfit) hlt, ?_⟩, hL, hB⟩
    rw [appS, if_pos e1, appF, getF_fl, hgn]
    have := putF_fl (A ++ C) ⟨nm, v', xs, 0⟩
    rw [putF_none (getF_none hgn)] at this
    rw [Option.map_none]
    dsimp only [Fv.fl] at this ⊢
    rw [← this]
    simp only [List.map_append, List.map_cons, List.nil_append, List.append_assoc, List.map_nil]
    exact List.Perm.append_left _ (List.perm_append_comm (l₁ := [_]))
  · obtain ⟨f, C', rfl, hfn, hgn⟩ := hat.yes hd
    obtain rfl := hat.eq
    repeat (first | (refine RunH ?_; intro w hL hB; try clear w) | (refine Both.mk ?_ ?_ <;> conv => whnf) | fail)
    refine ⟨(.slice ga (A ++ f :: C').length gc, f, C'), ⟨rfl, rfl, rfl, trivial⟩, hfn, hl1 f (by simp), hlen, fun v' => ⟨hok.set (g := ⟨f.nm, v', f.d ++ xs, f.la⟩) rfl (by have := hok.ok.la f (by simp); simp; omega) (by simp; omega), ?_⟩, hL, hB⟩
    rw [appS, if_pos e1, appF, getF_fl, hgn]
    have := putF_fl (A ++ f :: C') ⟨nm, v', f.d ++ xs, f.la⟩
    rw [putF_split (g := ⟨nm, v', f.d ++ xs, f.la⟩) hat.nA hfn] at this
    simp only [Option.map_some]
    dsimp only [Fv.fl] at this ⊢
    rw [← this, hfn]
end Go.Proofs.YtjafamiaahabgaaGreatDoor
