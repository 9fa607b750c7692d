/- garnerref4.Disk: what it is in memory; IsName, spot, Used, New. garnerref4.Disk: Used, insert, Append. Nothing is claimed here. -/
import Derived.Test.YtpkealgeigpjpaaGreatDoorK18
import Derived.Test.YtpkealgeigpjpaaGreatDoorK28
import Derived.Sort.Walk0
namespace Go.Proofs.YtpkealgeigpjpaaGreatDoor
open Go.RowKit
set_option linter.unusedVariables false
set_option linter.unusedSimpArgs false
set_option maxRecDepth 100000

/-- a file's cells -/
def f3 (f : Fv) : List Value := [.string f.nm, f.v, .int .i64 (f.la : Int)]
theorem f3_len (f : Fv) : (f3 f).length = 3 := rfl
theorem f3_one (fs : List Fv) (h : ∀ f ∈ fs, ∃ a c, f.v = .slice a f.d.length c) : ∀ u ∈ fs.flatMap f3, u.oneCell' = true := fun u hu => by
  obtain ⟨f, hf, hu⟩ := List.mem_flatMap.1 hu
  simp only [f3, List.mem_cons, List.not_mem_nil, or_false] at hu
  rcases hu with rfl | rfl | rfl
  · rfl
  · obtain ⟨a, c, hv⟩ := h f hf
    rw [hv]; rfl
  · rfl
def rkRes (b room : Nat) (L : Value) (fs : List Fv) : List Res := .blk b [.int .i64 (room : Int), L] 63 :: .row 112 3 L fs.length (fs.flatMap f3) :: fs.map Fv.row
def ltF (a b : ByteArray) : Prop := nmB a < nmB b
theorem less_ltN (a b : ByteArray) : Op.bytesLess a.toList b.toList = decide (nmB a < nmB b) := by
  rw [bytesLess_eq, ByteArray.toList_eq, ByteArray.toList_eq]; rfl
theorem Br.ltY {a b : ByteArray} {A B : Prop} (h : ltF a b) (k : A) : Br (Op.bytesLess a.toList b.toList) A B := Br.yes (by rw [less_ltN]; exact decide_eq_true h) k
theorem Br.ltF' {a b : ByteArray} {A B : Prop} (h : ¬ ltF a b) (k : B) : Br (Op.bytesLess a.toList b.toList) A B := Br.no (by rw [less_ltN]; exact decide_eq_false h) k
structure OkR (room : Nat) (fs : List Fv) : Prop where
  ok : OkF room fs
  srt : (fs.map (·.nm)).Pairwise ltF
structure RkS (B : Nat) (w0 w : World) (b room : Nat) (R : List Fl) (F : List Res) : Prop where
  of : ∃ L fs, fs.map Fv.fl = R ∧ OkR room fs ∧ Sep Tryz.prog B w0 w (rkRes b room L fs ++ F)
  hB : B ≤ w.heap.size
theorem RkS.mk' {B : Nat} {w0 w : World} {b room : Nat} {F : List Res} {L : Value} {fs : List Fv} (h : OkR room fs) (hL : Sep Tryz.prog B w0 w (rkRes b room L fs ++ F)) (hB : B ≤ w.heap.size) : RkS B w0 w b room (fs.map Fv.fl) F := ⟨⟨L, fs, rfl, h, hL⟩, hB⟩
theorem RkS.rest {B : Nat} {w0 w : World} {b room : Nat} {S : List Fl} {F : List Res} (h : RkS B w0 w b room S F) : Sep Tryz.prog B w0 w F := by
  obtain ⟨L, fs, _, _, hL⟩ := h.of
  exact hL.sub (List.sublist_append_right _ _)
theorem RkS.perm {B : Nat} {w0 w : World} {b room : Nat} {S : List Fl} {F F' : List Res} (h : RkS B w0 w b room S F) (hp : F.Perm F') : RkS B w0 w b room S F' := by
  obtain ⟨⟨L, fs, h1, h2, hL⟩, hB⟩ := h
  exact ⟨⟨L, fs, h1, h2, hL.perm (hp.append_left _)⟩, hB⟩
theorem RkS.sub {B : Nat} {w0 w : World} {b room : Nat} {S : List Fl} {F F' : List Res} (h : RkS B w0 w b room S F) (hp : F'.Sublist F) : RkS B w0 w b room S F' := by
  obtain ⟨⟨L, fs, h1, h2, hL⟩, hB⟩ := h
  exact ⟨⟨L, fs, h1, h2, hL.sub ((List.Sublist.refl _).append hp)⟩, hB⟩
theorem RkS.open {B : Nat} {w0 w : World} {b room : Nat} {S : List Fl} {F : List Res} (h : RkS B w0 w b room S F) : ∃ dL, Sep Tryz.prog B w0 w (F ++ dL) ∧ B ≤ w.heap.size ∧ ∀ {w' : World} {F' : List Res}, Sep Tryz.prog B w0 w' (F' ++ dL) → B ≤ w'.heap.size → RkS B w0 w' b room S F' := by
  obtain ⟨⟨L, fs, h1, h2, hL⟩, hB⟩ := h
  exact ⟨_, hL.perm List.perm_append_comm, hB, fun hL hB => ⟨⟨L, fs, h1, h2, hL.perm List.perm_append_comm⟩, hB⟩⟩
theorem rk_shape {B : Nat} {w0 w : World} {X F : List Res} {fs : List Fv} (hL : Sep Tryz.prog B w0 w (X ++ (fs.map Fv.row ++ F))) : ∀ f ∈ fs, ∃ a c, f.v = .slice a f.d.length c := fun f hf => row_shape hL hf

theorem isNameR_fn (s : ByteArray) (hs : s.size ≤ 140737488355328) (w : World) : Fn Tryz.prog 64 #[.string s] w fun r w' => r = .bool (decide (1 ≤ s.size ∧ s.size ≤ 64)) ∧ w' = w := by
  refine Fn.mk Tryz.func64 rfl (by kernel_rfl) Tryz.ntmps64 rfl (by rw [Tryz.results64]) ?_
  by_cases h1 : 1 ≤ s.size
  · refine RunR ?_
    by_cases h2 : s.size ≤ 64
    · refine RunR ?_
      exact ⟨by simp [h1, h2]; omega, rfl⟩
    · refine RunR ?_
      exact ⟨by simp [h1, h2]; omega, rfl⟩
  · refine RunR ?_
    exact ⟨by simp [h1], rfl⟩
theorem newR_fn (room : Int) {B : Nat} {w0 w : World} {F : List Res} (hL : Sep Tryz.prog B w0 w F) (hB : B ≤ w.heap.size) :
    Fn Tryz.prog 7 #[.int .i64 room] w fun r w' => (0 ≤ room ∧ room ≤ 1073741824 → ∃ b, r = .tuple #[ptr b, .int .i64 0] ∧ RkS B w0 w' b room.toNat [] F) ∧ (¬ (0 ≤ room ∧ room ≤ 1073741824) → r = .tuple #[.pointer none, .int .i64 1] ∧ Sep Tryz.prog B w0 w' F ∧ B ≤ w'.heap.size) := by
  refine Fn.mk Tryz.func7 rfl (by kernel_rfl) Tryz.ntmps7 rfl (by rw [Tryz.results7]) ?_
  by_cases h1 : room < 0
  · repeat (first | (refine RunH ?_; intro w hL hB; try clear w) | (refine Both.mk ?_ ?_ <;> conv => whnf) | fail)
    exact ⟨fun h => by omega, fun _ => ⟨rfl, hL, hB⟩⟩
  by_cases h2 : 1073741824 < room
  · repeat (first | (refine RunH ?_; intro w hL hB; try clear w) | (refine Both.mk ?_ ?_ <;> conv => whnf) | fail)
    exact ⟨fun h => by omega, fun _ => ⟨rfl, hL, hB⟩⟩
  · repeat (first | (refine RunH ?_; intro w hL hB; try clear w) | (refine Both.mk ?_ ?_ <;> conv => whnf) | (refine Nw.sep hL hB (fun b w hL hB hb => ?_); conv => whnf) | fail)
    refine ⟨fun h => ?_, fun h => by omega⟩
    have e : room = ((room.toNat : Nat) : Int) := by omega
    rw [e] at hL
    refine ⟨b, rfl, RkS.mk' (L := .slice none 0 0) (fs := []) ⟨⟨by simp, by simp, by simp [tot], by omega, by simp, by simp⟩, by simp⟩ ?_ hB⟩
    exact (hL.nilRow 112 3).perm (.swap _ _ _)

/-- where a name stands, or would stand -/
def hdN (C : List Fv) (nm : ByteArray) : Bool := match C with
  | [] => false
  | c :: _ => decide (c.nm = nm)
theorem bytes_eq (a b : ByteArray) : (a.toList == b.toList) = decide (a = b) := by
  rw [ByteArray.toList_eq, ByteArray.toList_eq]
  by_cases h : a = b
  · subst h; simp
  · rw [decide_eq_false h]
    simp only [beq_eq_false_iff_ne, ne_eq]
    exact fun e => h (nmB_inj e)
set_option maxHeartbeats 4000000 in
theorem spot_fn {B b room : Nat} {L : Value} {fs : List Fv} {F : List Res} (nm : ByteArray) (hlen : fs.length ≤ 256) {w0 w : World} (hL : Sep Tryz.prog B w0 w (rkRes b room L fs ++ F)) (hB : B ≤ w.heap.size) :
    Fn Tryz.prog 63 #[ptr b, .string nm] w fun r w' => ∃ A C, fs = A ++ C ∧ (∀ f ∈ A, ltF f.nm nm) ∧ (∀ c C', C = c :: C' → ¬ ltF c.nm nm) ∧ r = .tuple #[.int .i64 (A.length : Nat), .bool (hdN C nm)] ∧
      Sep Tryz.prog B w0 w' (rkRes b room L fs ++ F) ∧ B ≤ w'.heap.size := by
  refine Fn.mk Tryz.func63 rfl (by kernel_rfl) Tryz.ntmps63 rfl (by rw [Tryz.results63]) ?_
  simp only [rkRes, List.cons_append] at hL ⊢
  obtain ⟨ga, gc, rfl⟩ := (show SlN w 3 L fs.length _ from hL.rowN (i := 1) rfl).shape
  repeat (first | (refine RunH ?_; intro w hL hB; try clear w) | (refine Both.mk ?_ ?_ <;> conv => whnf) | fail)
  refine V.loop (α := Nat) (fun k => [(0, ptr b), (1, .string nm), (6, .int .i64 (k : Int))])
    (fun k w' => k ≤ fs.length ∧ (∀ f ∈ fs.take k, ltF f.nm nm) ∧ Sep Tryz.prog B w0 w' (.blk b [.int .i64 (room : Int), .slice ga fs.length gc] 63 :: .row 112 3 (.slice ga fs.length gc) fs.length (fs.flatMap f3) :: (fs.map Fv.row ++ F)) ∧ B ≤ w'.heap.size)
    (fun k => fs.length - k) 0 ⟨rfl, rfl, rfl, trivial⟩ ⟨by omega, by simp, hL, hB⟩ ?_
  clear hL hB
  rintro k w ⟨hk, hlt, hL, hB⟩
  by_cases hkl : k < fs.length
  case neg =>
    obtain rfl : k = fs.length := by omega
    repeat (first | (refine RunK ?_; intro w hL hB; try clear w) | (refine V.quiet ttOk (fun x => x = World.drew _) mixed (by kernel_rfl) rfl ?_; replace hL := hL.drew; conv => whnf) | (refine V.tailA ttOk mixed (by decide +kernel) ?_; replace hL := hL.drew; conv => whnf) | (refine Both.mk ?_ ?_ <;> conv => whnf) | fail)
    rintro w rfl
    conv => whnf
    repeat (first | (refine RunH ?_; intro w hL hB; try clear w) | (refine Both.mk ?_ ?_ <;> conv => whnf) | fail)
    refine ⟨fs, [], by simp, by simpa using hlt, by simp, rfl, hL, hB⟩
  obtain ⟨bb, o, rfl, hrow⟩ := SlN.addr (show SlN w 3 (.slice ga fs.length gc) fs.length _ from hL.rowN (i := 1) rfl) (by omega)
  by_cases hc : ltF (fs[k]).nm nm
  · repeat (first | (refine RunH ?_; intro w hL hB; try clear w) | (refine Both.mk ?_ ?_ <;> conv => whnf) | fail)
    intro o1 ho1
    conv => whnf
    repeat (first | (refine RunH ?_; intro w hL hB; try clear w) | (refine Both.mk ?_ ?_ <;> conv => whnf) | fail)
    refine Ld.rowF ttOk f3_len 0 hrow tl9 rfl (List.getElem?_eq_getElem hkl) rfl (by omega) ?_
    conv => whnf
    repeat (first | (refine RunH ?_; intro w hL hB; try clear w) | (refine Both.mk ?_ ?_ <;> conv => whnf) | (refine Br.ltY hc ?_; conv => whnf) | fail)
    exact ⟨k + 1, ⟨rfl, rfl, vint (by push_cast; omega), trivial⟩, ⟨by omega, fun f hf => by
      rw [List.take_succ_eq_append_getElem hkl] at hf
      rcases List.mem_append.1 hf with hf | hf
      · exact hlt f hf
      · simp at hf; subst hf; exact hc, hL, hB⟩, (by first | omega | (dsimp only; omega))⟩
  · repeat (first | (refine RunH ?_; intro w hL hB; try clear w) | (refine Both.mk ?_ ?_ <;> conv => whnf) | fail)
    intro o1 ho1
    conv => whnf
    repeat (first | (refine RunH ?_; intro w hL hB; try clear w) | (refine Both.mk ?_ ?_ <;> conv => whnf) | fail)
    refine Ld.rowF ttOk f3_len 0 hrow tl9 rfl (List.getElem?_eq_getElem hkl) rfl (by omega) ?_
    conv => whnf
    repeat (first | (refine RunK ?_; intro w hL hB; try clear w) | (refine V.quiet ttOk (fun x => x = World.drew _) mixed (by kernel_rfl) rfl ?_; replace hL := hL.drew; conv => whnf) | (refine V.tailA ttOk mixed (by decide +kernel) ?_; replace hL := hL.drew; conv => whnf) | (refine Both.mk ?_ ?_ <;> conv => whnf) | (refine Br.ltF' hc ?_; conv => whnf) | fail)
    intro o2 ho2
    conv => whnf
    repeat (first | (refine RunH ?_; intro w hL hB; try clear w) | (refine Both.mk ?_ ?_ <;> conv => whnf) | fail)
    refine Lq.of_row (Ld.rowF ttOk f3_len 0 (hL.rowN (i := 1) rfl).rowOf tl9 rfl (List.getElem?_eq_getElem hkl) rfl (by omega) rfl) ?_
    conv => whnf
    repeat (first | (refine RunH ?_; intro w hL hB; try clear w) | (refine Both.mk ?_ ?_ <;> conv => whnf) | fail)
    rintro w rfl
    conv => whnf
    repeat (first | (refine RunH ?_; intro w hL hB; try clear w) | (refine Both.mk ?_ ?_ <;> conv => whnf) | fail)
    refine ⟨fs.take k, fs.drop k, by simp, hlt, fun c C' h => ?_, ?_, hL, hB⟩
    · rw [List.drop_eq_getElem_cons hkl] at h
      injection h with h _
      rw [← h]; exact hc
    · rw [List.drop_eq_getElem_cons hkl, List.length_take, Nat.min_eq_left hk]
      rfl
end Go.Proofs.YtpkealgeigpjpaaGreatDoor
namespace Go.Proofs.YtpkealgeigpjpaaGreatDoor
open Go.RowKit
set_option linter.unusedVariables false
set_option linter.unusedSimpArgs false
set_option maxRecDepth 100000

theorem tot_take {fs : List Fv} {k : Nat} (h : k < fs.length) : tot (fs.take (k + 1)) = tot (fs.take k) + (fs[k]).d.length := by
  rw [List.take_succ_eq_append_getElem h]
  simp only [tot, List.map_append, List.sum_append, List.map_cons, List.map_nil, List.sum_cons, List.sum_nil]
  omega
theorem usedR_fn {B b room : Nat} {L : Value} {fs : List Fv} {F : List Res} (hlen : fs.length ≤ 256) (hle : ∀ f ∈ fs, f.d.length ≤ 1073741824) {w0 w : World} (hL : Sep Tryz.prog B w0 w (rkRes b room L fs ++ F)) (hB : B ≤ w.heap.size) :
    Fn Tryz.prog 65 #[ptr b] w fun r w' => r = .int .i64 (tot fs : Nat) ∧ w' = w := by
  refine Fn.mk Tryz.func65 rfl (by kernel_rfl) Tryz.ntmps65 rfl (by rw [Tryz.results65]) ?_
  simp only [rkRes, List.cons_append] at hL ⊢
  have hsh := rk_shape (X := [_, _]) hL
  obtain ⟨ga, gc, rfl⟩ := (show SlN w 3 L fs.length _ from hL.rowN (i := 1) rfl).shape
  repeat (first | (refine RunH ?_; intro w hL hB; try clear w) | (refine Both.mk ?_ ?_ <;> conv => whnf) | fail)
  refine V.loop (α := Nat) (fun k => [(0, ptr b), (3, .int .i64 (tot (fs.take k) : Nat)), (4, .int .i64 (k : Int))])
    (fun k w' => k ≤ fs.length ∧ tot (fs.take k) ≤ k * 1073741824 ∧ w' = w)
    (fun k => fs.length - k) 0 ⟨rfl, rfl, rfl, trivial⟩ ⟨by omega, by simp [tot], rfl⟩ ?_
  rintro k _ ⟨hk, ht, rfl⟩
  by_cases hkl : k < fs.length
  case neg =>
    obtain rfl : k = fs.length := by omega
    repeat (first | (refine RunH ?_; intro w hL hB; try clear w) | (refine Both.mk ?_ ?_ <;> conv => whnf) | fail)
    rw [List.take_length]
    exact ⟨rfl, rfl⟩
  obtain ⟨bb, o, rfl, hrow⟩ := SlN.addr (show SlN _ 3 (.slice ga fs.length gc) fs.length _ from hL.rowN (i := 1) rfl) (by omega)
  obtain ⟨va, vc, hv⟩ := hsh _ (List.getElem_mem hkl)
  have hd := hle _ (List.getElem_mem hkl)
  have hts := tot_take hkl
  repeat (first | (refine RunH ?_; intro w hL hB; try clear w) | (refine Both.mk ?_ ?_ <;> conv => whnf) | fail)
  intro o1 ho1
  conv => whnf
  repeat (first | (refine RunH ?_; intro w hL hB; try clear w) | (refine Both.mk ?_ ?_ <;> conv => whnf) | fail)
  refine Ld.rowF ttOk f3_len 1 hrow tl47 rfl (List.getElem?_eq_getElem hkl) (by rw [f3, hv]; rfl) (by omega) ?_
  conv => whnf
  repeat (first | (refine RunH ?_; intro w hL hB; try clear w) | (refine Both.mk ?_ ?_ <;> conv => whnf) | fail)
  exact ⟨k + 1, ⟨rfl, vint (by push_cast; omega), vint (by push_cast; omega), trivial⟩, ⟨by omega, by omega, rfl⟩, (by first | omega | (dsimp only; omega))⟩

theorem zeroF3 : True := trivial
set_option maxHeartbeats 4000000 in
/-- a file with no byte of its own yet is laid in -/
theorem insert_fn {B b room : Nat} {L : Value} {A C : List Fv} {F : List Res} (g : Fv) (hg : ∃ a c, g.v = .slice a g.d.length c) (hlen : (A ++ C).length ≤ 256) {w0 w : World}
    (hL : Sep Tryz.prog B w0 w (.blk b [.int .i64 (room : Int), L] 63 :: .row 112 3 L (A ++ C).length ((A ++ C).flatMap f3) :: ((A ++ g :: C).map Fv.row ++ F))) (hB : B ≤ w.heap.size) :
    Fn Tryz.prog 66 #[ptr b, .int .i64 (A.length : Nat), .agg (f3 g).toArray] w fun r w' => ∃ L', Sep Tryz.prog B w0 w' (rkRes b room L' (A ++ g :: C) ++ F) ∧ B ≤ w'.heap.size := by
  have hsh := rk_shape (X := [_, _]) hL
  obtain ⟨va, vc, hv⟩ := hg
  have hshA : ∀ f ∈ A, ∃ a c, f.v = .slice a f.d.length c := fun f hf => hsh f (by simp [hf])
  have hshC : ∀ f ∈ C, ∃ a c, f.v = .slice a f.d.length c := fun f hf => hsh f (by simp [hf])
  have hshg : ∀ f ∈ [g], ∃ a c, f.v = .slice a f.d.length c := fun f hf => by simp at hf; subst hf; exact ⟨va, vc, hv⟩
  obtain ⟨gn, gv, gd, gl⟩ := g
  dsimp only at hv
  subst hv
  simp only [List.length_append] at hlen
  refine Fn.mk Tryz.func66 rfl (by kernel_rfl) Tryz.ntmps66 rfl (by rw [Tryz.results66]) ?_
  simp only [f3]
  repeat (first | (refine RunH ?_; intro w hL hB; try clear w) | (refine Both.mk ?_ ?_ <;> conv => whnf) | fail)
  (refine Nw.sep hL hB (fun t5 w hL hB ht5 => ?_); conv => whnf)
  repeat (first | (refine RunH ?_; intro w hL hB; try clear w) | (refine Both.mk ?_ ?_ <;> conv => whnf) | fail)
  refine Rv.buildS (len := 0) (vs := []) ttOk hL tl61 tl112 rfl rfl (by intro u hu; cases hu) (by decide) (by decide) hB fun bo w hL hB => ?_
  conv => whnf
  have hsl := hL.rowN (i := 3) rfl
  have hpp : ((A ++ (⟨gn, .slice va gd.length vc, gd, gl⟩ : Fv) :: C).map Fv.row).length = A.length + C.length + 1 := by simp; omega
  rcases own_shape (hL.ownR (i := 3) rfl) with ⟨rfl, h0⟩ | ⟨g, gc, rfl, hgc⟩
  · simp only [List.length_append, Nat.add_eq_zero_iff] at h0
    obtain rfl := List.eq_nil_of_length_eq_zero h0.1
    obtain rfl := List.eq_nil_of_length_eq_zero h0.2
    repeat (first | (refine RunH ?_; intro w hL hB; try clear w) | (refine Both.mk ?_ ?_ <;> conv => whnf) | fail)
    intro n1 c1 q1 q2
    obtain rfl : n1 = 0 := by simp at q1; omega
    obtain rfl : c1 = 0 := by simp at q2; omega
    conv => whnf
    repeat (first | (refine RunH ?_; intro w hL hB; try clear w) | (refine Both.mk ?_ ?_ <;> conv => whnf) | fail)
    refine Rv.appendS (m := 0) (news := []) ttOk hL tl61 tl112 rfl (by decide) 0 rfl (SlN.nil _ _) (by simp) (by simp [maxLen]) (by simp) hB fun v1 w hL hB => ?_
    dsimp only [List.set, List.flatMap_nil, List.append_nil] at hL
    obtain ⟨xa, xc, rfl⟩ := (show SlN w 3 v1 _ _ from hL.rowN (i := 0) rfl).shape
    conv => whnf
    repeat (first | (refine RunH ?_; intro w hL hB; try clear w) | (refine Both.mk ?_ ?_ <;> conv => whnf) | fail)
    refine Rv.buildS (len := 1) (vs := [.agg #[.string gn, .slice va gd.length vc, .int .i64 (gl : Int)]]) ttOk hL tl61 tl112 rfl rfl (by intro u hu; simp at hu; subst hu; rfl) (by decide) (by decide) hB fun bo2 w hL hB => ?_
    conv => whnf
    repeat (first | (refine RunH ?_; intro w hL hB; try clear w) | (refine Both.mk ?_ ?_ <;> conv => whnf) | fail)
    refine Rv.appendS (m := 1) (news := [.string gn, .slice va gd.length vc, .int .i64 (gl : Int)]) ttOk hL tl61 tl112 rfl (by decide) 1 rfl (hL.rowN (i := 0) rfl) (by intro u hu; simp at hu; rcases hu with rfl | rfl | rfl <;> rfl) (by simp [maxLen]) (by simp) hB fun v2 w hL hB => ?_
    dsimp only [List.set, List.flatMap_nil, List.append_nil] at hL
    obtain ⟨ya, yc, rfl⟩ := (show SlN w 3 v2 _ _ from hL.rowN (i := 1) rfl).shape
    conv => whnf
    repeat (first | (refine RunH ?_; intro w hL hB; try clear w) | (refine Both.mk ?_ ?_ <;> conv => whnf) | fail)
    intro n2 c2 q3 q4
    obtain rfl : n2 = 0 := by simp at q3; omega
    obtain rfl : c2 = 0 := by simp at q4; omega
    conv => whnf
    repeat (first | (refine RunH ?_; intro w hL hB; try clear w) | (refine Both.mk ?_ ?_ <;> conv => whnf) | fail)
    refine Rv.appendS (m := 0) (news := []) ttOk hL tl61 tl112 rfl (by decide) 1 rfl (SlN.nil _ _) (by simp) (by simp [maxLen]) (by simp) hB fun v3 w hL hB => ?_
    dsimp only [List.set, List.flatMap_nil, List.append_nil] at hL
    obtain ⟨za, zc, rfl⟩ := (show SlN w 3 v3 _ _ from hL.rowN (i := 1) rfl).shape
    conv => whnf
    repeat (first | (refine RunH ?_; intro w hL hB; try clear w) | (refine Both.mk ?_ ?_ <;> conv => whnf) | fail)
    rw [show 0 + 0 + 1 + 0 = ((([] : List Fv)) ++ (⟨gn, .slice va gd.length vc, gd, gl⟩ : Fv) :: ([])).length by simp; try omega] at hL
    have hL2 := (hL.sub (L' := _ :: _ :: ((((([] : List Fv)) ++ (⟨gn, .slice va gd.length vc, gd, gl⟩ : Fv) :: ([])).map Fv.row ++ F))) (.cons _ (.cons_cons _ (.cons _ (.cons_cons _ (.cons _ (.refl _))))))).perm (.swap _ _ _)
    refine ⟨.slice za 1 zc, ?_, hB⟩
    simpa [rkRes, f3] using hL2
  · simp only [List.length_append] at hgc
    repeat (first | (refine RunH ?_; intro w hL hB; try clear w) | (refine Both.mk ?_ ?_ <;> conv => whnf) | fail)
    intro n1 c1 q1 q2
    obtain rfl : n1 = A.length := by omega
    conv => whnf
    repeat (first | (refine RunH ?_; intro w hL hB; try clear w) | (refine Both.mk ?_ ?_ <;> conv => whnf) | fail)
    refine Rv.appendS (m := A.length) (news := A.flatMap f3) ttOk hL tl61 tl112 rfl (by decide) 0 rfl (by
      have := SlN.takeF f3_len (hL.rowN (i := 3) rfl) (k := A.length) (by simp) (c' := c1) (by omega) (by omega)
      rwa [List.take_left' rfl] at this) (f3_one A hshA) (by simp only [maxLen]; omega) (by omega) hB fun v1 w hL hB => ?_
    dsimp only [List.set, List.flatMap_nil, List.append_nil] at hL
    obtain ⟨xa, xc, rfl⟩ := (show SlN w 3 v1 _ _ from hL.rowN (i := 0) rfl).shape
    conv => whnf
    repeat (first | (refine RunH ?_; intro w hL hB; try clear w) | (refine Both.mk ?_ ?_ <;> conv => whnf) | fail)
    refine Rv.buildS (len := 1) (vs := [.agg #[.string gn, .slice va gd.length vc, .int .i64 (gl : Int)]]) ttOk hL tl61 tl112 rfl rfl (by intro u hu; simp at hu; subst hu; rfl) (by decide) (by decide) hB fun bo2 w hL hB => ?_
    conv => whnf
    repeat (first | (refine RunH ?_; intro w hL hB; try clear w) | (refine Both.mk ?_ ?_ <;> conv => whnf) | fail)
    refine Rv.appendS (m := 1) (news := [.string gn, .slice va gd.length vc, .int .i64 (gl : Int)]) ttOk hL tl61 tl112 rfl (by decide) 1 rfl (hL.rowN (i := 0) rfl) (by intro u hu; simp at hu; rcases hu with rfl | rfl | rfl <;> rfl) (by simp only [maxLen]; omega) (by omega) hB fun v2 w hL hB => ?_
    dsimp only [List.set, List.flatMap_nil, List.append_nil] at hL
    obtain ⟨ya, yc, rfl⟩ := (show SlN w 3 v2 _ _ from hL.rowN (i := 1) rfl).shape
    conv => whnf
    repeat (first | (refine RunH ?_; intro w hL hB; try clear w) | (refine Both.mk ?_ ?_ <;> conv => whnf) | fail)
    have hAC : (A ++ C).length = A.length + C.length := List.length_append
    refine ⟨⟨by omega, ?_⟩⟩
    conv => whnf
    intro o2 n2 c2 q3 q4 q5 q6
    obtain rfl : n2 = C.length := by omega
    conv => whnf
    repeat (first | (refine RunH ?_; intro w hL hB; try clear w) | (refine Both.mk ?_ ?_ <;> conv => whnf) | fail)
    refine Rv.appendS (m := C.length) (news := C.flatMap f3) ttOk hL tl61 tl112 rfl (by decide) 1 rfl (by
      have := SlN.dropF f3_len (hL.rowN (i := 4) rfl) (k := A.length) (by simp) (o' := o2) (n' := C.length) (c' := c2) (fun h => by have := q3 (by omega); omega) (by simp) (by omega)
      rwa [List.drop_left' rfl, List.length_append, Nat.add_sub_cancel_left] at this) (f3_one C hshC) (by simp only [maxLen]; omega) (by omega) hB fun v3 w hL hB => ?_
    dsimp only [List.set, List.flatMap_nil, List.append_nil] at hL
    obtain ⟨za, zc, rfl⟩ := (show SlN w 3 v3 _ _ from hL.rowN (i := 1) rfl).shape
    conv => whnf
    repeat (first | (refine RunH ?_; intro w hL hB; try clear w) | (refine Both.mk ?_ ?_ <;> conv => whnf) | fail)
    rw [show 0 + A.length + 1 + C.length = ((A) ++ (⟨gn, .slice va gd.length vc, gd, gl⟩ : Fv) :: (C)).length by simp; try omega] at hL
    have hL2 := (hL.sub (L' := _ :: _ :: ((((A) ++ (⟨gn, .slice va gd.length vc, gd, gl⟩ : Fv) :: (C)).map Fv.row ++ F))) (.cons _ (.cons_cons _ (.cons _ (.cons_cons _ (.cons _ (.refl _))))))).perm (.swap _ _ _)
    refine ⟨.slice za ((A) ++ (⟨gn, .slice va gd.length vc, gd, gl⟩ : Fv) :: (C)).length zc, ?_, hB⟩
    have e : ((A) ++ (⟨gn, .slice va gd.length vc, gd, gl⟩ : Fv) :: (C)).flatMap f3 = A.flatMap f3 ++ [.string gn, .slice va gd.length vc, .int .i64 (gl : Int)] ++ C.flatMap f3 := by simp [f3]
    rw [rkRes, e]
    exact hL2
end Go.Proofs.YtpkealgeigpjpaaGreatDoor
