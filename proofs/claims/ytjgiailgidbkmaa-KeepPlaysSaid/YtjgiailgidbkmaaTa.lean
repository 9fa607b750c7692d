/- garnerref4.Disk: what it is in memory; IsName, spot, Used, New. Nothing is claimed here. -/
import Derived.Test.YtjgiailgidbkmaaDh
import Derived.Test.YtjgiailgidbkmaaRw
import Derived.Sort.Walk0
namespace Go.Proofs.Ytjgiailgidbkmaa
open Go.RowKit
set_option linter.unusedVariables false
set_option linter.unusedSimpArgs false
set_option maxRecDepth 100000

/-- a file's cells -/
def f3 (f : Fv) : List Value := [.string f.nm, f.v, .int .i64 (f.la : Int)]
theorem f3_len (f : Fv) : (f3 f).length = 3 := rfl
theorem f3_one (fs : List Fv) (h : ∀ f ∈ fs, ∃ a c, f.v = .slice a f.d.length c) : ∀ u ∈ fs.flatMap f3, u.oneCell' = true := fun u hu => by
  obtain ⟨f, hf, hu⟩ := List.mem_flatMap.1 hu
  simp only [f3, List.mem_cons, List.not_mem_nil, or_false] at hu
  rcases hu with rfl | rfl | rfl
  · rfl
  · obtain ⟨a, c, hv⟩ := h f hf
    rw [hv]; rfl
  · rfl
def rkRes (b room : Nat) (L : Value) (fs : List Fv) : List Res := .blk b [.int .i64 (room : Int), L] 71 :: .row 82 3 L fs.length (fs.flatMap f3) :: fs.map Fv.row
def ltN (a b : ByteArray) : Prop := nmB a < nmB b
theorem less_ltN (a b : ByteArray) : Op.bytesLess a.toList b.toList = decide (nmB a < nmB b) := by
  rw [bytesLess_eq, ByteArray.toList_eq, ByteArray.toList_eq]; rfl
theorem Br.ltY {a b : ByteArray} {A B : Prop} (h : ltN a b) (k : A) : Br (Op.bytesLess a.toList b.toList) A B := Br.yes (by rw [less_ltN]; exact decide_eq_true h) k
theorem Br.ltN' {a b : ByteArray} {A B : Prop} (h : ¬ ltN a b) (k : B) : Br (Op.bytesLess a.toList b.toList) A B := Br.no (by rw [less_ltN]; exact decide_eq_false h) k
structure OkR (room : Nat) (fs : List Fv) : Prop where
  ok : OkF room fs
  srt : (fs.map (·.nm)).Pairwise ltN
structure RkS (B : Nat) (w0 w : World) (b room : Nat) (R : List Fl) (F : List Res) : Prop where
  of : ∃ L fs, fs.map Fv.fl = R ∧ OkR room fs ∧ Sep Try.prog B w0 w (rkRes b room L fs ++ F)
  hB : B ≤ w.heap.size
theorem RkS.mk' {B : Nat} {w0 w : World} {b room : Nat} {F : List Res} {L : Value} {fs : List Fv} (h : OkR room fs) (hL : Sep Try.prog B w0 w (rkRes b room L fs ++ F)) (hB : B ≤ w.heap.size) : RkS B w0 w b room (fs.map Fv.fl) F := ⟨⟨L, fs, rfl, h, hL⟩, hB⟩
theorem RkS.rest {B : Nat} {w0 w : World} {b room : Nat} {S : List Fl} {F : List Res} (h : RkS B w0 w b room S F) : Sep Try.prog B w0 w F := by
  obtain ⟨L, fs, _, _, hL⟩ := h.of
  exact hL.sub (List.sublist_append_right _ _)
theorem RkS.perm {B : Nat} {w0 w : World} {b room : Nat} {S : List Fl} {F F' : List Res} (h : RkS B w0 w b room S F) (hp : F.Perm F') : RkS B w0 w b room S F' := by
  obtain ⟨⟨L, fs, h1, h2, hL⟩, hB⟩ := h
  exact ⟨⟨L, fs, h1, h2, hL.perm (hp.append_left _)⟩, hB⟩
theorem RkS.sub {B : Nat} {w0 w : World} {b room : Nat} {S : List Fl} {F F' : List Res} (h : RkS B w0 w b room S F) (hp : F'.Sublist F) : RkS B w0 w b room S F' := by
  obtain ⟨⟨L, fs, h1, h2, hL⟩, hB⟩ := h
  exact ⟨⟨L, fs, h1, h2, hL.sub ((List.Sublist.refl _).append hp)⟩, hB⟩
theorem RkS.open {B : Nat} {w0 w : World} {b room : Nat} {S : List Fl} {F : List Res} (h : RkS B w0 w b room S F) : ∃ dL, Sep Try.prog B w0 w (F ++ dL) ∧ B ≤ w.heap.size ∧ ∀ {w' : World} {F' : List Res}, Sep Try.prog B w0 w' (F' ++ dL) → B ≤ w'.heap.size → RkS B w0 w' b room S F' := by
  obtain ⟨⟨L, fs, h1, h2, hL⟩, hB⟩ := h
  exact ⟨_, hL.perm List.perm_append_comm, hB, fun hL hB => ⟨⟨L, fs, h1, h2, hL.perm List.perm_append_comm⟩, hB⟩⟩
theorem rk_shape {B : Nat} {w0 w : World} {X F : List Res} {fs : List Fv} (hL : Sep Try.prog B w0 w (X ++ (fs.map Fv.row ++ F))) : ∀ f ∈ fs, ∃ a c, f.v = .slice a f.d.length c := fun f hf => row_shape hL hf

theorem isNameR_fn (s : ByteArray) (hs : s.size ≤ 140737488355328) (w : World) : Fn Try.prog 58 #[.string s] w fun r w' => r = .bool (decide (1 ≤ s.size ∧ s.size ≤ 64)) ∧ w' = w := by
  refine Fn.mk Try.func58 rfl (by kernel_rfl) Try.ntmps58 rfl (by rw [Try.results58]) ?_
  by_cases h1 : 1 ≤ s.size
  · refine RunR ?_
    by_cases h2 : s.size ≤ 64
    · refine RunR ?_
      exact ⟨by simp [h1, h2]; omega, rfl⟩
    · refine RunR ?_
      exact ⟨by simp [h1, h2]; omega, rfl⟩
  · refine RunR ?_
    exact ⟨by simp [h1], rfl⟩
theorem newR_fn (room : Int) {B : Nat} {w0 w : World} {F : List Res} (hL : Sep Try.prog B w0 w F) (hB : B ≤ w.heap.size) :
    Fn Try.prog 16 #[.int .i64 room] w fun r w' => (0 ≤ room ∧ room ≤ 1073741824 → ∃ b, r = .tuple #[ptr b, .int .i64 0] ∧ RkS B w0 w' b room.toNat [] F) ∧ (¬ (0 ≤ room ∧ room ≤ 1073741824) → r = .tuple #[.pointer none, .int .i64 1] ∧ Sep Try.prog B w0 w' F ∧ B ≤ w'.heap.size) := by
  refine Fn.mk Try.func16 rfl (by kernel_rfl) Try.ntmps16 rfl (by rw [Try.results16]) ?_
  by_cases h1 : room < 0
  · repeat (first | (refine RunH ?_; intro w hL hB; try clear w) | (refine Both.mk ?_ ?_ <;> conv => whnf) | fail)
    exact ⟨fun h => by omega, fun _ => ⟨rfl, hL, hB⟩⟩
  by_cases h2 : 1073741824 < room
  · repeat (first | (refine RunH ?_; intro w hL hB; try clear w) | (refine Both.mk ?_ ?_ <;> conv => whnf) | fail)
    exact ⟨fun h => by omega, fun _ => ⟨rfl, hL, hB⟩⟩
  · repeat (first | (refine RunH ?_; intro w hL hB; try clear w) | (refine Both.mk ?_ ?_ <;> conv => whnf) | (refine Nw.sep hL hB (fun b w hL hB hb => ?_); conv => whnf) | fail)
    refine ⟨fun h => ?_, fun h => by omega⟩
    have e : room = ((room.toNat : Nat) : Int) := by omega
    rw [e] at hL
    refine ⟨b, rfl, RkS.mk' (L := .slice none 0 0) (fs := []) ⟨⟨by simp, by simp, by simp [tot], by omega, by simp, by simp⟩, by simp⟩ ?_ hB⟩
    exact (hL.nilRow 82 3).perm (.swap _ _ _)

/-- where a name stands, or would stand -/
def hdN (C : List Fv) (nm : ByteArray) : Bool := match C with
  | [] => false
  | c :: _ => decide (c.nm = nm)
theorem bytes_eq (a b : ByteArray) : (a.toList == b.toList) = decide (a = b) := by
  rw [ByteArray.toList_eq, ByteArray.toList_eq]
  by_cases h : a = b
  · subst h; simp
  · rw [decide_eq_false h]
    simp only [beq_eq_false_iff_ne, ne_eq]
    exact fun e => h (nmB_inj e)
set_option maxHeartbeats 4000000 in
theorem spot_fn {B b room : Nat} {L : Value} {fs : List Fv} {F : List Res} (nm : ByteArray) (hlen : fs.length ≤ 256) {w0 w : World} (hL : Sep Try.prog B w0 w (rkRes b room L fs ++ F)) (hB : B ≤ w.heap.size) :
    Fn Try.prog 57 #[ptr b, .string nm] w fun r w' => ∃ A C, fs = A ++ C ∧ (∀ f ∈ A, ltN f.nm nm) ∧ (∀ c C', C = c :: C' → ¬ ltN c.nm nm) ∧ r = .tuple #[.int .i64 (A.length : Nat), .bool (hdN C nm)] ∧
      Sep Try.prog B w0 w' (rkRes b room L fs ++ F) ∧ B ≤ w'.heap.size := by
  refine Fn.mk Try.func57 rfl (by kernel_rfl) Try.ntmps57 rfl (by rw [Try.results57]) ?_
  simp only [rkRes, List.cons_append] at hL ⊢
  obtain ⟨ga, gc, rfl⟩ := (show SlN w 3 L fs.length _ from hL.rowN (i := 1) rfl).shape
  repeat (first | (refine RunH ?_; intro w hL hB; try clear w) | (refine Both.mk ?_ ?_ <;> conv => whnf) | fail)
  refine V.loop (α := Nat) (fun k => [(0, ptr b), (1, .string nm), (6, .int .i64 (k : Int))])
    (fun k w' => k ≤ fs.length ∧ (∀ f ∈ fs.take k, ltN f.nm nm) ∧ Sep Try.prog B w0 w' (.blk b [.int .i64 (room : Int), .slice ga fs.length gc] 71 :: .row 82 3 (.slice ga fs.length gc) fs.length (fs.flatMap f3) :: (fs.map Fv.row ++ F)) ∧ B ≤ w'.heap.size)
    (fun k => fs.length - k) 0 ⟨rfl, rfl, rfl, trivial⟩ ⟨by omega, by simp, hL, hB⟩ ?_
  clear hL hB
  rintro k w ⟨hk, hlt, hL, hB⟩
  by_cases hkl : k < fs.length
  case neg =>
    obtain rfl : k = fs.length := by omega
    repeat (first | (refine RunK ?_; intro w hL hB; try clear w) | (refine V.quiet ttOk (fun x => x = World.drew _) mixed (by kernel_rfl) rfl ?_; replace hL := hL.drew; conv => whnf) | (refine V.tailA ttOk mixed (by decide +kernel) ?_; replace hL := hL.drew; conv => whnf) | (refine Both.mk ?_ ?_ <;> conv => whnf) | fail)
    rintro w rfl
    conv => whnf
    repeat (first | (refine RunH ?_; intro w hL hB; try clear w) | (refine Both.mk ?_ ?_ <;> conv => whnf) | fail)
    refine ⟨fs, [], by simp, by simpa using hlt, by simp, rfl, hL, hB⟩
  obtain ⟨bb, o, rfl, hrow⟩ := SlN.addr (show SlN w 3 (.slice ga fs.length gc) fs.length _ from hL.rowN (i := 1) rfl) (by omega)
  by_cases hc : ltN (fs[k]).nm nm
  · repeat (first | (refine RunH ?_; intro w hL hB; try clear w) | (refine Both.mk ?_ ?_ <;> conv => whnf) | fail)
    intro o1 ho1
    conv => whnf
    repeat (first | (refine RunH ?_; intro w hL hB; try clear w) | (refine Both.mk ?_ ?_ <;> conv => whnf) | fail)
    refine Ld.rowF ttOk f3_len 0 hrow tl9 rfl (List.getElem?_eq_getElem hkl) rfl (by omega) ?_
    conv => whnf
    repeat (first | (refine RunH ?_; intro w hL hB; try clear w) | (refine Both.mk ?_ ?_ <;> conv => whnf) | (refine Br.ltY hc ?_; conv => whnf) | fail)
    exact ⟨k + 1, ⟨rfl, rfl, vint (by push_cast; omega), trivial⟩, ⟨by omega, fun f hf => by
      rw [List.take_succ_eq_append_getElem hkl] at hf
      rcases List.mem_append.1 hf with hf | hf
      · exact hlt f hf
      · simp at hf; subst hf; exact hc, hL, hB⟩, (by first | omega | (dsimp only; omega))⟩
  · repeat (first | (refine RunH ?_; intro w hL hB; try clear w) | (refine Both.mk ?_ ?_ <;> conv => whnf) | fail)
    intro o1 ho1
    conv => whnf
    repeat (first | (refine RunH ?_; intro w hL hB; try clear w) | (refine Both.mk ?_ ?_ <;> conv => whnf) | fail)
    refine Ld.rowF ttOk f3_len 0 hrow tl9 rfl (List.getElem?_eq_getElem hkl) rfl (by omega) ?_
    conv => whnf
    repeat (first | (refine RunK ?_; intro w hL hB; try clear w) | (refine V.quiet ttOk (fun x => x = World.drew _) mixed (by kernel_rfl) rfl ?_; replace hL := hL.drew; conv => whnf) | (refine V.tailA ttOk mixed (by decide +kernel) ?_; replace hL := hL.drew; conv => whnf) | (refine Both.mk ?_ ?_ <;> conv => whnf) | (refine Br.ltN' hc ?_; conv => whnf) | fail)
    intro o2 ho2
    conv => whnf
    repeat (first | (refine RunH ?_; intro w hL hB; try clear w) | (refine Both.mk ?_ ?_ <;> conv => whnf) | fail)
    refine Lq.of_row (Ld.rowF ttOk f3_len 0 (hL.rowN (i := 1) rfl).rowOf tl9 rfl (List.getElem?_eq_getElem hkl) rfl (by omega) rfl) ?_
    conv => whnf
    repeat (first | (refine RunH ?_; intro w hL hB; try clear w) | (refine Both.mk ?_ ?_ <;> conv => whnf) | fail)
    rintro w rfl
    conv => whnf
    repeat (first | (refine RunH ?_; intro w hL hB; try clear w) | (refine Both.mk ?_ ?_ <;> conv => whnf) | fail)
    refine ⟨fs.take k, fs.drop k, by simp, hlt, fun c C' h => ?_, ?_, hL, hB⟩
    · rw [List.drop_eq_getElem_cons hkl] at h
      injection h with h _
      rw [← h]; exact hc
    · rw [List.drop_eq_getElem_cons hkl, List.length_take, Nat.min_eq_left hk]
      rfl
end Go.Proofs.Ytjgiailgidbkmaa
