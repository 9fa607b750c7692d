/- Rows of structs: parts of them, stores into them. garnerref4.Disk: what it is in memory; IsName, spot, Used, New. Nothing is claimed here. -/
import Derived.Test.YtjafamiaahabgaaGreatDoorK03
import Derived.Test.YtjafamiaahabgaaGreatDoorK12
import Derived.Sort.Walk0
namespace Go.Proofs.YtjafamiaahabgaaGreatDoor
open Go.RowKit
set_option linter.unusedVariables false
set_option linter.unusedSimpArgs false
set_option maxRecDepth 100000

theorem splice_skip : ∀ (xs ys : List Value) (i : Nat) (vs : List Value), splice (xs ++ ys) (xs.length + i) vs = xs ++ splice ys i vs
  | [], ys, i, vs => by simp
  | x :: xs, ys, i, vs => by
    rw [List.length_cons, show xs.length + 1 + i = (xs.length + i) + 1 from by omega, List.cons_append, splice, splice_skip xs ys i vs]; rfl
theorem splice_app (xs ys : List Value) (j : Nat) (vs : List Value) (h : j + vs.length ≤ xs.length) : splice (xs ++ ys) j vs = splice xs j vs ++ ys := by
  rw [splice_eq _ _ _ (by simp; omega), splice_eq _ _ _ h, List.take_append_of_le_length (by omega), List.drop_append_of_le_length h]
  simp
theorem splice_map {α : Type} {f : α → List Value} {sz : Nat} (hf : ∀ s, (f s).length = sz) : ∀ (ss : List α) (k : Nat) (s s' : α) (j : Nat) (vs : List Value), ss[k]? = some s → j + vs.length ≤ sz → splice (f s) j vs = f s' → splice (ss.flatMap f) (k * sz + j) vs = (ss.set k s').flatMap f
  | [], k, s, s', j, vs, h, _, _ => by simp at h
  | a :: L, 0, s, s', j, vs, h, hj, he => by
    simp at h; subst h
    rw [Nat.zero_mul, Nat.zero_add, List.flatMap_cons, splice_app _ _ _ _ (by rw [hf]; exact hj), he]
    simp
  | a :: L, k + 1, s, s', j, vs, h, hj, he => by
    have ha := hf a
    rw [List.flatMap_cons, show (k + 1) * sz + j = (f a).length + (k * sz + j) from by rw [ha, Nat.add_mul]; omega, splice_skip, splice_map hf L k s s' j vs (by simpa using h) hj he]
    simp
theorem own_shape0 {w : World} {base : Nat} {e : TypeId} {sz : Nat} {v : Value} {n : Nat} {xs : List Value} (h : w.ownsRow base e sz v n xs) (hn : 0 < n) : ∃ g cap, v = .slice (some ⟨g, 0, none⟩) n cap ∧ n ≤ cap := by
  rcases h.2 with ⟨_, rfl⟩ | ⟨g, cap, _, rfl, _, _, h1, _⟩
  · omega
  · exact ⟨g, cap, rfl, h1⟩
theorem flat_take {α : Type} {f : α → List Value} {sz : Nat} (hf : ∀ s, (f s).length = sz) : ∀ (ss : List α) (k : Nat), (ss.take k).flatMap f = (ss.flatMap f).take (k * sz)
  | [], k => by simp
  | a :: L, 0 => by simp
  | a :: L, k + 1 => by
    rw [List.take_succ_cons, List.flatMap_cons, List.flatMap_cons, flat_take hf L k, show (k + 1) * sz = (f a).length + k * sz from by rw [hf, Nat.add_mul]; omega, List.take_length_add_append]
theorem flat_drop {α : Type} {f : α → List Value} {sz : Nat} (hf : ∀ s, (f s).length = sz) : ∀ (ss : List α) (k : Nat), (ss.drop k).flatMap f = (ss.flatMap f).drop (k * sz)
  | [], k => by simp
  | a :: L, 0 => by simp
  | a :: L, k + 1 => by
    rw [List.drop_succ_cons, List.flatMap_cons, flat_drop hf L k, show (k + 1) * sz = (f a).length + k * sz from by rw [hf, Nat.add_mul]; omega, List.drop_length_add_append]
/-- the first elements of a row of structs -/
theorem SlN.takeF {α : Type} {f : α → List Value} {sz : Nat} (hf : ∀ s, (f s).length = sz) {w : World} {b o n c : Nat} {ss : List α} (h : SlN w sz (.slice (some ⟨b, o, none⟩) n c) ss.length (ss.flatMap f)) {k : Nat} (hk : k ≤ ss.length) {c' : Nat} (h1 : k ≤ c') (h2 : c' ≤ c) :
    SlN w sz (.slice (some ⟨b, o, none⟩) k c') k ((ss.take k).flatMap f) := by
  obtain ⟨hl, a, c0, he, q1, q2, q3, q4⟩ := h
  injection he with e1 e2 e3
  subst e1; subst e3
  refine SlN.some' (by rw [flat_len hf, List.length_take, Nat.min_eq_left hk]) h1 (by omega) ?_
  rw [flat_take hf]
  exact (Row.of_cells (Row.cells (q4 _ rfl))).take _
/-- .. and the others -/
theorem SlN.dropF {α : Type} {f : α → List Value} {sz : Nat} (hf : ∀ s, (f s).length = sz) {w : World} {b o n c : Nat} {ss : List α} (h : SlN w sz (.slice (some ⟨b, o, none⟩) n c) ss.length (ss.flatMap f)) {k : Nat} (hk : k ≤ ss.length) {o' n' c' : Nat} (ho : k < c → o' = o + k * sz) (hn : n' = ss.length - k) (hc : c' = c - k) :
    SlN w sz (.slice (some ⟨b, o', none⟩) n' c') (ss.length - k) ((ss.drop k).flatMap f) := by
  obtain ⟨hl, a, c0, he, q1, q2, q3, q4⟩ := h
  injection he with e1 e2 e3
  subst e1; subst e3; subst hn
  by_cases hkc : k < c
  · rw [ho hkc]
    refine SlN.some' (by rw [flat_len hf, List.length_drop]) (by omega) (by omega) ?_
    rw [flat_drop hf]
    exact (Row.of_cells (Row.cells (q4 _ rfl))).drop _
  · have : ss.drop k = [] := List.drop_eq_nil_of_le (by omega)
    rw [this]
    exact SlN.some' (by have h0 : ss.length - k = 0 := by omega
                        rw [h0]; simp) (by omega) (by omega) (fun i x hx => by simp at hx)
section
variable {P : Program} {T : Tab} (hT : TabOk P T) {B : Nat} {w0 w : World} {R : List Res} (hS : Sep P B w0 w R)
include hT hS
/-- a store into an element of a row of one's own -/
theorem St.rowM {t : TypeId} {d : Td} {g o m : Nat} {v : Value} {K : World → Prop} {α : Type} {f : α → List Value} {sz : Nat} (hf : ∀ s, (f s).length = sz) (i k j : Nat) {e : TypeId} {n cap : Nat} {ss : List α} {s : α} (s' : α) (hl : look T t = some d) (hs : Nat.beq (llen (cellsL v)) d.size = true) (h1 : allOne (cellsL v) = true)
    (hi : R[i]? = some (.row e sz (.slice (some ⟨g, 0, none⟩) m cap) n (ss.flatMap f))) (hk : ss[k]? = some s) (hj : j + d.size ≤ sz) (he : splice (f s) j (cellsL v) = f s') (ho : o = k * sz + j) (hB : B ≤ w.heap.size)
    (hkk : ∀ w', Sep P B w0 w' (R.set i (.row e sz (.slice (some ⟨g, 0, none⟩) m cap) n ((ss.set k s').flatMap f))) → B ≤ w'.heap.size → K w') : St P w t ⟨g, o, none⟩ v K := by
  subst ho
  have hs' := Nat.eq_of_beq_eq_true hs
  rw [llen_eq] at hs'
  have hkl := (List.getElem?_eq_some_iff.1 hk).1
  refine St.rowS hT hS i hl hs h1 hi ?_ hB fun w' h2 hB' => hkk w' ?_ hB'
  · rw [flat_len hf]
    have : (k + 1) * sz ≤ ss.length * sz := Nat.mul_le_mul_right _ hkl
    rw [Nat.add_mul] at this
    omega
  · rw [splice_map hf ss k s s' j _ hk (by omega) he] at h2
    exact h2
end
end Go.Proofs.YtjafamiaahabgaaGreatDoor
namespace Go.Proofs.YtjafamiaahabgaaGreatDoor
open Go.RowKit
set_option linter.unusedVariables false
set_option linter.unusedSimpArgs false
set_option maxRecDepth 100000

/-- a file's cells -/
def f3 (f : Fv) : List Value := [.string f.nm, f.v, .int .i64 (f.la : Int)]
theorem f3_len (f : Fv) : (f3 f).length = 3 := rfl
theorem f3_one (fs : List Fv) (h : ∀ f ∈ fs, ∃ a c, f.v = .slice a f.d.length c) : ∀ u ∈ fs.flatMap f3, u.oneCell' = true := fun u hu => by
  obtain ⟨f, hf, hu⟩ := List.mem_flatMap.1 hu
  simp only [f3, List.mem_cons, List.not_mem_nil, or_false] at hu
  rcases hu with rfl | rfl | rfl
  · rfl
  · obtain ⟨a, c, hv⟩ := h f hf
    rw [hv]; rfl
  · rfl
def rkRes (b room : Nat) (L : Value) (fs : List Fv) : List Res := .blk b [.int .i64 (room : Int), L] 90 :: .row 95 3 L fs.length (fs.flatMap f3) :: fs.map Fv.row
def ltF (a b : ByteArray) : Prop := nmB a < nmB b
theorem less_ltN (a b : ByteArray) : Op.bytesLess a.toList b.toList = decide (nmB a < nmB b) := by
  rw [bytesLess_eq, ByteArray.toList_eq, ByteArray.toList_eq]; rfl
theorem Br.ltY {a b : ByteArray} {A B : Prop} (h : ltF a b) (k : A) : Br (Op.bytesLess a.toList b.toList) A B := Br.yes (by rw [less_ltN]; exact decide_eq_true h) k
theorem Br.ltF' {a b : ByteArray} {A B : Prop} (h : ¬ ltF a b) (k : B) : Br (Op.bytesLess a.toList b.toList) A B := Br.no (by rw [less_ltN]; exact decide_eq_false h) k
structure OkR (room : Nat) (fs : List Fv) : Prop where
  ok : OkF room fs
  srt : (fs.map (·.nm)).Pairwise ltF
structure RkS (B : Nat) (w0 w : World) (b room : Nat) (R : List Fl) (F : List Res) : Prop where
  of : ∃ L fs, fs.map Fv.fl = R ∧ OkR room fs ∧ Sep Tryz.prog B w0 w (rkRes b room L fs ++ F)
  hB : B ≤ w.heap.size
theorem RkS.mk' {B : Nat} {w0 w : World} {b room : Nat} {F : List Res} {L : Value} {fs : List Fv} (h : OkR room fs) (hL : Sep Tryz.prog B w0 w (rkRes b room L fs ++ F)) (hB : B ≤ w.heap.size) : RkS B w0 w b room (fs.map Fv.fl) F := ⟨⟨L, fs, rfl, h, hL⟩, hB⟩
theorem RkS.rest {B : Nat} {w0 w : World} {b room : Nat} {S : List Fl} {F : List Res} (h : RkS B w0 w b room S F) : Sep Tryz.prog B w0 w F := by
  obtain ⟨L, fs, _, _, hL⟩ := h.of
  exact hL.sub (List.sublist_append_right _ _)
theorem RkS.perm {B : Nat} {w0 w : World} {b room : Nat} {S : List Fl} {F F' : List Res} (h : RkS B w0 w b room S F) (hp : F.Perm F') : RkS B w0 w b room S F' := by
  obtain ⟨⟨L, fs, h1, h2, hL⟩, hB⟩ := h
  exact ⟨⟨L, fs, h1, h2, hL.perm (hp.append_left _)⟩, hB⟩
theorem RkS.sub {B : Nat} {w0 w : World} {b room : Nat} {S : List Fl} {F F' : List Res} (h : RkS B w0 w b room S F) (hp : F'.Sublist F) : RkS B w0 w b room S F' := by
  obtain ⟨⟨L, fs, h1, h2, hL⟩, hB⟩ := h
  exact ⟨⟨L, fs, h1, h2, hL.sub ((List.Sublist.refl _).append hp)⟩, hB⟩
theorem RkS.open {B : Nat} {w0 w : World} {b room : Nat} {S : List Fl} {F : List Res} (h : RkS B w0 w b room S F) : ∃ dL, Sep Tryz.prog B w0 w (F ++ dL) ∧ B ≤ w.heap.size ∧ ∀ {w' : World} {F' : List Res}, Sep Tryz.prog B w0 w' (F' ++ dL) → B ≤ w'.heap.size → RkS B w0 w' b room S F' := by
  obtain ⟨⟨L, fs, h1, h2, hL⟩, hB⟩ := h
  exact ⟨_, hL.perm List.perm_append_comm, hB, fun hL hB => ⟨⟨L, fs, h1, h2, hL.perm List.perm_append_comm⟩, hB⟩⟩
theorem rk_shape {B : Nat} {w0 w : World} {X F : List Res} {fs : List Fv} (hL : Sep Tryz.prog B w0 w (X ++ (fs.map Fv.row ++ F))) : ∀ f ∈ fs, ∃ a c, f.v = .slice a f.d.length c := fun f hf => row_shape hL hf

theorem isNameR_fn (s : ByteArray) (hs : s.size ≤ 140737488355328) (w : World) : Fn Tryz.prog 42 #[.string s] w fun r w' => r = .bool (decide (1 ≤ s.size ∧ s.size ≤ 64)) ∧ w' = w := by
  refine Fn.mk Tryz.func42 rfl (by kernel_rfl) Tryz.ntmps42 rfl (by rw [Tryz.results42]) ?_
  by_cases h1 : 1 ≤ s.size
  · refine RunR ?_
    by_cases h2 : s.size ≤ 64
    · refine RunR ?_
      exact ⟨by simp [h1, h2]; omega, rfl⟩
    · refine RunR ?_
      exact ⟨by simp [h1, h2]; omega, rfl⟩
  · refine RunR ?_
    exact ⟨by simp [h1], rfl⟩
theorem newR_fn (room : Int) {B : Nat} {w0 w : World} {F : List Res} (hL : Sep Tryz.prog B w0 w F) (hB : B ≤ w.heap.size) :
    Fn Tryz.prog 19 #[.int .i64 room] w fun r w' => (0 ≤ room ∧ room ≤ 1073741824 → ∃ b, r = .tuple #[ptr b, .int .i64 0] ∧ RkS B w0 w' b room.toNat [] F) ∧ (¬ (0 ≤ room ∧ room ≤ 1073741824) → r = .tuple #[.pointer none, .int .i64 1] ∧ Sep Tryz.prog B w0 w' F ∧ B ≤ w'.heap.size) := by
  refine Fn.mk Tryz.func19 rfl (by kernel_rfl) Tryz.ntmps19 rfl (by rw [Tryz.results19]) ?_
  by_cases h1 : room < 0
  · repeat (first | (refine RunH ?_; intro w hL hB; try clear w) | (refine Both.mk ?_ ?_ <;> conv => whnf) | fail)
    exact ⟨fun h => by omega, fun _ => ⟨rfl, hL, hB⟩⟩
  by_cases h2 : 1073741824 < room
  · repeat (first | (refine RunH ?_; intro w hL hB; try clear w) | (refine Both.mk ?_ ?_ <;> conv => whnf) | fail)
    exact ⟨fun h => by omega, fun _ => ⟨rfl, hL, hB⟩⟩
  · repeat (first | (refine RunH ?_; intro w hL hB; try clear w) | (refine Both.mk ?_ ?_ <;> conv => whnf) | (refine Nw.sep hL hB (fun b w hL hB hb => ?_); conv => whnf) | fail)
    refine ⟨fun h => ?_, fun h => by omega⟩
    have e : room = ((room.toNat : Nat) : Int) := by omega
    rw [e] at hL
    refine ⟨b, rfl, RkS.mk' (L := .slice none 0 0) (fs := []) ⟨⟨by simp, by simp, by simp [tot], by omega, by simp, by simp⟩, by simp⟩ ?_ hB⟩
    exact (hL.nilRow 95 3).perm (.swap _ _ _)

/-- where a name stands, or would stand -/
def hdN (C : List Fv) (nm : ByteArray) : Bool := match C with
  | [] => false
  | c :: _ => decide (c.nm = nm)
theorem bytes_eq (a b : ByteArray) : (a.toList == b.toList) = decide (a = b) := by
  rw [ByteArray.toList_eq, ByteArray.toList_eq]
  by_cases h : a = b
  · subst h; simp
  · rw [decide_eq_false h]
    simp only [beq_eq_false_iff_ne, ne_eq]
    exact fun e => h (nmB_inj e)
set_option maxHeartbeats 4000000 in
theorem spot_fn {B b room : Nat} {L : Value} {fs : List Fv} {F : List Res} (nm : ByteArray) (hlen : fs.length ≤ 256) {w0 w : World} (hL : Sep Tryz.prog B w0 w (rkRes b room L fs ++ F)) (hB : B ≤ w.heap.size) :
    Fn Tryz.prog 43 #[ptr b, .string nm] w fun r w' => ∃ A C, fs = A ++ C ∧ (∀ f ∈ A, ltF f.nm nm) ∧ (∀ c C', C = c :: C' → ¬ ltF c.nm nm) ∧ r = .tuple #[.int .i64 (A.length : Nat), .bool (hdN C nm)] ∧
      Sep Tryz.prog B w0 w' (rkRes b room L fs ++ F) ∧ B ≤ w'.heap.size := by
  refine Fn.mk Tryz.func43 rfl (by kernel_rfl) Tryz.ntmps43 rfl (by rw [Tryz.results43]) ?_
  simp only [rkRes, List.cons_append] at hL ⊢
  obtain ⟨ga, gc, rfl⟩ := (show SlN w 3 L fs.length _ from hL.rowN (i := 1) rfl).shape
  repeat (first | (refine RunH ?_; intro w hL hB; try clear w) | (refine Both.mk ?_ ?_ <;> conv => whnf) | fail)
  refine V.loop (α := Nat) (fun k => [(0, ptr b), (1, .string nm), (6, .int .i64 (k : Int))])
    (fun k w' => k ≤ fs.length ∧ (∀ f ∈ fs.take k, ltF f.nm nm) ∧ Sep Tryz.prog B w0 w' (.blk b [.int .i64 (room : Int), .slice ga fs.length gc] 90 :: .row 95 3 (.slice ga fs.length gc) fs.length (fs.flatMap f3) :: (fs.map Fv.row ++ F)) ∧ B ≤ w'.heap.size)
    (fun k => fs.length - k) 0 ⟨rfl, rfl, rfl, trivial⟩ ⟨by omega, by simp, hL, hB⟩ ?_
  clear hL hB
  rintro k w ⟨hk, hlt, hL, hB⟩
  by_cases hkl : k < fs.length
  case neg =>
    obtain rfl : k = fs.length := by omega
    repeat (first | (refine RunK ?_; intro w hL hB; try clear w) | (refine V.quiet ttOk (fun x => x = World.drew _) mixed (by kernel_rfl) rfl ?_; replace hL := hL.drew; conv => whnf) | (refine V.tailA ttOk mixed (by decide +kernel) ?_; replace hL := hL.drew; conv => whnf) | (refine Both.mk ?_ ?_ <;> conv => whnf) | fail)
    rintro w rfl
    conv => whnf
    repeat (first | (refine RunH ?_; intro w hL hB; try clear w) | (refine Both.mk ?_ ?_ <;> conv => whnf) | fail)
    refine ⟨fs, [], by simp, by simpa using hlt, by simp, rfl, hL, hB⟩
  obtain ⟨bb, o, rfl, hrow⟩ := SlN.addr (show SlN w 3 (.slice ga fs.length gc) fs.length _ from hL.rowN (i := 1) rfl) (by omega)
  by_cases hc : ltF (fs[k]).nm nm
  · repeat (first | (refine RunH ?_; intro w hL hB; try clear w) | (refine Both.mk ?_ ?_ <;> conv => whnf) | fail)
    intro o1 ho1
    conv => whnf
    repeat (first | (refine RunH ?_; intro w hL hB; try clear w) | (refine Both.mk ?_ ?_ <;> conv => whnf) | fail)
    refine Ld.rowF ttOk f3_len 0 hrow tl9 rfl (List.getElem?_eq_getElem hkl) rfl (by omega) ?_
    conv => whnf
    repeat (first | (refine RunH ?_; intro w hL hB; try clear w) | (refine Both.mk ?_ ?_ <;> conv => whnf) | (refine Br.ltY hc ?_; conv => whnf) | fail)
    exact ⟨k + 1, ⟨rfl, rfl, vint (by push_cast; omega), trivial⟩, ⟨by omega, fun f hf => by
      rw [List.take_succ_eq_append_getElem hkl] at hf
      rcases List.mem_append.1 hf with hf | hf
      · exact hlt f hf
      · simp at hf; subst hf; exact hc, hL, hB⟩, (by first | omega | (dsimp only; omega))⟩
  · repeat (first | (refine RunH ?_; intro w hL hB; try clear w) | (refine Both.mk ?_ ?_ <;> conv => whnf) | fail)
    intro o1 ho1
    conv => whnf
    repeat (first | (refine RunH ?_; intro w hL hB; try clear w) | (refine Both.mk ?_ ?_ <;> conv => whnf) | fail)
    refine Ld.rowF ttOk f3_len 0 hrow tl9 rfl (List.getElem?_eq_getElem hkl) rfl (by omega) ?_
    conv => whnf
    repeat (first | (refine RunK ?_; intro w hL hB; try clear w) | (refine V.quiet ttOk (fun x => x = World.drew _) mixed (by kernel_rfl) rfl ?_; replace hL := hL.drew; conv => whnf) | (refine V.tailA ttOk mixed (by decide +kernel) ?_; replace hL := hL.drew; conv => whnf) | (refine Both.mk ?_ ?_ <;> conv => whnf) | (refine Br.ltF' hc ?_; conv => whnf) | fail)
    intro o2 ho2
    conv => whnf
    repeat (first | (refine RunH ?_; intro w hL hB; try clear w) | (refine Both.mk ?_ ?_ <;> conv => whnf) | fail)
    refine Lq.of_row (Ld.rowF ttOk f3_len 0 (hL.rowN (i := 1) rfl).rowOf tl9 rfl (List.getElem?_eq_getElem hkl) rfl (by omega) rfl) ?_
    conv => whnf
    repeat (first | (refine RunH ?_; intro w hL hB; try clear w) | (refine Both.mk ?_ ?_ <;> conv => whnf) | fail)
    rintro w rfl
    conv => whnf
    repeat (first | (refine RunH ?_; intro w hL hB; try clear w) | (refine Both.mk ?_ ?_ <;> conv => whnf) | fail)
    refine ⟨fs.take k, fs.drop k, by simp, hlt, fun c C' h => ?_, ?_, hL, hB⟩
    · rw [List.drop_eq_getElem_cons hkl] at h
      injection h with h _
      rw [← h]; exact hc
    · rw [List.drop_eq_getElem_cons hkl, List.length_take, Nat.min_eq_left hk]
      rfl
end Go.Proofs.YtjafamiaahabgaaGreatDoor
