/- client: slices.Sorted(maps.Keys(calls)). Nothing is claimed here. -/
import Derived.Test.YtcjnaljdbbjojaaGreatDoorSq
import Derived.Test.YtcjnaljdbbjojaaGreatDoorMi
import Derived.Test.YtcjnaljdbbjojaaGreatDoorCla
namespace Go.Proofs.YtcjnaljdbbjojaaGreatDoor
open Go.RowKit Go.Sort
open Go.Maps (Keyed)
set_option linter.unusedVariables false
set_option linter.unusedSimpArgs false
set_option maxRecDepth 100000

abbrev iV : Int → Value := Value.int .i64
def pE (p : Int × Nat) : Value × Value := (iV p.1, ptrN p.2)
def NdI (ps : List (Int × Nat)) : Prop := (ps.map Prod.fst).Nodup
theorem pE_inj {a b : Int × Nat} (h : pE a = pE b) : a = b := by
  obtain ⟨x, y⟩ := a
  obtain ⟨x', y'⟩ := b
  simp only [pE, iV, ptrN, Prod.mk.injEq, Value.int.injEq, Value.pointer.injEq, Option.some.injEq, Addr.mk.injEq, true_and, and_true] at h
  rw [Prod.mk.injEq]
  exact h
structure Owns (B : Nat) (w0 w : World) (L : List Res) : Prop where
  sep : Sep Tryz.prog B w0 w L
  le : B ≤ w.heap.size
theorem Fn.of_calls {P : Program} {f : FuncId} {fn : Func} {args : Array Value} {w : World} {K : Value → World → Prop} (h1 : P.funcs[f]? = some fn) (h2 : (fn.name == "runtime.NumGoroutine") = false) (h3 : fn.body.isNone = false) (h : Calls P f args w fun e w' => ∃ v, e = .returned v ∧ K v w') : Fn P f args w K :=
  ⟨⟨fn, h1, h2, h3⟩, h⟩
/-- one of them is taken -/
theorem tookI {rest : List (Int × Nat)} {left left' : List (Value × Value)} {p : Value × Value} (hnd : NdI rest) (hm : ∀ q, q ∈ left ↔ q ∈ rest.map pE) (hp : p ∈ left) (h1 : ∀ q ∈ left, q = p ∨ q ∈ left') (h2 : ∀ q ∈ left', q ∈ left ∧ q.1 ≠ p.1) :
    ∃ A a C, rest = A ++ a :: C ∧ p = pE a ∧ NdI (A ++ C) ∧ ∀ q, q ∈ left' ↔ q ∈ (A ++ C).map pE := by
  obtain ⟨a, ha, rfl⟩ := List.mem_map.1 ((hm p).1 hp)
  obtain ⟨A, C, rfl⟩ := List.append_of_mem ha
  have hs : ((A ++ C).map Prod.fst).Sublist ((A ++ a :: C).map Prod.fst) := ((List.Sublist.refl A).append (List.sublist_cons_self _ _)).map _
  have hkey : ∀ b ∈ A ++ C, b.1 ≠ a.1 := fun b hb e => by
    rw [NdI, List.map_append, List.map_cons] at hnd
    have h3 := List.nodup_append.1 hnd
    rcases List.mem_append.1 hb with hb | hb
    · exact h3.2.2 _ (List.mem_map_of_mem hb) _ (by simp) e
    · exact (List.nodup_cons.1 h3.2.1).1 (by rw [← e]; exact List.mem_map_of_mem hb)
  refine ⟨A, a, C, rfl, rfl, hnd.sublist hs, fun q => ⟨fun hq => ?_, fun hq => ?_⟩⟩
  · obtain ⟨hq1, hq2⟩ := h2 q hq
    obtain ⟨b, hb, rfl⟩ := List.mem_map.1 ((hm q).1 hq1)
    refine List.mem_map_of_mem ?_
    rcases List.mem_append.1 hb with hb | hb
    · exact List.mem_append.2 (.inl hb)
    · rcases List.mem_cons.1 hb with rfl | hb
      · exact absurd rfl hq2
      · exact List.mem_append.2 (.inr hb)
  · obtain ⟨b, hb, rfl⟩ := List.mem_map.1 hq
    have hb2 : b ∈ A ++ a :: C := by
      rcases List.mem_append.1 hb with hb | hb
      · exact List.mem_append.2 (.inl hb)
      · exact List.mem_append.2 (.inr (by simp [hb]))
    rcases h1 _ ((hm _).2 (List.mem_map_of_mem hb2)) with h | h
    · exact absurd (by rw [pE_inj h]) (hkey b hb)
    · exact h
theorem putI_other (w : World) (g : Nat) (d : Array Int) (m : Nat) (os : Array Obj) {b : Nat} (hb : b ≠ g) (h : b < w.heap.size) : (grow (putRow iV (Sort.ahead w m) g 0 d) os).heap[b]? = w.heap[b]? := by
  rw [heap_grow_old _ _ (by unfold putRow mapBlock; simpa [Sort.ahead] using h)]
  unfold putRow mapBlock Sort.ahead
  simp only [Array.getElem?_modify]
  rw [if_neg (Ne.symm hb)]
theorem putI_same (w : World) (g : Nat) (d : Array Int) (m : Nat) (os : Array Obj) {cur : Array Value} {e : TypeId} (h : w.heap[g]? = some (.cells cur e (0, 0))) : (grow (putRow iV (Sort.ahead w m) g 0 d) os).heap[g]? = some (.cells (putCells iV 0 d cur) e (0, 0)) := by
  have hl : g < w.heap.size := (Array.getElem?_eq_some_iff.1 h).1
  rw [heap_grow_old _ _ (by unfold putRow mapBlock; simpa [Sort.ahead] using hl)]
  unfold putRow mapBlock Sort.ahead
  simp only [Array.getElem?_modify]
  rw [if_pos trivial, h]; rfl
theorem putI_take (d : Array Int) (cur : Array Value) (h : d.size ≤ cur.size) : (putCells iV 0 d cur).toList.take d.size = d.toList.map iV := by
  apply List.ext_getElem?
  intro k
  rw [List.getElem?_take]
  unfold putCells
  by_cases hk : k < d.size
  · rw [if_pos hk]
    have hc : k < cur.size := by omega
    simp [hc, hk, getElem!_pos d k hk]
  · rw [if_neg hk]
    simp [hk]
def leI (x y : Int) : Bool := decide (x ≤ y)
theorem sortNilI_fn (w : World) : Fn Tryz.prog 45 #[.slice none 0 0] w fun r w' => w' = w ∧ True :=
  Fn.of_calls Tryz.func45 (by decide +kernel) rfl ((Any.slices_Sort_int_none Tryz.lays189 none 0 w).mono fun e w' h => ⟨_, h.1, h.2, trivial⟩)
theorem sortI_fn {B g cap : Nat} {w0 w : World} {F : List Res} (ss : List Int) (hn : ss.length ≤ 1000000) (hL : Sep Tryz.prog B w0 w (.row 3 1 (.slice (some ⟨g, 0, none⟩) ss.length cap) ss.length (ss.map iV) :: F)) (hB : B ≤ w.heap.size) :
    Fn Tryz.prog 45 #[.slice (some ⟨g, 0, none⟩) ss.length cap] w fun r w' => Owns B w0 w' (.row 3 1 (.slice (some ⟨g, 0, none⟩) ss.length cap) ss.length ((ss.mergeSort leI).map iV) :: F) := by
  have hrow : w.ownsRow 0 3 1 (.slice (some ⟨g, 0, none⟩) ss.length cap) ss.length (ss.map iV) := hL.at (i := 0) rfl
  rcases hrow.2 with ⟨e, _⟩ | ⟨g', cap', cur, e, hbg, hh, hc1, hc2, hc3, hc4⟩
  · cases e
  injection e with e1 e2 e3
  injection e1 with e1
  injection e1 with e1
  subst e1; subst e3
  have hlt : g < w.heap.size := (Array.getElem?_eq_some_iff.1 hh).1
  rw [Nat.mul_one] at hc3 hc4
  have hcell : ∀ j, j < ss.length → cur[j]? = some (iV ss.toArray[j]!) := fun j hj => by
    have := congrArg (fun l => l[j]?) hc4
    simp only [List.getElem?_take, List.getElem?_map] at this
    rw [if_pos (by omega)] at this
    simpa [hj] using this
  have hH : Holds (Value.int .i64) w g 0 ss.toArray := by
    intro j hj
    rw [List.size_toArray] at hj
    constructor
    · rw [Nat.zero_add]
      simp only [World.cell?, hh]
      exact hcell j hj
    · have hb : Blk w g cur.toList 3 := hh
      exact hb.nofz _
  have hcall := Any.slices_Sort_int Tryz.lays189 g 0 cap ss w hH hlt (by omega)
  refine Fn.of_calls Tryz.func45 (by decide +kernel) rfl (hcall.mono fun e w' ⟨he, n, os, hw⟩ => ⟨_, he, ?_⟩)
  have hw : w' = grow (putRow iV (Sort.ahead w n) g 0 (ss.mergeSort leI).toArray) os := hw
  have hml : (ss.mergeSort leI).length = ss.length := List.length_mergeSort _
  generalize (ss.mergeSort leI) = ms at hw hml
  have hg : w.grownBy w' (some g) := by
    subst hw
    exact ⟨rfl, rfl, rfl, by simp [putRow, mapBlock, Sort.ahead], fun k hk hne => putI_other _ _ _ _ _ (fun e => hne (by rw [e])) hk⟩
  have hown : w'.ownsRow 0 3 1 (.slice (some ⟨g, 0, none⟩) ss.length cap) ss.length (ms.map iV) := by
    refine ⟨by rw [List.length_map]; omega, .inr ⟨g, cap, _, rfl, hbg, by rw [hw]; exact putI_same w g _ n os hh, hc1, hc2, by simp [putCells, hc3], ?_⟩⟩
    have := putI_take ms.toArray cur (by rw [List.size_toArray]; omega)
    rw [List.size_toArray, hml] at this
    rw [Nat.mul_one, this]
  have h2 := hL.step (i := 0) rfl hB (Turns.of_grown hg) (R' := .row 3 1 (.slice (some ⟨g, 0, none⟩) ss.length cap) ss.length (ms.map iV)) hown (fun b hb => .inl hb) (by simp [Res.blocks, Value.ownBlock, rowB])
  exact ⟨h2, Nat.le_trans hB hg.size⟩
/-- the keys come, each once, in some order -/
theorem keys1I (l Bm b : Nat) (ps : List (Int × Nat)) (J Jx : List Int → World → Prop)
    (hY : ∀ pre x W, J pre W → pre.length < ps.length → YieldAt Fence.wide 1 Tryz.prog l #[iV x] W fun e W' => (e = .returned (.bool true) ∧ J (pre ++ [x]) W' ∧ KeepsWalks W W') ∨ (e = .returned (.bool false) ∧ Jx (pre ++ [x]) W'))
    (W : World) (hJ : AbidesFrom W.heap.size J) (hm : W.cell? ⟨Bm, 0, none⟩ = some (.map (some b))) (hmp : Mp Tryz.prog 3 W b (ps.map pE)) (hnd : NdI ps) (h0 : J [] W) :
    CallsIn Fence.wide 2 Tryz.prog 46 #[.func (.yield l) #[] #[], .pointer (some ⟨Bm, 0, none⟩)] W fun e W' => (∃ v, e = .returned v) ∧ ((∃ ss : List Int, ss.Perm (ps.map Prod.fst) ∧ J ss W') ∨ ∃ pre : List Int, True ∧ Jx pre W') := by
  have u0 := run_underlying Tryz.underlying0
  refine callsIn_of_wp Tryz.func46 rfl trivial ?_ rfl
  simp only [Tryz.ntmps46, List.size_toArray, List.length_cons, List.length_nil, Nat.reduceAdd, Nat.reduceSub, Array.replicate_succ, Array.replicate_zero, List.push_toArray, List.append_toArray, List.nil_append, List.cons_append]
  obtain ⟨w1, hr1, hit1, hg1⟩ := hmp.range ttOk tl58
  have hJ1 : J [] w1 := hJ [] W w1 none h0 hg1 (fun r e => by cases e)
  gi_wp2_with (first
    | (gi_at_range; refine wplRange rfl _ _ rfl rfl hr1 ?_)
    | gi_in)
  go_frame
  gi_loopw [3] (fun _ wr => ∃ (rest : List (Int × Nat)) (left : List (Value × Value)) (cur : Option (Value × Value)) (ss : List Int), Its Tryz.prog 3 wr W.heap.size b (ps.map pE) left cur ∧ NdI rest ∧ (∀ q, q ∈ left ↔ q ∈ rest.map pE) ∧ (ss ++ rest.map Prod.fst).Perm (ps.map Prod.fst) ∧ J ss wr)
    (fun _ wr => leftN Tryz.prog 3 W.heap.size b (ps.map pE) wr)
  case atStart => exact ⟨ps, _, _, [], hit1, hnd, fun q => .rfl, by simp, hJ1⟩
  case round =>
    obtain ⟨rest, left, cur, ss, hit, hndr, hm, hp, hJs⟩ := hrel
    rcases hit.next 0 with ⟨hl, hrun⟩ | ⟨p, left', w2, hrun, hpl, hpL, hlen, hq1, hq2, hit2, hg2⟩
    · have hr0 : rest = [] := by
        cases rest with
        | nil => rfl
        | cons a l => exact absurd ((hm (pE a)).2 (by simp)) (by rw [hl]; simp)
      subst hr0
      gi_wp2_with (first
        | (gi_at_next; refine wplNext rfl _ rfl rfl hrun ?_)
        | gi_in)
      go_end0
      exact ⟨⟨_, rfl⟩, .inl ⟨ss, by simpa using hp, hJs⟩⟩
    · obtain ⟨A, a, C, hre, hpa, hnd', hm'⟩ := tookI hndr hm hpl hq1 hq2
      subst hpa
      have hJ2 : J ss w2 := hJ ss wr w2 (some W.heap.size) hJs hg2 (fun r e => by cases e; exact ⟨Nat.le_refl _, hit.isWalk⟩)
      have hlen2 := hp.length_eq
      rw [hre] at hlen2
      simp only [List.length_append, List.length_map, List.length_cons] at hlen2
      obtain ⟨fn, tmps, assign, body, hy, hR⟩ := hY ss a.1 w2 hJ2 (by omega)
      have hen := hit2.entry
      simp only [pE] at hen hrun
      have hy : (Instr.yield l #[iV a.1]).run Tryz.prog w2 = .ok (.round l fn tmps assign body) w2 := hy
      gi_wp2_with (first
        | (gi_at_next; refine wplNext rfl _ rfl rfl hrun ?_)
        | gi_in)
      refine hR.mono ?_
      rintro e W3 (⟨rfl, hJ3, hk3⟩ | ⟨rfl, hx3⟩)
      case inr =>
        gi_wp2
        refine bodyPost_ret (results_none rfl _ _ _) rfl ?_
        exact ⟨⟨_, rfl⟩, .inr ⟨_, trivial, hx3⟩⟩
      gi_wp2
      have hit3 := hit2.walks hk3
      go_roundw
      case rel =>
        refine ⟨A ++ C, _, _, ss ++ [a.1], hit3, hnd', hm', ?_, hJ3⟩
        refine List.Perm.trans ?_ hp
        rw [hre]
        simp only [List.map_append, List.map_cons, List.append_assoc, List.cons_append, List.nil_append]
        exact List.Perm.append_left _ (List.perm_middle.symm)
      case measure =>
        rw [hit3.leftN, hit.leftN]
        exact hlen
theorem keysGiveI (Bm b : Nat) (ps : List (Int × Nat)) (hnd : NdI ps) (w : World) (hBm : Bm < w.heap.size) (hm : w.cell? ⟨Bm, 0, none⟩ = some (.map (some b))) (hmp : Mp Tryz.prog 3 w b (ps.map pE)) :
    SeqStopsK Fence.wide 2 Tryz.prog 46 #[.pointer (some ⟨Bm, 0, none⟩)] (fun x => #[iV x]) KeepsWalks (fun ss => ss.Perm (ps.map Prod.fst)) (fun _ => True) ps.length w := fun l J Jx W hW hJ hJx hY h0 => by
  have hmp' : Mp Tryz.prog 3 W b (ps.map pE) := by
    obtain ⟨⟨es, c, h1, h2, h3⟩, h4⟩ := hmp
    exact ⟨⟨es, c, (hW.block b (Array.getElem?_eq_some_iff.1 h1).1).trans h1, h2, h3⟩, h4⟩
  exact keys1I l Bm b ps J Jx hY W hJ ((hW.cell (p := ⟨Bm, 0, none⟩) hBm).trans hm) hmp' hnd h0
/-- between two rounds -/
def apN (w : World) (Bs : Nat) (ss : List Int) (W : World) : Prop := ∃ v, W.heap[Bs]? = some (.cells #[v] 40 (0, 0)) ∧ W.ownsRow w.heap.size 3 1 v ss.length (ss.map iV) ∧ (v = .slice none 0 0 ↔ ss = []) ∧ Below w.heap.size w W
theorem apOwnN (w : World) (Bs : Nat) {B : Nat} (hB : w.heap.size ≤ B) : OwnFrom B (apN w Bs) := by
  rintro ss W W' row ⟨v, h1, h2, h3, h4⟩ hg hrow
  have hrow' : ∀ r, row = some r → ∃ o : Obj, W.heap[r]? = some o ∧ o.isCells = false := fun r e => (hrow r e).2
  refine ⟨v, (grownBy_keeps_cells hg hrow' h1 rfl).trans h1, h2.kept hg ?_, h3, h4.grown hg h4.size fun k e => Nat.le_trans hB (hrow k e).1⟩
  rcases h2.2 with ⟨rfl, _⟩ | ⟨g, cap, cur, rfl, _, hgb, _⟩
  · exact .inl rfl
  · refine .inr fun e => ?_
    obtain ⟨o, ho, hc⟩ := hrow' g e.symm
    rw [hgb] at ho
    cases ho
    cases hc
set_option maxHeartbeats 2000000 in
theorem appendSeqI (g : Nat) (lb : Array Value) (eg : ∀ args w, (callFunc g args).run Tryz.prog w = .ok (.enter g args) w) (S Sp : List Int → Prop) (N : Nat) (hN : N ≤ 2305843009213693951) (hNb : N * 8 ≤ 140737488355328) (w : World) (hseq : SeqStopsK Fence.wide 2 Tryz.prog g lb (fun x => #[iV x]) KeepsWalks S Sp N w) :
    CallsIn Fence.wide 3 Tryz.prog 66 #[.slice none 0 0, .func (.func g) #[] lb] w fun e w' => ∃ (v : Value) (ss : List Int), e = .returned v ∧ S ss ∧ w'.ownsRow w.heap.size 3 1 v ss.length (ss.map iV) ∧ (v = .slice none 0 0 ↔ ss = []) ∧ Below w.heap.size w w' := by
  refine callsIn_of_wp_marks Tryz.func66 rfl trivial ?_ rfl
  simp only [Tryz.ntmps66, List.size_toArray, List.length_cons, List.length_nil, Nat.reduceAdd, Nat.reduceSub, Array.replicate_succ, Array.replicate_zero, List.push_toArray, List.append_toArray, List.nil_append, List.cons_append]
  gi_wp2
  obtain ⟨W0, hW0⟩ : ∃ W0, w.alloc (.cells #[.slice none 0 0] 40) = W0 := ⟨_, rfl⟩
  have hs0 : W0.heap.size = w.heap.size + 1 := by rw [← hW0]; simp
  have hv0 : W0.heap[w.heap.size]? = some (.cells #[.slice none 0 0] 40 (0, 0)) := by rw [← hW0]; exact World.alloc_heap_new w _
  have hb0 : Below w.heap.size w W0 := by rw [← hW0]; exact (Below.refl _ w).alloc (Nat.le_refl _) _
  rw [hW0]
  refine wpIn_rangeFunc_ownF rfl (by decide) (gf := g) (lb := lb) rfl trivial eg hseq (fun h k => h.trans k) (fun W l o o' _ h _ hw => KeepsWalks.putObj _ h hw) hb0 (fun _ => rfl) (apN w w.heap.size) (fun _ _ _ => False) (apOwnN _ _ hb0.size) (fun _ _ _ _ _ hs _ _ => hs) ?h0 (fun x => { tmps := #[.slice none 0 0, .func (.func g) #[] lb, .pointer (some ⟨w.heap.size, 0, none⟩), undef, .slice none 0 0, iV x, .func (.func g) #[] lb, iV x, undef, undef, undef, undef, undef], defers := [] }) ?hassign ?hbody ?hdone ?hstop
  case h0 => exact ⟨_, hv0, ⟨rfl, .inl ⟨rfl, rfl⟩⟩, by simp, hb0⟩
  case hassign =>
    intro l x W K hK
    gi_wp2_with gi_round_op_a
    exact hK
  case hstop => intro D c pre W _ _ h; exact h.elim
  case hbody =>
    intro l pre x W hI hlt
    obtain ⟨v, h1, h2, h3, h4⟩ := hI
    obtain ⟨hc, hf⟩ := cell_of_box_a h1
    obtain ⟨i0, hi, hz0, hz1, hz2⟩ := (ttOk _ _ tl3).inf
    have u49 := run_underlying Tryz.underlying40
    have hBs : w.heap.size < W.heap.size := (Array.getElem?_eq_some_iff.1 h1).1
    have hne : some w.heap.size ≠ v.ownBlock := fun e => by
      rcases ownsRow_ne_a h2 h1 (fun cur e => by cases e) with h | h
      · rw [h] at e; cases e
      · exact h e.symm
    rw [show iV x = Value.int .i64 x from rfl]
    gi_wp2_with (first
      | (gi_at_builtin; refine wpListIn_append_own _ rfl _ _ 40 rfl w.heap.size 3 i0 (.int .i64 0) 1 8 Tryz.underlying40 hi hz0 hz1 hz2 rfl (by decide) _ _ _ rfl (h2.alloc _) ⟨W.heap.size, 0, none⟩ 1 1 [iV x] rfl rfl (cell_one_new _ _ _) (by simp [Value.oneCell', iV]) (by simp only [maxLen]; omega) (by omega) (by simp; omega) ?_; intro v' w3 hown' hg3 hnil3
         have hg3 : (W.alloc (.cells #[iV x] 3)).grownBy w3 v.ownBlock := hg3
         have hv3 : w3.heap[w.heap.size]? = some (.cells #[v] 40 (0, 0)) := (hg3.block _ (by simp; omega) hne).trans ((Below.heap_alloc _ _ _ hBs).trans h1)
         obtain ⟨hc3, hf3⟩ := cell_of_box_a hv3
         obtain ⟨g', cap', cur', rfl, hbase', hgb', hr1, hr2, hr3, hr4⟩ : ∃ g' cap' cur', v' = .slice (some ⟨g', 0, none⟩) (pre.length + 1) cap' ∧ w.heap.size ≤ g' ∧ w3.heap[g']? = some (.cells cur' 3 (0, 0)) ∧ pre.length + 1 ≤ cap' ∧ cap' ≤ maxLen ∧ cur'.size = cap' * 1 ∧ cur'.toList.take ((pre.length + 1) * 1) = pre.map iV ++ [iV x] := by
           rcases hown'.2 with ⟨_, h0⟩ | h'
           · exact absurd h0 (by omega)
           · exact h'
         go_frame)
      | gi_round_op_a)
    refine ⟨?_, ?_, ⟨_, heap_setCell_box_a _ hv3, ?_, by simp, ?_⟩⟩
    · refine ((KeepsOthers.alloc _ _).trans (KeepsOthers.of_grownBy hg3 fun j o hj ho => ?_)).trans (KeepsOthers.setCell _ _ _)
      rcases (h2.alloc (.cells #[iV x] 3)).2 with ⟨rfl, _⟩ | ⟨g2, cap2, cur2, rfl, _, hgb2, _⟩
      · cases hj
      · cases hj
        rw [hgb2] at ho
        cases ho
        rfl
    · exact ((KeepsWalks.alloc _ _).trans (KeepsWalks.of_grownBy hg3 (ownsRow_not_walk_a (h2.alloc _)))).trans (KeepsWalks.setCell _ _ _)
    · have := hown'.kept (grownBy_setCell0_a w3 w.heap.size (.slice (some ⟨g', 0, none⟩) (pre.length + 1) cap')) (ownsRow_ne_a hown' hv3 (fun cur e => by cases e))
      simpa using this
    · exact ((h4.alloc h4.size _).grown hg3 (by have := h4.size; simp; omega) (fun k e => (h2.lt k e).1)).grown (grownBy_setCell0_a _ _ _) (by have := hg3.size; have := h4.size; simp at *; omega) (fun k e => by cases e; exact Nat.le_refl _)
  case hdone =>
    intro D xs W hD hS hI hK
    obtain ⟨v, h1, h2, h3, h4⟩ := hI
    obtain ⟨hc, hf⟩ := cell_of_box_a h1
    gi_wp2
    refine ⟨by simp, .inl ⟨_, _, rfl, run_takeDeferred hK, ?_⟩⟩
    exact ⟨_, results_tmp rfl _ _ _, v, xs, rfl, hS, h2.kept (grownBy_putObj_a _ _ _) (ownsRow_ne_a h2 hK (fun cur e => by cases e)), h3, h4.grown (grownBy_putObj_a _ _ _) h4.size (fun k e => by cases e; omega)⟩
set_option maxHeartbeats 1000000 in
theorem collectI (g : Nat) (lb : Array Value) (eg : ∀ args w, (callFunc g args).run Tryz.prog w = .ok (.enter g args) w) (S Sp : List Int → Prop) (N : Nat) (hN : N ≤ 2305843009213693951) (hNb : N * 8 ≤ 140737488355328) (w : World) (hseq : SeqStopsK Fence.wide 2 Tryz.prog g lb (fun x => #[iV x]) KeepsWalks S Sp N w) :
    Fn Tryz.prog 44 #[.func (.func g) #[] lb] w fun r w' => ∃ ss : List Int, S ss ∧ w'.ownsRow w.heap.size 3 1 r ss.length (ss.map iV) ∧ (r = .slice none 0 0 ↔ ss = []) ∧ Below w.heap.size w w' := by
  have ha : Fn Tryz.prog 66 #[.slice none 0 0, .func (.func g) #[] lb] w fun r w' => ∃ ss : List Int, S ss ∧ w'.ownsRow w.heap.size 3 1 r ss.length (ss.map iV) ∧ (r = .slice none 0 0 ↔ ss = []) ∧ Below w.heap.size w w' :=
    Fn.of_calls Tryz.func66 (by decide +kernel) rfl ((callsIn_wide.1 (appendSeqI g lb eg S Sp N hN hNb w hseq)).mono fun e w' ⟨v, ss, h1, h2⟩ => ⟨v, h1, ss, h2⟩)
  have hL := Sep.start Tryz.prog w
  have hB := Nat.le_refl w.heap.size
  refine Fn.mk Tryz.func44 rfl (by kernel_rfl) Tryz.ntmps44 rfl (by rw [Tryz.results44]) ?_
  repeat (first | (refine RunH ?_; intro w hL hB; try clear w) | (refine Both.mk ?_ ?_ <;> conv => whnf) | fail)
  refine ha.mono fun r w' ⟨ss, h1, h2, h3, h4⟩ => ?_
  conv => whnf
  have hL := Sep.start Tryz.prog w'
  have hB := Nat.le_refl w'.heap.size
  repeat (first | (refine RunH ?_; intro w hL hB; try clear w) | (refine Both.mk ?_ ?_ <;> conv => whnf) | fail)
  exact ⟨ss, h1, h2, h3, h4⟩
def sortedI (ps : List (Int × Nat)) : List Int := (ps.map Prod.fst).mergeSort leI
theorem leI_trans : ∀ (x y z : Int), leI x y = true → leI y z = true → leI x z = true := fun x y z h1 h2 => by simp only [leI, decide_eq_true_eq] at *; omega
theorem leI_total : ∀ (x y : Int), (leI x y || leI y x) = true := fun x y => by simp only [leI, Bool.or_eq_true, decide_eq_true_eq]; omega
theorem mergeI_of_perm {a b : List Int} (h : a.Perm b) : a.mergeSort leI = b.mergeSort leI := by
  have s1 := List.pairwise_mergeSort leI_trans leI_total a
  have s2 := List.pairwise_mergeSort leI_trans leI_total b
  refine List.Perm.eq_of_pairwise (le := fun x y => leI x y = true) ?_ s1 s2 ?_
  · intro x y _ _ h1 h2
    simp only [leI, decide_eq_true_eq] at h1 h2
    omega
  · exact (List.mergeSort_perm a leI).trans (h.trans (List.mergeSort_perm b leI).symm)
section
variable {B : Nat} {w0 w : World} {L : List Res} {ps : List (Int × Nat)} {m : Nat}
theorem keysFnI (i : Nat) (hi : L[i]? = some (.mp 3 m (ps.map pE))) (hL : Sep Tryz.prog B w0 w L) (hB : B ≤ w.heap.size) :
    Fn Tryz.prog 29 #[.map (some m)] w fun r w' => ∃ c, r = .func (.func 46) #[] #[.pointer (some ⟨c, 0, none⟩)] ∧ Owns B w0 w' (.blk c [.map (some m)] 58 :: L) := by
  refine Fn.mk Tryz.func29 rfl (by kernel_rfl) Tryz.ntmps29 rfl (by rw [Tryz.results29]) ?_
  repeat (first | (refine RunH ?_; intro w hL hB; try clear w) | (refine Both.mk ?_ ?_ <;> conv => whnf) | fail)
  (refine Nw.sep hL hB (fun c w hL hB hc => ?_); conv => whnf)
  repeat (first | (refine RunH ?_; intro w hL hB; try clear w) | (refine Both.mk ?_ ?_ <;> conv => whnf) | fail)
  exact ⟨c, rfl, hL, hB⟩
set_option maxHeartbeats 1000000 in
theorem sortedFnI (c i : Nat) (hi : L[i]? = some (.mp 3 m (ps.map pE))) (hnd : NdI ps) (hps : ps.length ≤ 1000000) (hL : Sep Tryz.prog B w0 w (.blk c [.map (some m)] 58 :: L)) (hB : B ≤ w.heap.size) :
    Fn Tryz.prog 28 #[.func (.func 46) #[] #[.pointer (some ⟨c, 0, none⟩)]] w fun r w' => Owns B w0 w' (.row 3 1 r ps.length ((sortedI ps).map iV) :: L) := by
  have hblk : Blk w c [.map (some m)] 58 := hL.at (i := 0) rfl
  have hi2 : (Res.blk c [.map (some m)] 58 :: L)[i + 1]? = some (.mp 3 m (ps.map pE)) := by simpa using hi
  have hmp : Mp Tryz.prog 3 w m (ps.map pE) := hL.at hi2
  have hseq := keysGiveI c m ps hnd w hblk.lt (hblk.cell (i := 0) rfl) hmp
  have hc := collectI _ _ (enters_of Tryz.func46 (by kernel_rfl) rfl) _ _ ps.length (by omega) (by omega) w hseq
  refine Fn.mk Tryz.func28 rfl (by kernel_rfl) Tryz.ntmps28 rfl (by rw [Tryz.results28]) ?_
  repeat (first | (refine RunH ?_; intro w hL hB; try clear w) | (refine Both.mk ?_ ?_ <;> conv => whnf) | fail)
  refine hc.mono fun r w ⟨ss, hp, ho, hnil, hw⟩ => ?_
  have hlen : ss.length = ps.length := by have := hp.length_eq; simpa using this
  have hsrt : ss.mergeSort leI = sortedI ps := mergeI_of_perm hp
  replace hL := hL.addRow hB hw ho
  replace hB := Nat.le_trans hB hw.size
  rcases ho.2 with ⟨rfl, hz⟩ | ⟨g, cap, cur, rfl, _⟩
  · have hss : ss = [] := List.eq_nil_of_length_eq_zero hz
    subst hss
    conv => whnf
    repeat (first | (refine RunH ?_; intro w hL hB; try clear w) | (refine Both.mk ?_ ?_ <;> conv => whnf) | fail)
    refine (sortNilI_fn _).mono fun r w' ⟨hw', _⟩ => ?_
    rw [hw']
    conv => whnf
    repeat (first | (refine RunH ?_; intro w hL hB; try clear w) | (refine Both.mk ?_ ?_ <;> conv => whnf) | fail)
    rw [← hsrt, ← hlen, List.mergeSort_nil]
    exact ⟨hL.sub (.cons_cons _ (.cons _ (.refl _))), hB⟩
  · have hL : Sep Tryz.prog B w0 w (.row 3 1 (.slice (some ⟨g, 0, none⟩) ss.length cap) ss.length (ss.map iV) :: .blk c [.map (some m)] 58 :: L) := hL
    conv => whnf
    repeat (first | (refine RunH ?_; intro w hL hB; try clear w) | (refine Both.mk ?_ ?_ <;> conv => whnf) | fail)
    refine (sortI_fn ss (by omega) hL hB).mono fun r w ⟨hL, hB⟩ => ?_
    rw [hsrt] at hL
    conv => whnf
    repeat (first | (refine RunH ?_; intro w hL hB; try clear w) | (refine Both.mk ?_ ?_ <;> conv => whnf) | fail)
    rw [← hlen]
    exact ⟨hL.sub (.cons_cons _ (.cons _ (.refl _))), hB⟩
end
end Go.Proofs.YtcjnaljdbbjojaaGreatDoor
