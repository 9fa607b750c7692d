/- maps.Keys at map[uint64]api.Place: the iterator. slices.Sorted(maps.Keys(m)) at map[uint64]api.Place. Needles, plain: what was encoded is decoded. Nothing is claimed here. -/
import Derived.Test.YtladfadcgfdbfaaGreatDoorD12
import Derived.Test.YtladfadcgfdbfaaGreatDoorD22
import Derived.RangeFuncSeq
import Derived.RangeFuncGives
import Derived.RangeFuncBound
import Derived.RangeFuncStops
import Derived.RangeFuncOwn
import Derived.RangeFuncKeeps
import Derived.RangeFuncFrom
import Derived.Maps.AppendAt
import Derived.Sort.MapsRangeIn
import Derived.WalkKit
import Derived.OwnWalkIn
import Derived.TacticsInMore
import Derived.RegionIn
import Derived.LoopNIn
import Derived.LoopIn
import Derived.Shelf.AbstractIn
import Derived.Shelf.SlIter.Nil
import Derived.Test.YtladfadcgfdbfaaGreatDoorD16
namespace Go.Proofs.YtladfadcgfdbfaaGreatDoor
open Go.RowKit
open Go.Maps (Keyed)
set_option linter.unusedVariables false
set_option linter.unusedSimpArgs false
set_option maxRecDepth 100000
section
variable {P : Program} {k : TypeId} {w w' : World} {r b : Nat} {l left : List (Value × Value)} {cur : Option (Value × Value)}
theorem Mp.walks (h : Mp P k w b l) (hk : KeepsWalks w w') : Mp P k w' b l := by
  obtain ⟨⟨es, c, h1, h2, h3⟩, h4⟩ := h
  exact ⟨⟨es, c, hk.same b _ h1 rfl, h2, h3⟩, h4⟩
theorem Its.walks (h : Its P k w r b l left cur) (hk : KeepsWalks w w') : Its P k w' r b l left cur := by
  obtain ⟨⟨es, c, since, seen, c0, e1, e2, e3, e4, e5⟩, e6⟩ := h
  exact ⟨⟨es, c, since, seen, c0, hk.same b _ e1 rfl, e2, e3, hk.same r _ e4 rfl, e5⟩, e6⟩
theorem Its.isWalk (h : Its P k w r b l left cur) : ∃ o : Obj, w.heap[r]? = some o ∧ o.isWalk = true := by
  obtain ⟨⟨es, c, since, seen, c0, e1, e2, e3, e4, e5⟩, e6⟩ := h
  exact ⟨_, e4, rfl⟩
/-- a step of the walk -/
theorem Its.next (h : Its P k w r b l left cur) (ty : TypeId) : (left = [] ∧ (Instr.next (.pointer (some ⟨r, 0, none⟩)) false ty).run P w = .ok (.tuple #[.bool false]) w) ∨
    ∃ p left' w', (Instr.next (.pointer (some ⟨r, 0, none⟩)) false ty).run P w = .ok (.tuple #[.bool true, p.1, p.2]) w' ∧ p ∈ left ∧ p ∈ l ∧ left'.length < left.length ∧ (∀ q ∈ left, q = p ∨ q ∈ left') ∧ (∀ q ∈ left', q ∈ left ∧ q.1 ≠ p.1) ∧ Its P k w' r b l left' (some p) ∧ w.grownBy w' (some r) := by
  have hi := h
  obtain ⟨⟨es, c, since, seen, c0, e1, e2, e3, e4, e5, e6, e7, rfl, e9⟩, e10⟩ := hi
  have hrb : r ≠ b := fun e => by subst e; rw [e1] at e4; cases e4
  rcases run_next_at (P := P) w ty r b since c0 seen es c e4 e1 e5 e6 with ⟨q1, q2⟩ | ⟨e, he, w1, hw1, q2⟩
  · exact .inl ⟨by rw [Array.eq_empty_of_size_eq_zero q1]; rfl, q2⟩
  · have hml := mem_left he
    have hr1 : w1.heap[r]? = some (.mapIter (some b) since seen c0) := by rcases hw1 with rfl | rfl <;> exact e4
    have hb1 : w1.heap[b]? = some (.map es c) := by rcases hw1 with rfl | rfl <;> exact e1
    have hg : w.grownBy (ChangeMaps.setBlock w1 r (.mapIter (some b) since (seen.push e.born) c)) (some r) := by
      rcases hw1 with rfl | rfl
      · exact grownBy_setBlock _ _ _
      · exact ⟨rfl, rfl, rfl, by simp [ChangeMaps.setBlock], fun i _ hi => setB_other _ _ _ (fun e => hi (by rw [e]))⟩
    refine .inr ⟨kv e, (leftOf es (seen.push e.born)).toList.map kv, _, q2, List.mem_map_of_mem he, ?_, ?_, ?_, ?_, ?_, hg⟩
    · rw [← e3]; exact List.mem_map_of_mem hml.1
    · have := left_shrinks es seen e he
      simpa using this
    · intro q hq
      obtain ⟨x, hx, rfl⟩ := List.mem_map.1 hq
      by_cases hb : x.born = e.born
      · have hxm := mem_left hx
        left
        have := find_born x es.toList e2.2.1 hxm.1
        have h' := find_born e es.toList e2.2.1 hml.1
        rw [hb, h'] at this
        injection this with this
        rw [this]
      · right
        refine List.mem_map_of_mem ?_
        have hxm := mem_left hx
        unfold leftOf
        simp only [Array.toList_filter, List.mem_filter]
        refine ⟨hxm.1, ?_⟩
        have h2 := hxm.2
        simp only [Array.contains_push, Bool.not_or, Bool.and_eq_true, Bool.not_eq_true', beq_eq_false_iff_ne]
        exact ⟨h2, hb⟩
    · intro q hq
      obtain ⟨x, hx, rfl⟩ := List.mem_map.1 hq
      have hxm := mem_left hx
      have h2 := hxm.2
      simp only [Array.contains_push, Bool.or_eq_false_iff, beq_eq_false_iff_ne] at h2
      refine ⟨List.mem_map_of_mem ?_, ?_⟩
      · unfold leftOf
        simp only [Array.toList_filter, List.mem_filter]
        exact ⟨hxm.1, by simpa using h2.1⟩
      · intro hk
        have hxe : x = e := Rv.next.entry_eq_of_key' e2.2.2 hxm.1 hml.1 hk
        subst hxe
        exact h2.2 rfl
    · refine ⟨⟨es, c, since, seen.push e.born, c, ?_, e2, e3, setB_same _ _ _ hr1, e5, e7, e7, rfl, fun p hp => ?_⟩, e10⟩
      · rw [setB_other _ _ _ (fun hh => hrb hh.symm)]; exact hb1
      · injection hp with hp
        exact ⟨e, seen, hml.1, hp, rfl, rfl⟩
theorem Its.entry {p : Value × Value} (h : Its P k w r b l left (some p)) : (Instr.entry (.pointer (some ⟨r, 0, none⟩))).run P w = .ok (.tuple #[p.1, p.2]) w := by
  obtain ⟨⟨es, c, since, seen, c0, e1, e2, e3, e4, e5, e6, e7, e8, e9⟩, e10⟩ := h
  obtain ⟨e, seen', he, rfl, rfl, rfl⟩ := e9 p rfl
  exact run_entry_at (P := P) w r b since seen' es c0 e e4 e1 he e2.2.1
theorem Mp.range {T : Tab} (hT : TabOk P T) {t e : TypeId} {s b' : Nat} {z : Value} (ht : look T t = some ⟨.map k e, s, b', z⟩) (hm : Mp P k w b l) :
    ∃ w', (Instr.range t (.map (some b))).run P w = .ok (.pointer (some ⟨w.heap.size, 0, none⟩)) w' ∧ Its P k w' w.heap.size b l l none ∧ w.grownBy w' none := by
  obtain ⟨v, w', h1, h2, h3, h4⟩ := (Rv.range (K := fun v w' => v = .pointer (some ⟨w.heap.size, 0, none⟩) ∧ Its P k w' w.heap.size b l l none ∧ w.grownBy w' none) hT ht hm fun w' hi hg => ⟨rfl, by
    obtain ⟨es, c, since, seen, c0, h1, h2, h3, h4, h5, h6, h7, h8⟩ := hi
    exact ⟨⟨es, c, since, seen, c0, h1, h2, h3, h4, h5, h6, h7, h8, fun p hp => by cases hp⟩, hm.good⟩, hg⟩).o
  subst h2
  exact ⟨w', h1, h3, h4⟩
end
section
variable {F : Fence} {n : Nat} {P : Program} {ops : Array Oper} {Q : Exit → Act → World → Prop} {rest : List Oper} {o : Oper} {a : Act} {w w' : World} {v : Value}
theorem wplRange (hg : o.guard = none) (m : Operand) (t : TypeId) {b : Nat} (hop : o.op = Op.range t m) (hm : a.eval m = .map (some b)) (hrun : (Instr.range t (.map (some b))).run P w = .ok v w') (hK : wpListIn F n P ops Q rest (a.put o.dst v) w') : wpListIn F n P ops Q (o :: rest) a w := by
  refine wpListIn_plain hg fun K' hK' => ?_
  unfold Oper.wpIn
  refine ⟨by simp [Oper.about, hop], ?_⟩
  rw [Oper.semAt_plain F _ _ (by rw [hop]; intro c hc'; cases hc')]
  simp [execOp, hop, hm, hrun, Result.andThen]
  exact hK' _ _ hK
theorem wplNext (hg : o.guard = none) (it : Operand) {r : Nat} (hop : o.op = Op.next it false) (hm : a.eval it = .pointer (some ⟨r, 0, none⟩)) (hrun : (Instr.next (.pointer (some ⟨r, 0, none⟩)) false o.type).run P w = .ok v w') (hK : wpListIn F n P ops Q rest (a.put o.dst v) w') : wpListIn F n P ops Q (o :: rest) a w := by
  refine wpListIn_plain hg fun K' hK' => ?_
  unfold Oper.wpIn
  refine ⟨by simp [Oper.about, hop], ?_⟩
  rw [Oper.semAt_plain F _ _ (by rw [hop]; intro c hc'; cases hc')]
  simp [execOp, hop, hm, hrun, Result.andThen]
  exact hK' _ _ hK
end
theorem Its.same {P : Program} {k : TypeId} {w : World} {r b : Nat} {l left left' : List (Value × Value)} {cur cur' : Option (Value × Value)} (h : Its P k w r b l left cur) (h' : Its P k w r b l left' cur') : left = left' := by
  obtain ⟨⟨es, c, since, seen, c0, e1, e2, e3, e4, e5, e6, e7, e8, e9⟩, e10⟩ := h
  obtain ⟨⟨es', c', since', seen', c0', f1, f2, f3, f4, f5, f6, f7, f8, f9⟩, f10⟩ := h'
  rw [e1] at f1
  rw [e4] at f4
  cases f1
  cases f4
  rw [e8, f8]
open Classical in
noncomputable def leftN (P : Program) (k : TypeId) (r b : Nat) (l : List (Value × Value)) (w : World) : Nat := if h : ∃ left cur, Its P k w r b l left cur then h.choose.length else 0
theorem Its.leftN {P : Program} {k : TypeId} {w : World} {r b : Nat} {l left : List (Value × Value)} {cur : Option (Value × Value)} (h : Its P k w r b l left cur) : leftN P k r b l w = left.length := by
  unfold Go.Proofs.YtladfadcgfdbfaaGreatDoor.leftN
  have hex : ∃ left cur, Its P k w r b l left cur := ⟨_, _, h⟩
  rw [dif_pos hex]
  obtain ⟨cur', h'⟩ := hex.choose_spec
  rw [h'.same h]
/-- the keys come, each once, in some order -/
theorem keys1Q (l Bm b : Nat) (ps : List Pc) (J Jx : List Nat → World → Prop)
    (hY : ∀ pre x W, J pre W → pre.length < ps.length → YieldAt Fence.wide 1 Tryz.prog l #[q64 x] W fun e W' => (e = .returned (.bool true) ∧ J (pre ++ [x]) W' ∧ KeepsWalks W W') ∨ (e = .returned (.bool false) ∧ Jx (pre ++ [x]) W'))
    (W : World) (hJ : AbidesFrom W.heap.size J) (hm : W.cell? ⟨Bm, 0, none⟩ = some (.map (some b))) (hmp : Mp Tryz.prog 38 W b (ps.map pcE)) (hnd : NdP ps) (h0 : J [] W) :
    CallsIn Fence.wide 2 Tryz.prog 114 #[.func (.yield l) #[] #[], .pointer (some ⟨Bm, 0, none⟩)] W fun e W' => (∃ v, e = .returned v) ∧ ((∃ ss : List Nat, ss.Perm (ps.map Pc.key) ∧ J ss W') ∨ ∃ pre : List Nat, True ∧ Jx pre W') := by
  have u0 := run_underlying Tryz.underlying0
  refine callsIn_of_wp Tryz.func114 rfl trivial ?_ rfl
  simp only [Tryz.ntmps114, List.size_toArray, List.length_cons, List.length_nil, Nat.reduceAdd, Nat.reduceSub, Array.replicate_succ, Array.replicate_zero, List.push_toArray, List.append_toArray, List.nil_append, List.cons_append]
  obtain ⟨w1, hr1, hit1, hg1⟩ := hmp.range ttOk tl98
  have hJ1 : J [] w1 := hJ [] W w1 none h0 hg1 (fun r e => by cases e)
  gi_wp2_with (first
    | (gi_at_range; refine wplRange rfl _ _ rfl rfl hr1 ?_)
    | gi_in)
  go_frame
  gi_loopw [3] (fun _ wr => ∃ (rest : List Pc) (left : List (Value × Value)) (cur : Option (Value × Value)) (ss : List Nat), Its Tryz.prog 38 wr W.heap.size b (ps.map pcE) left cur ∧ NdP rest ∧ (∀ q, q ∈ left ↔ q ∈ rest.map pcE) ∧ (ss ++ rest.map Pc.key).Perm (ps.map Pc.key) ∧ J ss wr)
    (fun _ wr => leftN Tryz.prog 38 W.heap.size b (ps.map pcE) wr)
  case atStart => exact ⟨ps, _, _, [], hit1, hnd, fun q => .rfl, by simp, hJ1⟩
  case round =>
    obtain ⟨rest, left, cur, ss, hit, hndr, hm, hp, hJs⟩ := hrel
    rcases hit.next 0 with ⟨hl, hrun⟩ | ⟨p, left', w2, hrun, hpl, hpL, hlen, hq1, hq2, hit2, hg2⟩
    · have hr0 : rest = [] := by
        cases rest with
        | nil => rfl
        | cons a l => exact absurd ((hm (pcE a)).2 (by simp)) (by rw [hl]; simp)
      subst hr0
      gi_wp2_with (first
        | (gi_at_next; refine wplNext rfl _ rfl rfl hrun ?_)
        | gi_in)
      go_end0
      exact ⟨⟨_, rfl⟩, .inl ⟨ss, by simpa using hp, hJs⟩⟩
    · obtain ⟨A, a, C, hre, hpa, hnd', hm'⟩ := took hndr hm hpl hq1 hq2
      subst hpa
      have hJ2 : J ss w2 := hJ ss wr w2 (some W.heap.size) hJs hg2 (fun r e => by cases e; exact ⟨Nat.le_refl _, hit.isWalk⟩)
      have hlen2 := hp.length_eq
      rw [hre] at hlen2
      simp only [List.length_append, List.length_map, List.length_cons] at hlen2
      obtain ⟨fn, tmps, assign, body, hy, hR⟩ := hY ss a.key w2 hJ2 (by omega)
      have hen := hit2.entry
      simp only [pcE] at hen hrun
      have hy : (Instr.yield l #[encK a.key]).run Tryz.prog w2 = .ok (.round l fn tmps assign body) w2 := hy
      gi_wp2_with (first
        | (gi_at_next; refine wplNext rfl _ rfl rfl hrun ?_)
        | gi_in)
      refine hR.mono ?_
      rintro e W3 (⟨rfl, hJ3, hk3⟩ | ⟨rfl, hx3⟩)
      case inr =>
        gi_wp2
        refine bodyPost_ret (results_none rfl _ _ _) rfl ?_
        exact ⟨⟨_, rfl⟩, .inr ⟨_, trivial, hx3⟩⟩
      gi_wp2
      have hit3 := hit2.walks hk3
      go_roundw
      case rel =>
        refine ⟨A ++ C, _, _, ss ++ [a.key], hit3, hnd', hm', ?_, hJ3⟩
        refine List.Perm.trans ?_ hp
        rw [hre]
        simp only [List.map_append, List.map_cons, List.append_assoc, List.cons_append, List.nil_append]
        exact List.Perm.append_left _ (List.perm_middle.symm)
      case measure =>
        rw [hit3.leftN, hit.leftN]
        exact hlen
theorem keysGive (Bm b : Nat) (ps : List Pc) (hnd : NdP ps) (w : World) (hBm : Bm < w.heap.size) (hm : w.cell? ⟨Bm, 0, none⟩ = some (.map (some b))) (hmp : Mp Tryz.prog 38 w b (ps.map pcE)) :
    SeqStopsK Fence.wide 2 Tryz.prog 114 #[.pointer (some ⟨Bm, 0, none⟩)] (fun x => #[q64 x]) KeepsWalks (fun ss => ss.Perm (ps.map Pc.key)) (fun _ => True) ps.length w := fun l J Jx W hW hJ hJx hY h0 => by
  have hmp' : Mp Tryz.prog 38 W b (ps.map pcE) := by
    obtain ⟨⟨es, c, h1, h2, h3⟩, h4⟩ := hmp
    exact ⟨⟨es, c, (hW.block b (Array.getElem?_eq_some_iff.1 h1).1).trans h1, h2, h3⟩, h4⟩
  exact keys1Q l Bm b ps J Jx hY W hJ ((hW.cell (p := ⟨Bm, 0, none⟩) hBm).trans hm) hmp' hnd h0
/-- between two rounds -/
def apI (w : World) (Bs : Nat) (ss : List Nat) (W : World) : Prop := ∃ v, W.heap[Bs]? = some (.cells #[v] 137 (0, 0)) ∧ W.ownsRow w.heap.size 38 1 v ss.length (ss.map q64) ∧ (v = .slice none 0 0 ↔ ss = []) ∧ Below w.heap.size w W
theorem apOwn (w : World) (Bs : Nat) {B : Nat} (hB : w.heap.size ≤ B) : OwnFrom B (apI w Bs) := by
  rintro ss W W' row ⟨v, h1, h2, h3, h4⟩ hg hrow
  have hrow' : ∀ r, row = some r → ∃ o : Obj, W.heap[r]? = some o ∧ o.isCells = false := fun r e => (hrow r e).2
  refine ⟨v, (grownBy_keeps_cells hg hrow' h1 rfl).trans h1, h2.kept hg ?_, h3, h4.grown hg h4.size fun k e => Nat.le_trans hB (hrow k e).1⟩
  rcases h2.2 with ⟨rfl, _⟩ | ⟨g, cap, cur, rfl, _, hgb, _⟩
  · exact .inl rfl
  · refine .inr fun e => ?_
    obtain ⟨o, ho, hc⟩ := hrow' g e.symm
    rw [hgb] at ho
    cases ho
    cases hc
set_option maxHeartbeats 2000000 in
theorem appendSeqQ (g : Nat) (lb : Array Value) (eg : ∀ args w, (callFunc g args).run Tryz.prog w = .ok (.enter g args) w) (S Sp : List Nat → Prop) (N : Nat) (hN : N ≤ 2305843009213693951) (hNb : N * 8 ≤ 140737488355328) (w : World) (hseq : SeqStopsK Fence.wide 2 Tryz.prog g lb (fun x => #[q64 x]) KeepsWalks S Sp N w) :
    CallsIn Fence.wide 3 Tryz.prog 141 #[.slice none 0 0, .func (.func g) #[] lb] w fun e w' => ∃ (v : Value) (ss : List Nat), e = .returned v ∧ S ss ∧ w'.ownsRow w.heap.size 38 1 v ss.length (ss.map q64) ∧ (v = .slice none 0 0 ↔ ss = []) ∧ Below w.heap.size w w' := by
  refine callsIn_of_wp_marks Tryz.func141 rfl trivial ?_ rfl
  simp only [Tryz.ntmps141, List.size_toArray, List.length_cons, List.length_nil, Nat.reduceAdd, Nat.reduceSub, Array.replicate_succ, Array.replicate_zero, List.push_toArray, List.append_toArray, List.nil_append, List.cons_append]
  gi_wp2
  obtain ⟨W0, hW0⟩ : ∃ W0, w.alloc (.cells #[.slice none 0 0] 137) = W0 := ⟨_, rfl⟩
  have hs0 : W0.heap.size = w.heap.size + 1 := by rw [← hW0]; simp
  have hv0 : W0.heap[w.heap.size]? = some (.cells #[.slice none 0 0] 137 (0, 0)) := by rw [← hW0]; exact World.alloc_heap_new w _
  have hb0 : Below w.heap.size w W0 := by rw [← hW0]; exact (Below.refl _ w).alloc (Nat.le_refl _) _
  rw [hW0]
  refine wpIn_rangeFunc_ownF rfl (by decide) (gf := g) (lb := lb) rfl trivial eg hseq (fun h k => h.trans k) (fun W l o o' _ h _ hw => KeepsWalks.putObj _ h hw) hb0 (fun _ => rfl) (apI w w.heap.size) (fun _ _ _ => False) (apOwn _ _ hb0.size) (fun _ _ _ _ _ hs _ _ => hs) ?h0 (fun x => { tmps := #[.slice none 0 0, .func (.func g) #[] lb, .pointer (some ⟨w.heap.size, 0, none⟩), undef, .slice none 0 0, q64 x, .func (.func g) #[] lb, q64 x, undef, undef, undef, undef, undef], defers := [] }) ?hassign ?hbody ?hdone ?hstop
  case h0 => exact ⟨_, hv0, ⟨rfl, .inl ⟨rfl, rfl⟩⟩, by simp, hb0⟩
  case hassign =>
    intro l x W K hK
    gi_wp2_with gi_round_op_a
    exact hK
  case hstop => intro D c pre W _ _ h; exact h.elim
  case hbody =>
    intro l pre x W hI hlt
    obtain ⟨v, h1, h2, h3, h4⟩ := hI
    obtain ⟨hc, hf⟩ := cell_of_box_a h1
    obtain ⟨i0, hi, hz0, hz1, hz2⟩ := (ttOk _ _ tl38).inf
    have u49 := run_underlying Tryz.underlying137
    have hBs : w.heap.size < W.heap.size := (Array.getElem?_eq_some_iff.1 h1).1
    have hne : some w.heap.size ≠ v.ownBlock := fun e => by
      rcases ownsRow_ne_a h2 h1 (fun cur e => by cases e) with h | h
      · rw [h] at e; cases e
      · exact h e.symm
    rw [show q64 x = Value.int .u64 (x : Int) from rfl]
    gi_wp2_with (first
      | (gi_at_builtin; refine wpListIn_append_own _ rfl _ _ 137 rfl w.heap.size 38 i0 (.int .u64 0) 1 8 Tryz.underlying137 hi hz0 hz1 hz2 rfl (by decide) _ _ _ rfl (h2.alloc _) ⟨W.heap.size, 0, none⟩ 1 1 [q64 x] rfl rfl (cell_one_new _ _ _) (by simp [Value.oneCell', q64]) (by simp only [maxLen]; omega) (by omega) (by simp; omega) ?_; intro v' w3 hown' hg3 hnil3
         have hg3 : (W.alloc (.cells #[q64 x] 38)).grownBy w3 v.ownBlock := hg3
         have hv3 : w3.heap[w.heap.size]? = some (.cells #[v] 137 (0, 0)) := (hg3.block _ (by simp; omega) hne).trans ((Below.heap_alloc _ _ _ hBs).trans h1)
         obtain ⟨hc3, hf3⟩ := cell_of_box_a hv3
         obtain ⟨g', cap', cur', rfl, hbase', hgb', hr1, hr2, hr3, hr4⟩ : ∃ g' cap' cur', v' = .slice (some ⟨g', 0, none⟩) (pre.length + 1) cap' ∧ w.heap.size ≤ g' ∧ w3.heap[g']? = some (.cells cur' 38 (0, 0)) ∧ pre.length + 1 ≤ cap' ∧ cap' ≤ maxLen ∧ cur'.size = cap' * 1 ∧ cur'.toList.take ((pre.length + 1) * 1) = pre.map q64 ++ [q64 x] := by
           rcases hown'.2 with ⟨_, h0⟩ | h'
           · exact absurd h0 (by omega)
           · exact h'
         go_frame)
      | gi_round_op_a)
    refine ⟨?_, ?_, ⟨_, heap_setCell_box_a _ hv3, ?_, by simp, ?_⟩⟩
    · refine ((KeepsOthers.alloc _ _).trans (KeepsOthers.of_grownBy hg3 fun j o hj ho => ?_)).trans (KeepsOthers.setCell _ _ _)
      rcases (h2.alloc (.cells #[q64 x] 38)).2 with ⟨rfl, _⟩ | ⟨g2, cap2, cur2, rfl, _, hgb2, _⟩
      · cases hj
      · cases hj
        rw [hgb2] at ho
        cases ho
        rfl
    · exact ((KeepsWalks.alloc _ _).trans (KeepsWalks.of_grownBy hg3 (ownsRow_not_walk_a (h2.alloc _)))).trans (KeepsWalks.setCell _ _ _)
    · have := hown'.kept (grownBy_setCell0_a w3 w.heap.size (.slice (some ⟨g', 0, none⟩) (pre.length + 1) cap')) (ownsRow_ne_a hown' hv3 (fun cur e => by cases e))
      simpa using this
    · exact ((h4.alloc h4.size _).grown hg3 (by have := h4.size; simp; omega) (fun k e => (h2.lt k e).1)).grown (grownBy_setCell0_a _ _ _) (by have := hg3.size; have := h4.size; simp at *; omega) (fun k e => by cases e; exact Nat.le_refl _)
  case hdone =>
    intro D xs W hD hS hI hK
    obtain ⟨v, h1, h2, h3, h4⟩ := hI
    obtain ⟨hc, hf⟩ := cell_of_box_a h1
    gi_wp2
    refine ⟨by simp, .inl ⟨_, _, rfl, run_takeDeferred hK, ?_⟩⟩
    exact ⟨_, results_tmp rfl _ _ _, v, xs, rfl, hS, h2.kept (grownBy_putObj_a _ _ _) (ownsRow_ne_a h2 hK (fun cur e => by cases e)), h3, h4.grown (grownBy_putObj_a _ _ _) h4.size (fun k e => by cases e; omega)⟩
set_option maxHeartbeats 1000000 in
theorem collectQ (g : Nat) (lb : Array Value) (eg : ∀ args w, (callFunc g args).run Tryz.prog w = .ok (.enter g args) w) (S Sp : List Nat → Prop) (N : Nat) (hN : N ≤ 2305843009213693951) (hNb : N * 8 ≤ 140737488355328) (w : World) (hseq : SeqStopsK Fence.wide 2 Tryz.prog g lb (fun x => #[q64 x]) KeepsWalks S Sp N w) :
    Fn Tryz.prog 112 #[.func (.func g) #[] lb] w fun r w' => ∃ ss : List Nat, S ss ∧ w'.ownsRow w.heap.size 38 1 r ss.length (ss.map q64) ∧ (r = .slice none 0 0 ↔ ss = []) ∧ Below w.heap.size w w' := by
  have ha : Fn Tryz.prog 141 #[.slice none 0 0, .func (.func g) #[] lb] w fun r w' => ∃ ss : List Nat, S ss ∧ w'.ownsRow w.heap.size 38 1 r ss.length (ss.map q64) ∧ (r = .slice none 0 0 ↔ ss = []) ∧ Below w.heap.size w w' :=
    Fn.of_calls Tryz.func141 (by decide +kernel) rfl ((callsIn_wide.1 (appendSeqQ g lb eg S Sp N hN hNb w hseq)).mono fun e w' ⟨v, ss, h1, h2⟩ => ⟨v, h1, ss, h2⟩)
  have hL := Sep.start Tryz.prog w
  have hB := Nat.le_refl w.heap.size
  refine Fn.mk Tryz.func112 rfl (by kernel_rfl) Tryz.ntmps112 rfl (by rw [Tryz.results112]) ?_
  repeat (first | (refine RunH ?_; intro w hL hB; try clear w) | (refine Both.mk ?_ ?_ <;> conv => whnf) | fail)
  refine ha.mono fun r w' ⟨ss, h1, h2, h3, h4⟩ => ?_
  conv => whnf
  have hL := Sep.start Tryz.prog w'
  have hB := Nat.le_refl w'.heap.size
  repeat (first | (refine RunH ?_; intro w hL hB; try clear w) | (refine Both.mk ?_ ?_ <;> conv => whnf) | fail)
  exact ⟨ss, h1, h2, h3, h4⟩
end Go.Proofs.YtladfadcgfdbfaaGreatDoor
namespace Go.Proofs.YtladfadcgfdbfaaGreatDoor
open Go.RowKit
open Go.Maps (Keyed)
set_option linter.unusedVariables false
set_option linter.unusedSimpArgs false
set_option maxRecDepth 100000
def sortedK (ps : List Pc) : List Nat := (ps.map Pc.key).mergeSort leN
theorem leN_trans : ∀ (x y z : Nat), leN x y = true → leN y z = true → leN x z = true := fun x y z h1 h2 => by simp only [leN, decide_eq_true_eq] at *; omega
theorem leN_total : ∀ (x y : Nat), (leN x y || leN y x) = true := fun x y => by simp only [leN, Bool.or_eq_true, decide_eq_true_eq]; omega
theorem mergeN_of_perm {a b : List Nat} (h : a.Perm b) : a.mergeSort leN = b.mergeSort leN := by
  have s1 := List.pairwise_mergeSort leN_trans leN_total a
  have s2 := List.pairwise_mergeSort leN_trans leN_total b
  refine List.Perm.eq_of_pairwise (le := fun x y => leN x y = true) ?_ s1 s2 ?_
  · intro x y _ _ h1 h2
    simp only [leN, decide_eq_true_eq] at h1 h2
    omega
  · exact (List.mergeSort_perm a leN).trans (h.trans (List.mergeSort_perm b leN).symm)
section
variable {B : Nat} {w0 w : World} {L : List Res} {ps : List Pc} {m : Nat}
theorem keysFnQ (i : Nat) (hi : L[i]? = some (.mp 38 m (ps.map pcE))) (hL : Sep Tryz.prog B w0 w L) (hB : B ≤ w.heap.size) :
    Fn Tryz.prog 73 #[.map (some m)] w fun r w' => ∃ c, r = .func (.func 114) #[] #[.pointer (some ⟨c, 0, none⟩)] ∧ Owns B w0 w' (.blk c [.map (some m)] 98 :: L) := by
  refine Fn.mk Tryz.func73 rfl (by kernel_rfl) Tryz.ntmps73 rfl (by rw [Tryz.results73]) ?_
  repeat (first | (refine RunH ?_; intro w hL hB; try clear w) | (refine Both.mk ?_ ?_ <;> conv => whnf) | fail)
  (refine Nw.sep hL hB (fun c w hL hB hc => ?_); conv => whnf)
  repeat (first | (refine RunH ?_; intro w hL hB; try clear w) | (refine Both.mk ?_ ?_ <;> conv => whnf) | fail)
  exact ⟨c, rfl, hL, hB⟩
set_option maxHeartbeats 1000000 in
theorem sortedFnQ (c i : Nat) (hi : L[i]? = some (.mp 38 m (ps.map pcE))) (hnd : NdP ps) (hps : ps.length ≤ 1000000) (hL : Sep Tryz.prog B w0 w (.blk c [.map (some m)] 98 :: L)) (hB : B ≤ w.heap.size) :
    Fn Tryz.prog 72 #[.func (.func 114) #[] #[.pointer (some ⟨c, 0, none⟩)]] w fun r w' => Owns B w0 w' (.row 38 1 r ps.length ((sortedK ps).map q64) :: L) := by
  have hblk : Blk w c [.map (some m)] 98 := hL.at (i := 0) rfl
  have hi2 : (Res.blk c [.map (some m)] 98 :: L)[i + 1]? = some (.mp 38 m (ps.map pcE)) := by simpa using hi
  have hmp : Mp Tryz.prog 38 w m (ps.map pcE) := hL.at hi2
  have hseq := keysGive c m ps hnd w hblk.lt (hblk.cell (i := 0) rfl) hmp
  have hc := collectQ _ _ (enters_of Tryz.func114 (by kernel_rfl) rfl) _ _ ps.length (by omega) (by omega) w hseq
  refine Fn.mk Tryz.func72 rfl (by kernel_rfl) Tryz.ntmps72 rfl (by rw [Tryz.results72]) ?_
  repeat (first | (refine RunH ?_; intro w hL hB; try clear w) | (refine Both.mk ?_ ?_ <;> conv => whnf) | fail)
  refine hc.mono fun r w ⟨ss, hp, ho, hnil, hw⟩ => ?_
  have hlen : ss.length = ps.length := by have := hp.length_eq; simpa using this
  have hsrt : ss.mergeSort leN = sortedK ps := mergeN_of_perm hp
  replace hL := hL.addRow hB hw ho
  replace hB := Nat.le_trans hB hw.size
  rcases ho.2 with ⟨rfl, hz⟩ | ⟨g, cap, cur, rfl, _⟩
  · have hss : ss = [] := List.eq_nil_of_length_eq_zero hz
    subst hss
    conv => whnf
    repeat (first | (refine RunH ?_; intro w hL hB; try clear w) | (refine Both.mk ?_ ?_ <;> conv => whnf) | fail)
    refine (sortNilQ_fn _).mono fun r w' ⟨hw', _⟩ => ?_
    rw [hw']
    conv => whnf
    repeat (first | (refine RunH ?_; intro w hL hB; try clear w) | (refine Both.mk ?_ ?_ <;> conv => whnf) | fail)
    rw [← hsrt, ← hlen, List.mergeSort_nil]
    exact ⟨hL.sub (.cons_cons _ (.cons _ (.refl _))), hB⟩
  · have hL : Sep Tryz.prog B w0 w (Dat g cap ss.length ss.toArray :: .blk c [.map (some m)] 98 :: L) := hL
    conv => whnf
    repeat (first | (refine RunH ?_; intro w hL hB; try clear w) | (refine Both.mk ?_ ?_ <;> conv => whnf) | fail)
    refine (sortQ_fn ss (by omega) hL hB).mono fun r w ⟨hL, hB⟩ => ?_
    rw [hsrt] at hL
    conv => whnf
    repeat (first | (refine RunH ?_; intro w hL hB; try clear w) | (refine Both.mk ?_ ?_ <;> conv => whnf) | fail)
    rw [← hlen]
    exact ⟨hL.sub (.cons_cons _ (.cons _ (.refl _))), hB⟩
end
end Go.Proofs.YtladfadcgfdbfaaGreatDoor
namespace Go.Proofs.YtladfadcgfdbfaaGreatDoor
open Go.RowKit
set_option linter.unusedVariables false
set_option linter.unusedSimpArgs false
theorem ofB_put8 (v : Nat) (h : v < 18446744073709551616) : ofB (putB v 8) = v := by
  simp only [putB, ofB, List.foldl_cons, List.foldl_nil, UInt8.toNat_ofNat']
  omega
section
variable {key cook : Nat} {dead : Bool} {xs rest : List UInt8} (hk : key < 18446744073709551616) (hc : cook < 4294967296) (hx : xs.length ≤ 65536) (hd : dead = true → xs = [])
theorem enc_take24 : (encN key cook dead xs ++ rest).take 24 = hd24 key cook dead xs.length := by
  rw [encN, List.append_assoc, List.append_assoc, List.append_assoc, List.take_left' (hd24_len _ _ _ _)]
theorem enc_hd : ∃ t, encN key cook dead xs ++ rest = [110, 100, if dead then 1 else 0, 0] ++ putB key 8 ++ putB cook 4 ++ putB xs.length 4 ++ t := ⟨_, by
  rw [encN, hd24, hd20]; simp only [List.append_assoc]; rfl⟩
include hk in
theorem enc_key : dKey (encN key cook dead xs ++ rest) = key := by
  obtain ⟨t, ht⟩ := enc_hd (key := key) (cook := cook) (dead := dead) (xs := xs) (rest := rest)
  rw [dKey, ht]
  have : Go.Proofs.YtladfadcgfdbfaaGreatDoor.win ([110, 100, if dead then 1 else 0, 0] ++ putB key 8 ++ putB cook 4 ++ putB xs.length 4 ++ t) 4 8 = putB key 8 := by
    rw [List.append_assoc, List.append_assoc]; exact win_app' rfl (putB_len _ _)
  rw [this, ofB_put8 _ hk]
include hc in
theorem enc_cook : dCook (encN key cook dead xs ++ rest) = cook := by
  obtain ⟨t, ht⟩ := enc_hd (key := key) (cook := cook) (dead := dead) (xs := xs) (rest := rest)
  rw [dCook, ht]
  have : Go.Proofs.YtladfadcgfdbfaaGreatDoor.win ([110, 100, if dead then 1 else 0, 0] ++ putB key 8 ++ putB cook 4 ++ putB xs.length 4 ++ t) 12 4 = putB cook 4 := by
    rw [List.append_assoc]; exact win_app' (by simp [putB_len]) (putB_len _ _)
  rw [this, ofB_put4 _ hc]
include hx in
theorem enc_size : dSize (encN key cook dead xs ++ rest) = xs.length := by
  obtain ⟨t, ht⟩ := enc_hd (key := key) (cook := cook) (dead := dead) (xs := xs) (rest := rest)
  rw [dSize, ht]
  have : Go.Proofs.YtladfadcgfdbfaaGreatDoor.win ([110, 100, if dead then 1 else 0, 0] ++ putB key 8 ++ putB cook 4 ++ putB xs.length 4 ++ t) 16 4 = putB xs.length 4 := win_app' (by simp [putB_len]) (putB_len _ _)
  rw [this, ofB_put4 _ (by omega)]
theorem enc_dead : dDead (encN key cook dead xs ++ rest) = dead := by
  obtain ⟨t, ht⟩ := enc_hd (key := key) (cook := cook) (dead := dead) (xs := xs) (rest := rest)
  rw [dDead, ht]
  cases dead <;> rfl
include hx in
theorem enc_data : dData (encN key cook dead xs ++ rest) = xs := by
  rw [dData, enc_size hx, encN, List.append_assoc, List.append_assoc]
  exact win_app' (hd24_len _ _ _ _) rfl
include hx in
theorem enc_rest : dRest (encN key cook dead xs ++ rest) = dWant (encN key cook dead xs ++ rest) := by
  have h := szN_le xs.length
  rw [dRest, dWant, enc_data hx, enc_size hx, encN]
  have e : hd24 key cook dead xs.length ++ xs ++ putB (crc xs) 4 ++ List.replicate (szN xs.length - (28 + xs.length)) 0 ++ rest = (hd24 key cook dead xs.length ++ xs) ++ (putB (crc xs) 4 ++ List.replicate (szN xs.length - (28 + xs.length)) 0) ++ rest := by simp only [List.append_assoc]
  rw [e]
  exact win_app' (by simp [hd24_len]) (by simp [putB_len]; omega)
include hk hc hx hd in
theorem enc_E : dE (encN key cook dead xs ++ rest) = 0 := by
  have h := szN_le xs.length
  have hl := encN_len key cook dead xs
  rw [dE, if_neg (by simp [hl]; omega), if_neg, enc_size hx, if_neg (by simp [hl]), if_neg (fun h => h (enc_rest hx))]
  rw [dForm, enc_size hx, enc_key hk, enc_cook hc, enc_dead, enc_take24]
  rintro (h | ⟨h1, h2⟩ | h)
  · omega
  · rw [hd h1] at h2; exact absurd h2 (by decide)
  · exact h rfl
end
theorem encNE_zero {dead : Bool} {xs : List UInt8} : encNE dead xs.length = 0 ↔ xs.length ≤ 65536 ∧ (dead = true → xs = []) := by
  rw [encNE]
  constructor
  · intro h
    split at h
    · cases h
    · rename_i h1
      split at h
      · cases h
      · exact ⟨by omega, fun hd => by
          cases xs with
          | nil => rfl
          | cons a l => exact absurd ⟨hd, by simp⟩ h1⟩
  · rintro ⟨h1, h2⟩
    rw [if_neg (fun h => by rw [h2 h.1] at h; exact absurd h.2 (by decide)), if_neg (by omega)]
end Go.Proofs.YtladfadcgfdbfaaGreatDoor
