/- A walk over a map inside an iterator: its steps. Nothing is claimed here. -/
import Derived.Test.YtcjnaljdbbjojaaGreatDoorSe
import Derived.RangeFuncSeq
import Derived.RangeFuncGives
import Derived.RangeFuncBound
import Derived.RangeFuncStops
import Derived.RangeFuncOwn
import Derived.RangeFuncKeeps
import Derived.RangeFuncFrom
import Derived.Maps.AppendAt
import Derived.Sort.MapsRangeIn
import Derived.WalkKit
import Derived.OwnWalkIn
import Derived.TacticsInMore
import Derived.RegionIn
import Derived.LoopNIn
import Derived.LoopIn
import Derived.Shelf.AbstractIn
import Derived.Shelf.SlIter.Nil
namespace Go.Proofs.YtcjnaljdbbjojaaGreatDoor
open Go.RowKit
open Go.Maps (Keyed)
set_option linter.unusedVariables false
set_option linter.unusedSimpArgs false
set_option maxRecDepth 100000

section
variable {P : Program} {k : TypeId} {w w' : World} {r b : Nat} {l left : List (Value × Value)} {cur : Option (Value × Value)}
theorem Mp.walks (h : Mp P k w b l) (hk : KeepsWalks w w') : Mp P k w' b l := by
  obtain ⟨⟨es, c, h1, h2, h3⟩, h4⟩ := h
  exact ⟨⟨es, c, hk.same b _ h1 rfl, h2, h3⟩, h4⟩
theorem Its.walks (h : Its P k w r b l left cur) (hk : KeepsWalks w w') : Its P k w' r b l left cur := by
  obtain ⟨⟨es, c, since, seen, c0, e1, e2, e3, e4, e5⟩, e6⟩ := h
  exact ⟨⟨es, c, since, seen, c0, hk.same b _ e1 rfl, e2, e3, hk.same r _ e4 rfl, e5⟩, e6⟩
theorem Its.isWalk (h : Its P k w r b l left cur) : ∃ o : Obj, w.heap[r]? = some o ∧ o.isWalk = true := by
  obtain ⟨⟨es, c, since, seen, c0, e1, e2, e3, e4, e5⟩, e6⟩ := h
  exact ⟨_, e4, rfl⟩
/-- a step of the walk -/
theorem Its.next (h : Its P k w r b l left cur) (ty : TypeId) : (left = [] ∧ (Instr.next (.pointer (some ⟨r, 0, none⟩)) false ty).run P w = .ok (.tuple #[.bool false]) w) ∨
    ∃ p left' w', (Instr.next (.pointer (some ⟨r, 0, none⟩)) false ty).run P w = .ok (.tuple #[.bool true, p.1, p.2]) w' ∧ p ∈ left ∧ p ∈ l ∧ left'.length < left.length ∧ (∀ q ∈ left, q = p ∨ q ∈ left') ∧ (∀ q ∈ left', q ∈ left ∧ q.1 ≠ p.1) ∧ Its P k w' r b l left' (some p) ∧ w.grownBy w' (some r) := by
  have hi := h
  obtain ⟨⟨es, c, since, seen, c0, e1, e2, e3, e4, e5, e6, e7, rfl, e9⟩, e10⟩ := hi
  have hrb : r ≠ b := fun e => by subst e; rw [e1] at e4; cases e4
  rcases run_next_at (P := P) w ty r b since c0 seen es c e4 e1 e5 e6 with ⟨q1, q2⟩ | ⟨e, he, w1, hw1, q2⟩
  · exact .inl ⟨by rw [Array.eq_empty_of_size_eq_zero q1]; rfl, q2⟩
  · have hml := mem_left he
    have hr1 : w1.heap[r]? = some (.mapIter (some b) since seen c0) := by rcases hw1 with rfl | rfl <;> exact e4
    have hb1 : w1.heap[b]? = some (.map es c) := by rcases hw1 with rfl | rfl <;> exact e1
    have hg : w.grownBy (ChangeMaps.setBlock w1 r (.mapIter (some b) since (seen.push e.born) c)) (some r) := by
      rcases hw1 with rfl | rfl
      · exact grownBy_setBlock _ _ _
      · exact ⟨rfl, rfl, rfl, by simp [ChangeMaps.setBlock], fun i _ hi => setB_other _ _ _ (fun e => hi (by rw [e]))⟩
    refine .inr ⟨kv e, (leftOf es (seen.push e.born)).toList.map kv, _, q2, List.mem_map_of_mem he, ?_, ?_, ?_, ?_, ?_, hg⟩
    · rw [← e3]; exact List.mem_map_of_mem hml.1
    · have := left_shrinks es seen e he
      simpa using this
    · intro q hq
      obtain ⟨x, hx, rfl⟩ := List.mem_map.1 hq
      by_cases hb : x.born = e.born
      · have hxm := mem_left hx
        left
        have := find_born x es.toList e2.2.1 hxm.1
        have h' := find_born e es.toList e2.2.1 hml.1
        rw [hb, h'] at this
        injection this with this
        rw [this]
      · right
        refine List.mem_map_of_mem ?_
        have hxm := mem_left hx
        unfold leftOf
        simp only [Array.toList_filter, List.mem_filter]
        refine ⟨hxm.1, ?_⟩
        have h2 := hxm.2
        simp only [Array.contains_push, Bool.not_or, Bool.and_eq_true, Bool.not_eq_true', beq_eq_false_iff_ne]
        exact ⟨h2, hb⟩
    · intro q hq
      obtain ⟨x, hx, rfl⟩ := List.mem_map.1 hq
      have hxm := mem_left hx
      have h2 := hxm.2
      simp only [Array.contains_push, Bool.or_eq_false_iff, beq_eq_false_iff_ne] at h2
      refine ⟨List.mem_map_of_mem ?_, ?_⟩
      · unfold leftOf
        simp only [Array.toList_filter, List.mem_filter]
        exact ⟨hxm.1, by simpa using h2.1⟩
      · intro hk
        have hxe : x = e := Rv.next.entry_eq_of_key' e2.2.2 hxm.1 hml.1 hk
        subst hxe
        exact h2.2 rfl
    · refine ⟨⟨es, c, since, seen.push e.born, c, ?_, e2, e3, setB_same _ _ _ hr1, e5, e7, e7, rfl, fun p hp => ?_⟩, e10⟩
      · rw [setB_other _ _ _ (fun hh => hrb hh.symm)]; exact hb1
      · injection hp with hp
        exact ⟨e, seen, hml.1, hp, rfl, rfl⟩
theorem Its.entry {p : Value × Value} (h : Its P k w r b l left (some p)) : (Instr.entry (.pointer (some ⟨r, 0, none⟩))).run P w = .ok (.tuple #[p.1, p.2]) w := by
  obtain ⟨⟨es, c, since, seen, c0, e1, e2, e3, e4, e5, e6, e7, e8, e9⟩, e10⟩ := h
  obtain ⟨e, seen', he, rfl, rfl, rfl⟩ := e9 p rfl
  exact run_entry_at (P := P) w r b since seen' es c0 e e4 e1 he e2.2.1
theorem Mp.range {T : Tab} (hT : TabOk P T) {t e : TypeId} {s b' : Nat} {z : Value} (ht : look T t = some ⟨.map k e, s, b', z⟩) (hm : Mp P k w b l) :
    ∃ w', (Instr.range t (.map (some b))).run P w = .ok (.pointer (some ⟨w.heap.size, 0, none⟩)) w' ∧ Its P k w' w.heap.size b l l none ∧ w.grownBy w' none := by
  obtain ⟨v, w', h1, h2, h3, h4⟩ := (Rv.range (K := fun v w' => v = .pointer (some ⟨w.heap.size, 0, none⟩) ∧ Its P k w' w.heap.size b l l none ∧ w.grownBy w' none) hT ht hm fun w' hi hg => ⟨rfl, by
    obtain ⟨es, c, since, seen, c0, h1, h2, h3, h4, h5, h6, h7, h8⟩ := hi
    exact ⟨⟨es, c, since, seen, c0, h1, h2, h3, h4, h5, h6, h7, h8, fun p hp => by cases hp⟩, hm.good⟩, hg⟩).o
  subst h2
  exact ⟨w', h1, h3, h4⟩
end
section
variable {F : Fence} {n : Nat} {P : Program} {ops : Array Oper} {Q : Exit → Act → World → Prop} {rest : List Oper} {o : Oper} {a : Act} {w w' : World} {v : Value}
theorem wplRange (hg : o.guard = none) (m : Operand) (t : TypeId) {b : Nat} (hop : o.op = Op.range t m) (hm : a.eval m = .map (some b)) (hrun : (Instr.range t (.map (some b))).run P w = .ok v w') (hK : wpListIn F n P ops Q rest (a.put o.dst v) w') : wpListIn F n P ops Q (o :: rest) a w := by
  refine wpListIn_plain hg fun K' hK' => ?_
  unfold Oper.wpIn
  refine ⟨by simp [Oper.about, hop], ?_⟩
  rw [Oper.semAt_plain F _ _ (by rw [hop]; intro c hc'; cases hc')]
  simp [execOp, hop, hm, hrun, Result.andThen]
  exact hK' _ _ hK
theorem wplNext (hg : o.guard = none) (it : Operand) {r : Nat} (hop : o.op = Op.next it false) (hm : a.eval it = .pointer (some ⟨r, 0, none⟩)) (hrun : (Instr.next (.pointer (some ⟨r, 0, none⟩)) false o.type).run P w = .ok v w') (hK : wpListIn F n P ops Q rest (a.put o.dst v) w') : wpListIn F n P ops Q (o :: rest) a w := by
  refine wpListIn_plain hg fun K' hK' => ?_
  unfold Oper.wpIn
  refine ⟨by simp [Oper.about, hop], ?_⟩
  rw [Oper.semAt_plain F _ _ (by rw [hop]; intro c hc'; cases hc')]
  simp [execOp, hop, hm, hrun, Result.andThen]
  exact hK' _ _ hK
end
theorem Its.same {P : Program} {k : TypeId} {w : World} {r b : Nat} {l left left' : List (Value × Value)} {cur cur' : Option (Value × Value)} (h : Its P k w r b l left cur) (h' : Its P k w r b l left' cur') : left = left' := by
  obtain ⟨⟨es, c, since, seen, c0, e1, e2, e3, e4, e5, e6, e7, e8, e9⟩, e10⟩ := h
  obtain ⟨⟨es', c', since', seen', c0', f1, f2, f3, f4, f5, f6, f7, f8, f9⟩, f10⟩ := h'
  rw [e1] at f1
  rw [e4] at f4
  cases f1
  cases f4
  rw [e8, f8]
open Classical in
noncomputable def leftN (P : Program) (k : TypeId) (r b : Nat) (l : List (Value × Value)) (w : World) : Nat := if h : ∃ left cur, Its P k w r b l left cur then h.choose.length else 0
theorem Its.leftN {P : Program} {k : TypeId} {w : World} {r b : Nat} {l left : List (Value × Value)} {cur : Option (Value × Value)} (h : Its P k w r b l left cur) : leftN P k r b l w = left.length := by
  unfold Go.Proofs.YtcjnaljdbbjojaaGreatDoor.leftN
  have hex : ∃ left cur, Its P k w r b l left cur := ⟨_, _, h⟩
  rw [dif_pos hex]
  obtain ⟨cur', h'⟩ := hex.choose_spec
  rw [h'.same h]
end Go.Proofs.YtcjnaljdbbjojaaGreatDoor
