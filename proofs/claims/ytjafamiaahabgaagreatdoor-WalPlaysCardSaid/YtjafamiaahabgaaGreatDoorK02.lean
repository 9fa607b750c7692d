/- Maps in blocks; what a call owns, as one list of things; elements of slices; what the reading of an argument says. The table of this translation's types, printed by gen_types.py. Nothing is claimed here. -/
import Derived.Test.YtjafamiaahabgaaGreatDoorK01
import Derived.Maps.RangeRun
import Derived.Maps.Keyed
import Derived.DeepKeys5
import Derived.WideShapes
import Derived.Test.YtjafamiaahabgaaGreatDoorChecked
namespace Go.Proofs.YtjafamiaahabgaaGreatDoor
open Go.RowKit Go.MapKept
open Go.Maps (Keyed)
open Go.ChangeMaps (setBlock)
set_option linter.unusedVariables false
set_option linter.unusedSimpArgs false

def Good (P : Program) (k : TypeId) (v : Value) : Prop := ∃ l, keyOf P k v = some l
def kv (e : MapEntry) : Value × Value := (e.key, e.val)
def kvs (es : Array MapEntry) : List (Value × Value) := es.toList.map kv

/-! ### Keys that are structs -/
def lenL : List Value → Nat
  | [] => 0
  | _ :: l => lenL l + 1
theorem lenL_eq : ∀ l : List Value, lenL l = l.length
  | [] => rfl
  | _ :: l => by simp [lenL, lenL_eq l]
def tkL : List Value → Nat → List Value
  | _, 0 => []
  | [], _ + 1 => []
  | c :: cs, n + 1 => c :: tkL cs n
def dpL : List Value → Nat → List Value
  | cs, 0 => cs
  | [], _ + 1 => []
  | _ :: cs, n + 1 => dpL cs n
theorem tkL_eq : ∀ (cs : List Value) (n : Nat), tkL cs n = cs.take n
  | _, 0 => by simp [tkL]
  | [], _ + 1 => by simp [tkL]
  | c :: cs, n + 1 => by simp [tkL, tkL_eq cs n]
theorem dpL_eq : ∀ (cs : List Value) (n : Nat), dpL cs n = cs.drop n
  | _, 0 => by simp [dpL]
  | [], _ + 1 => by simp [dpL]
  | c :: cs, n + 1 => by simp [dpL, dpL_eq cs n]

def allF {α : Type} (p : α → Prop) : List α → Prop
  | [] => True
  | x :: xs => p x ∧ allF p xs
theorem allF_mem {α : Type} {p : α → Prop} : ∀ {l : List α}, allF p l → ∀ x ∈ l, p x
  | y :: l, h, x, hx => by
    rcases List.mem_cons.1 hx with rfl | hx
    · exact h.1
    · exact allF_mem h.2 x hx
/-- cells that are a key's of a type of the table -/
def goodL (T : Tab) : Nat → TypeId → List Value → Prop
  | 0 => fun _ _ => False
  | d + 1 => fun t cs => match look T t with
    | some ⟨sh, sz, _, _⟩ => match sh, cs with
      | .bool, [.bool _] => True
      | .int q, [.int q' n] => whenT (ikEq q' q) ((Lit.int q n).wf = true)
      | .str, [.string s] => s.size ≤ maxLen
      | .struct fs, cs => Nat.beq (lenL cs) sz = true ∧ allF (fun f => match look T f.2 with
        | some ⟨_, sz, _, _⟩ => goodL T d f.2 (tkL (dpL cs f.1) sz)
        | none => False) fs
      | _, _ => False
    | none => False

theorem mapM_some {α β : Type} {f : α → Option β} : ∀ {l : List α}, (∀ x ∈ l, ∃ y, f x = some y) → ∃ ys, l.mapM f = some ys
  | [], _ => ⟨[], by simp⟩
  | x :: l, h => by
    obtain ⟨y, hy⟩ := h x (by simp)
    obtain ⟨ys, hys⟩ := mapM_some (l := l) fun z hz => h z (by simp [hz])
    exact ⟨y :: ys, by simp [List.mapM_cons, hy, hys]⟩

section
variable {P : Program} {T : Tab} (hT : TabOk P T)
include hT
theorem cellsOf_td {t : TypeId} {d : Td} (h : look T t = some d) : P.cellsOf t = d.size := by
  obtain ⟨i, hi, _, hs, _⟩ := (hT _ _ h).inf
  simp [Program.cellsOf, hi, hs]
theorem goodF_mem {d : Nat} {fs : List (Nat × TypeId)} {cs : List Value} (h : allF (fun f => match look T f.2 with
        | some ⟨_, sz, _, _⟩ => goodL T d f.2 (tkL (dpL cs f.1) sz)
        | none => False) fs) : ∀ f ∈ fs, goodL T d f.2 ((cs.drop f.1).take (P.cellsOf f.2)) := by
  intro f hf
  have h1 := allF_mem h f hf
  split at h1
  · rename_i sz _ _ hl
    rw [tkL_eq, dpL_eq] at h1
    rw [cellsOf_td hT hl]
    exact h1
  · exact h1.elim
theorem goodL_lits : ∀ (d : Nat) (t : TypeId) (cs : List Value), goodL T d t cs → ∀ D, P.keyTypeAt D t = true → d ≤ D → ∃ l, P.keyLits D t cs = some l
  | 0, _, _, h, _, _, _ => h.elim
  | d + 1, t, cs, h, 0, _, hd => by omega
  | d + 1, t, cs, h, D + 1, hk, hd => by
    unfold goodL at h
    split at h
    case h_2 => exact h.elim
    rename_i sh sz _ _ hl
    obtain ⟨u, hu, hs⟩ := shOf_cases hT hl
    split at h
    · cases u <;> simp only [shOf, reduceCtorEq] at hs
      rename_i b
      exact ⟨[.bool b], by simp only [Program.keyLits, hu]⟩
    · rename_i q q' n
      cases u <;> simp only [shOf, reduceCtorEq, Sh.int.injEq] at hs
      subst hs
      obtain ⟨h1, h2⟩ := whenT_out h
      have hq := ikEq_eq h1
      exact ⟨_, by simp only [Program.keyLits, hu]; rw [if_pos ⟨hq, h2⟩]⟩
    · cases u <;> simp only [shOf, reduceCtorEq] at hs
      exact ⟨_, by simp only [Program.keyLits, hu]; rw [if_pos h]⟩
    · rename_i fs
      cases u <;> simp only [shOf, reduceCtorEq, Sh.struct.injEq] at hs
      rename_i fields
      obtain ⟨h1, h2⟩ := h
      have hlen := Nat.eq_of_beq_eq_true h1
      rw [lenL_eq] at hlen
      have hcell : cs.length = P.cellsOf t := by rw [cellsOf_td hT hl]; exact hlen
      have hkt : ∀ f ∈ fields.toList, (f.name != "_") = true ∧ P.keyTypeAt D f.type = true := by
        have := hk
        simp only [Program.keyTypeAt, hu, Bool.and_eq_true] at this
        have h3 := this.1.1
        rw [← Array.all_toList, List.all_eq_true] at h3
        intro f hf
        simpa using h3 f hf
      obtain ⟨ls, hls⟩ := mapM_some (l := fields.toList) (f := fun f => P.keyLits D f.type ((cs.drop f.offset).take (P.cellsOf f.type))) fun f hf =>
        goodL_lits d f.type _ (goodF_mem hT h2 (f.offset, f.type) (by rw [← hs]; exact List.mem_map_of_mem (f := fun f : Field => (f.offset, f.type)) hf)) D (hkt f hf).2 (by omega)
      have hn : fields.all (·.name != "_") = true := by
        rw [← Array.all_toList, List.all_eq_true]
        exact fun f hf => (hkt f hf).1
      cases cs with
      | nil => exact ⟨ls.flatten, by simp only [Program.keyLits, hu]; rw [if_pos ⟨hcell, hn⟩, hls]; rfl⟩
      | cons c cs =>
        refine ⟨ls.flatten, ?_⟩
        simp only [Program.keyLits, hu]
        rw [if_pos ⟨hcell, hn⟩, hls]; rfl
    · exact h.elim
/-- a struct whose cells are a key's -/
theorem good_struct {t : TypeId} {fs : List (Nat × TypeId)} {s b : Nat} {z : Value} (d : Nat) (ht : look T t = some ⟨.struct fs, s, b, z⟩) (hk : P.keyType t = true) (hd : d ≤ P.types.size + 1) {cs : List Value} (h : goodL T d t cs) : Good P t (.agg cs.toArray) := by
  obtain ⟨l, hl⟩ := goodL_lits hT d t cs h _ hk hd
  obtain ⟨u, hu, hs⟩ := shOf_cases hT ht
  cases u <;> simp only [shOf, reduceCtorEq] at hs
  have hlen : cs.length = P.cellsOf t := by
    cases d with
    | zero => exact h.elim
    | succ d =>
      unfold goodL at h
      simp only [ht] at h
      rw [cellsOf_td hT ht]
      have := Nat.eq_of_beq_eq_true h.1
      rwa [lenL_eq] at this
  refine ⟨.string (keyBytes l), ?_⟩
  simp only [keyOf, hu, hk, Value.formed, List.size_toArray, hlen, beq_self_eq_true, Bool.and_self, if_true, Value.cells, hl, Option.map_some]
omit hT in
theorem good_int {t : TypeId} {q : IntKind} {n : Int} (ht : P.underlying t = some (.int q)) (h : (Lit.int q n).wf = true) : Good P t (.int q n) := ⟨.int q n, by simp [keyOf, mapKey, ht, h]⟩
omit hT in
theorem good_str {t : TypeId} {s : ByteArray} (ht : P.underlying t = some .string) (h : s.size ≤ maxLen) : Good P t (.string s) := ⟨_, by simp only [keyOf, mapKey, ht]; rw [if_pos h]⟩
omit hT in
/-- two structs that are keys are compared -/
theorem Eg.key {t : TypeId} {a b : Array Value} {K : Bool → Prop} (L : WideMaps.KeyLaw P t) (hm : P.types.size + 1 ≤ 10000) (hk : P.keyType t = true) (hwide : (match P.underlying t with | some (.array _ _) | some (.struct _) => true | _ => false) = true) (hg : P.eqGuardType P.depth t = false)
    (ha : Good P t (.agg a)) (hb : Good P t (.agg b)) (h : ∀ r : Bool, (r = true ↔ Value.agg a = .agg b) → K r) : Eg P t a b K := by
  obtain ⟨la, ha⟩ := ha
  obtain ⟨lb, hb⟩ := hb
  obtain ⟨r0, h0, h1⟩ := run_equal_deep (P := P) default hm hk hwide ha hb
  have hr : r0 = true ↔ Value.agg a = .agg b := by
    rw [h1]
    exact ⟨fun e => L.inj ha (e ▸ hb), fun e => by rw [e, hb] at ha; injection ha with ha; exact ha.symm⟩
  refine Eg.mk r0 (fun w => ?_) hg (h r0 hr)
  obtain ⟨r', h0', h1'⟩ := run_equal_deep (P := P) w hm hk hwide ha hb
  have : r' = r0 := by
    cases r' <;> cases r0 <;> simp_all
  rw [← this]; exact h0'
end

/-- block b is a map with these entries -/
structure Mp (P : Program) (k : TypeId) (w : World) (b : Nat) (l : List (Value × Value)) : Prop where
  of : ∃ es clock, w.heap[b]? = some (.map es clock) ∧ Stamped es clock ∧ kvs es = l
  good : ∀ p ∈ l, Good P k p.1

/-- the entries behind a store -/
inductive Put (l : List (Value × Value)) (x v : Value) : List (Value × Value) → Prop
  | new (h : ∀ p ∈ l, p.1 ≠ x) : Put l x v (l ++ [(x, v)])
  | old (A B : List (Value × Value)) (u : Value) (h : l = A ++ (x, u) :: B) : Put l x v (A ++ (x, v) :: B)
/-- what a look gives -/
inductive Got (l : List (Value × Value)) (x z : Value) : Value → Bool → Prop
  | yes (u : Value) (h : (x, u) ∈ l) : Got l x z u true
  | no (h : ∀ p ∈ l, p.1 ≠ x) : Got l x z z false
/-- the entries behind a delete -/
inductive Gone (l : List (Value × Value)) (x : Value) : List (Value × Value) → Prop
  | no (h : ∀ p ∈ l, p.1 ≠ x) : Gone l x l
  | yes (A B : List (Value × Value)) (u : Value) (h : l = A ++ (x, u) :: B) : Gone l x (A ++ B)

theorem Mp.keep {P : Program} {k : TypeId} {w w' : World} {b : Nat} {l : List (Value × Value)} (h : Mp P k w b l) (hb : w'.heap[b]? = w.heap[b]?) : Mp P k w' b l := by
  obtain ⟨⟨es, c, h1, h2, h3⟩, h4⟩ := h
  exact ⟨⟨es, c, hb.trans h1, h2, h3⟩, h4⟩
theorem Mp.lt {P : Program} {k : TypeId} {w : World} {b : Nat} {l : List (Value × Value)} (h : Mp P k w b l) : b < w.heap.size := by
  obtain ⟨⟨es, c, h1, h2, h3⟩, h4⟩ := h
  exact (Array.getElem?_eq_some_iff.1 h1).1
theorem Mp.grown {P : Program} {k : TypeId} {w w' : World} {b : Nat} {l : List (Value × Value)} {row : Option Nat} (h : Mp P k w b l) (hg : w.grownBy w' row) (hr : some b ≠ row) : Mp P k w' b l := h.keep (hg.block b h.lt hr)
theorem Mp.below {P : Program} {k : TypeId} {w w' : World} {b B : Nat} {l : List (Value × Value)} (h : Mp P k w b l) (hb : Below B w w') (hB : b < B) : Mp P k w' b l := h.keep (hb.block b hB)
theorem Mp.apart {P : Program} {k : TypeId} {w : World} {b : Nat} {l : List (Value × Value)} (h : Mp P k w b l) : (l.map (·.1)).Nodup := by
  obtain ⟨⟨es, c, h1, h2, rfl⟩, h4⟩ := h
  have := h2.2.2
  simpa [kvs, kv, Function.comp_def] using this

theorem Nw.map {P : Program} {k : TypeId} {w : World} {K : Nat → World → Prop} (h : ∀ b w', b = w.heap.size → Mp P k w' b [] → w.grownBy w' none → b < w'.heap.size → K b w') : Nw w (.map #[] 0) K :=
  Nw.mk (h _ _ rfl ⟨⟨#[], 0, heap_alloc_new w _, stamped_empty 0, rfl⟩, by simp⟩ (World.grownBy_alloc w _ none) (by simp))

theorem setB_other (w : World) (b : Nat) (o : Obj) {i : Nat} (h : i ≠ b) : (setBlock w b o).heap[i]? = w.heap[i]? := by
  simp only [setBlock]
  rw [Array.getElem?_setIfInBounds_ne (Ne.symm h)]
theorem setB_same (w : World) (b : Nat) (o : Obj) {o' : Obj} (h : w.heap[b]? = some o') : (setBlock w b o).heap[b]? = some o := by
  have := (Array.getElem?_eq_some_iff.1 h).1
  simp [setBlock, this]
theorem grownBy_setBlock (w : World) (b : Nat) (o : Obj) : w.grownBy (setBlock w b o) (some b) :=
  ⟨rfl, rfl, rfl, by simp [setBlock], fun i _ hi => setB_other _ _ _ (fun e => hi (by rw [e]))⟩

section
variable {P : Program} {T : Tab} (hT : TabOk P T) {k : TypeId} (hK : Keyed P k)
include hT

theorem und_map {t e : TypeId} {s b : Nat} {z : Value} (ht : look T t = some ⟨.map k e, s, b, z⟩) : P.underlying t = some (.map k e) := by
  obtain ⟨u, hu, hs⟩ := shOf_cases hT ht
  cases u <;> simp only [shOf, reduceCtorEq, Sh.map.injEq] at hs
  obtain ⟨rfl, rfl⟩ := hs
  exact hu

include hK
omit hT in
theorem Mp.find {w : World} {b : Nat} {l : List (Value × Value)} {es : Array MapEntry} (hg : ∀ p ∈ l, Good P k p.1) (he : kvs es = l) {x : Value} (hx : Good P k x) :
    ((Instr.findKey k x es.toList).run P w = .ok none w ∧ ∀ p ∈ l, p.1 ≠ x) ∨ ∃ j e, (Instr.findKey k x es.toList).run P w = .ok (some (j, e.val)) w ∧ es.toList[j]? = some e ∧ e.key = x := by
  obtain ⟨lx, hlx⟩ := hx
  rcases hK.find w hlx es.toList (fun e he' => hg (kv e) (by rw [← he]; exact List.mem_map_of_mem he')) with ⟨h1, h2⟩ | h
  · refine .inl ⟨h1, fun p hp => ?_⟩
    rw [← he] at hp
    obtain ⟨e, he', rfl⟩ := List.mem_map.1 hp
    exact h2 e he'
  · exact .inr h

theorem Rv.lookOk {w : World} {K : Value → World → Prop} {t e : TypeId} {s b' : Nat} {z : Value} {de : Td} {b : Nat} {l : List (Value × Value)} (ht : look T t = some ⟨.map k e, s, b', z⟩) (he : look T e = some de)
    (h : Mp P k w b l) {x : Value} (hx : Good P k x) (hk : ∀ u ok, Got l x de.zero u ok → K (.tuple #[u, .bool ok]) w) : Rv P (Instr.lookup t (.map (some b)) x true) w K := by
  have hu := und_map hT ht
  have hz := (hT _ _ he).run_zero w
  obtain ⟨⟨es, c, h1, h2, h3⟩, h4⟩ := h
  obtain ⟨lx, hlx⟩ := hx
  rcases Mp.find hK (w := w) (b := b) h4 h3 ⟨lx, hlx⟩ with ⟨q1, q2⟩ | ⟨j, e0, q1, q2, q3⟩
  · refine Rv.mk (w' := w) ?_ (hk _ _ (.no q2))
    simp [Instr.lookup, run_underlying hu, MapKept.run_getObj_map h1, hK.check w _ hlx, q1, hz]
  · refine Rv.mk (w' := w) (v := .tuple #[e0.val, .bool true]) ?_ (hk _ _ (.yes _ ?_))
    · simp [Instr.lookup, run_underlying hu, MapKept.run_getObj_map h1, hK.check w _ hlx, q1]
    · rw [← h3, ← q3]
      exact List.mem_map_of_mem (f := kv) (List.mem_of_getElem? q2)
theorem Rv.seek {w : World} {K : Value → World → Prop} {t e : TypeId} {s b' : Nat} {z : Value} {de : Td} {b : Nat} {l : List (Value × Value)} (ht : look T t = some ⟨.map k e, s, b', z⟩) (he : look T e = some de)
    (h : Mp P k w b l) {x : Value} (hx : Good P k x) (hk : ∀ u ok, Got l x de.zero u ok → K u w) : Rv P (Instr.lookup t (.map (some b)) x false) w K := by
  have hu := und_map hT ht
  have hz := (hT _ _ he).run_zero w
  obtain ⟨⟨es, c, h1, h2, h3⟩, h4⟩ := h
  obtain ⟨lx, hlx⟩ := hx
  rcases Mp.find hK (w := w) (b := b) h4 h3 ⟨lx, hlx⟩ with ⟨q1, q2⟩ | ⟨j, e0, q1, q2, q3⟩
  · refine Rv.mk (w' := w) ?_ (hk _ _ (.no q2))
    simp [Instr.lookup, run_underlying hu, MapKept.run_getObj_map h1, hK.check w _ hlx, q1, hz]
  · refine Rv.mk (w' := w) (v := e0.val) ?_ (hk _ _ (.yes _ ?_))
    · simp [Instr.lookup, run_underlying hu, MapKept.run_getObj_map h1, hK.check w _ hlx, q1]
    · rw [← h3, ← q3]
      exact List.mem_map_of_mem (f := kv) (List.mem_of_getElem? q2)
/-- a look into no map -/
theorem Rv.lookOkN {w : World} {K : Value → World → Prop} {t e : TypeId} {s b' : Nat} {z : Value} {de : Td} (ht : look T t = some ⟨.map k e, s, b', z⟩) (he : look T e = some de) {x : Value} (hx : Good P k x)
    (hk : K (.tuple #[de.zero, .bool false]) w) : Rv P (Instr.lookup t (.map none) x true) w K := by
  have hu := und_map hT ht
  have hz := (hT _ _ he).run_zero w
  obtain ⟨lx, hlx⟩ := hx
  rcases hK.find w hlx [] (by simp) with ⟨q1, q2⟩ | ⟨j, e0, q1, q2, q3⟩
  · refine Rv.mk (w' := w) ?_ hk
    simp [Instr.lookup, run_underlying hu, hK.check w _ hlx, q1, hz]
  · simp at q2
theorem Rv.lookN {w : World} {K : Value → World → Prop} {t e : TypeId} {s b' : Nat} {z : Value} {de : Td} (ht : look T t = some ⟨.map k e, s, b', z⟩) (he : look T e = some de) {x : Value} (hx : Good P k x)
    (hk : K de.zero w) : Rv P (Instr.lookup t (.map none) x false) w K := by
  have hu := und_map hT ht
  have hz := (hT _ _ he).run_zero w
  obtain ⟨lx, hlx⟩ := hx
  rcases hK.find w hlx [] (by simp) with ⟨q1, q2⟩ | ⟨j, e0, q1, q2, q3⟩
  · refine Rv.mk (w' := w) ?_ hk
    simp [Instr.lookup, run_underlying hu, hK.check w _ hlx, q1, hz]
  · simp at q2

omit hK hT in
theorem kvs_modify {es : Array MapEntry} {j : Nat} {e0 : MapEntry} {x v : Value} (h : es.toList[j]? = some e0) (hx : e0.key = x) :
    ∃ A B, kvs es = A ++ (x, e0.val) :: B ∧ kvs (es.modify j fun e => { e with key := x, val := v }) = A ++ (x, v) :: B ∧ kvs (es.eraseIdxIfInBounds j) = A ++ B := by
  have hjl : j < es.toList.length := (List.getElem?_eq_some_iff.1 h).1
  have hsub : (es.eraseIdxIfInBounds j).toList = es.toList.eraseIdx j := by
    unfold Array.eraseIdxIfInBounds
    rw [dif_pos (by simpa using hjl)]
    simp
  have hd : es.toList.drop j = e0 :: es.toList.drop (j + 1) := by
    rw [List.drop_eq_getElem_cons hjl]
    rw [(List.getElem?_eq_some_iff.1 h).2]
  refine ⟨(es.toList.take j).map kv, (es.toList.drop (j + 1)).map kv, ?_, ?_, ?_⟩
  · unfold kvs
    conv => lhs; rw [← List.take_append_drop j es.toList, hd]
    simp [kv, hx]
  · unfold kvs
    rw [Array.toList_modify, ChangeMaps.modify_eq_set _ _ _ _ h, List.set_eq_take_append_cons_drop, if_pos hjl]
    simp [kv]
  · unfold kvs
    rw [hsub, List.eraseIdx_eq_take_drop_succ]
    simp

theorem Ru.put {w : World} {K : World → Prop} {t e : TypeId} {s b' : Nat} {z : Value} {b : Nat} {l : List (Value × Value)} (ht : look T t = some ⟨.map k e, s, b', z⟩)
    (h : Mp P k w b l) {x v : Value} (hx : Good P k x) (hk : ∀ w' l', Put l x v l' → Mp P k w' b l' → w.grownBy w' (some b) → K w') : Ru P (Instr.mapUpdate t (.map (some b)) x v) w K := by
  have hu := und_map hT ht
  obtain ⟨⟨es, c, h1, h2, h3⟩, h4⟩ := h
  obtain ⟨lx, hlx⟩ := hx
  rcases Mp.find hK (w := w) (b := b) h4 h3 ⟨lx, hlx⟩ with ⟨q1, q2⟩ | ⟨j, e0, q1, q2, q3⟩
  · have hne : ∀ y ∈ es.toList, y.key ≠ x := fun y hy => q2 (kv y) (by rw [← h3]; exact List.mem_map_of_mem hy)
    refine Ru.mk (w' := setBlock w b (.map (es.push ⟨x, v, c⟩) (c + 1))) ?_ (hk _ _ (.new q2) ⟨⟨_, _, setB_same _ _ _ h1, stamped_push h2 hne, by simp [kvs, ← h3, kv]⟩, ?_⟩ (grownBy_setBlock _ _ _))
    · simp [Instr.mapUpdate, run_underlying hu, MapKept.run_getObj_map h1, hK.check w false hlx, q1, MapKept.run_setObj_map _ h1, setBlock]
    · intro p hp
      simp only [List.mem_append, List.mem_singleton] at hp
      rcases hp with hp | rfl
      · exact h4 p hp
      · exact ⟨lx, hlx⟩
  · obtain ⟨A, B, e1, e2, _⟩ := kvs_modify (v := v) q2 q3
    have hj : es[j]? = some e0 := by simpa using q2
    refine Ru.mk (w' := setBlock w b (.map (es.modify j fun e => { e with key := x, val := v }) c)) ?_ (hk _ _ (.old A B e0.val (h3.symm.trans e1)) ⟨⟨_, _, setB_same _ _ _ h1, ?_, e2⟩, ?_⟩ (grownBy_setBlock _ _ _))
    · simp [Instr.mapUpdate, run_underlying hu, MapKept.run_getObj_map h1, hK.check w false hlx, q1, hj, q3, hK.stays w hlx, MapKept.run_setObj_map _ h1, setBlock]
    · refine stamped_modify h2 _ _ (fun _ _ => rfl) (fun e' _ he' => ?_)
      rw [hj] at he'
      cases he'
      exact q3.symm
    · intro p hp
      rw [← h3, e1] at h4
      simp only [List.mem_append, List.mem_cons] at hp h4
      rcases hp with hp | rfl | hp
      · exact h4 p (.inl hp)
      · exact ⟨lx, hlx⟩
      · exact h4 p (.inr (.inr hp))

theorem Rv.gone {w : World} {K : Value → World → Prop} {t e ty kt : TypeId} {s b' : Nat} {z : Value} {b : Nat} {l : List (Value × Value)} (ht : look T t = some ⟨.map k e, s, b', z⟩)
    (h : Mp P k w b l) {x : Value} (hx : Good P k x) (hk : ∀ w' l', Gone l x l' → Mp P k w' b l' → w.grownBy w' (some b) → K (.tuple #[]) w') : Rv P (Builtin.delete_ #[t, kt] ty #[.map (some b), x]) w K := by
  have hu := und_map hT ht
  obtain ⟨⟨es, c, h1, h2, h3⟩, h4⟩ := h
  obtain ⟨lx, hlx⟩ := hx
  rcases Mp.find hK (w := w) (b := b) h4 h3 ⟨lx, hlx⟩ with ⟨q1, q2⟩ | ⟨j, e0, q1, q2, q3⟩
  · refine Rv.mk (w' := setBlock w b (.map es c)) ?_ (hk _ _ (.no q2) ⟨⟨_, _, setB_same _ _ _ h1, h2, h3⟩, h4⟩ (grownBy_setBlock _ _ _))
    simp [Builtin.delete_, run_underlying hu, MapKept.run_getObj_map h1, hK.check w _ hlx, q1, MapKept.run_setObj_map _ h1, setBlock]
  · obtain ⟨A, B, e1, _, e2⟩ := kvs_modify (v := x) q2 q3
    refine Rv.mk (w' := setBlock w b (.map (es.eraseIdxIfInBounds j) c)) ?_ (hk _ _ (.yes A B e0.val (h3.symm.trans e1)) ⟨⟨_, _, setB_same _ _ _ h1, stamped_erase h2 j, e2⟩, ?_⟩ (grownBy_setBlock _ _ _))
    · simp [Builtin.delete_, run_underlying hu, MapKept.run_getObj_map h1, hK.check w _ hlx, q1, MapKept.run_setObj_map _ h1, setBlock]
    · intro p hp
      rw [← h3, e1] at h4
      refine h4 p ?_
      simp only [List.mem_append, List.mem_cons] at hp ⊢
      rcases hp with hp | hp
      · exact .inl hp
      · exact .inr (.inr hp)
omit hK in
theorem Rv.mlen {w : World} {K : Value → World → Prop} {t e ty : TypeId} {s b' : Nat} {z : Value} {b : Nat} {l : List (Value × Value)} (ht : look T t = some ⟨.map k e, s, b', z⟩)
    (h : Mp P k w b l) (hk : K (.int .i64 l.length) w) : Rv P (Builtin.len_ #[t] ty #[.map (some b)]) w K := by
  have hu := und_map hT ht
  obtain ⟨⟨es, c, h1, h2, rfl⟩, h4⟩ := h
  refine Rv.mk (w' := w) (v := .int .i64 (kvs es).length) ?_ hk
  simp [Builtin.len_, run_underlying hu, MapKept.run_getObj_map h1, goInt, kvs]
end

/-! ### A loop over a map -/
/-- block r goes over the map b; these entries are still to come -/
structure It (w : World) (r b : Nat) (l left : List (Value × Value)) : Prop where
  of : ∃ es clock since seen c0, w.heap[b]? = some (.map es clock) ∧ Stamped es clock ∧ kvs es = l ∧ w.heap[r]? = some (.mapIter (some b) since seen c0) ∧ (∀ x ∈ es.toList, x.born < since) ∧ since ≤ c0 ∧ since ≤ clock ∧ left = (leftOf es seen).toList.map kv

theorem It.lt {w : World} {r b : Nat} {l left : List (Value × Value)} (h : It w r b l left) : b < w.heap.size ∧ r < w.heap.size := by
  obtain ⟨es, c, since, seen, c0, h1, h2, h3, h4, h5⟩ := h
  exact ⟨(Array.getElem?_eq_some_iff.1 h1).1, (Array.getElem?_eq_some_iff.1 h4).1⟩
theorem It.keep {w w' : World} {r b : Nat} {l left : List (Value × Value)} (h : It w r b l left) (hb : w'.heap[b]? = w.heap[b]?) (hr : w'.heap[r]? = w.heap[r]?) : It w' r b l left := by
  obtain ⟨es, c, since, seen, c0, h1, h2, h3, h4, h5⟩ := h
  exact ⟨es, c, since, seen, c0, hb.trans h1, h2, h3, hr.trans h4, h5⟩
theorem It.grown {w w' : World} {r b : Nat} {l left : List (Value × Value)} {row : Option Nat} (h : It w r b l left) (hg : w.grownBy w' row) (h1 : some b ≠ row) (h2 : some r ≠ row) : It w' r b l left :=
  h.keep (hg.block b h.lt.1 h1) (hg.block r h.lt.2 h2)
theorem It.below {w w' : World} {r b B : Nat} {l left : List (Value × Value)} (h : It w r b l left) (hb : Below B w w') (h1 : b < B) (h2 : r < B) : It w' r b l left :=
  h.keep (hb.block b h1) (hb.block r h2)
theorem It.map {P : Program} {k : TypeId} {w : World} {r b : Nat} {l left : List (Value × Value)} (h : It w r b l left) (hg : ∀ p ∈ l, Good P k p.1) : Mp P k w b l := by
  obtain ⟨es, c, since, seen, c0, h1, h2, h3, h4, h5⟩ := h
  exact ⟨⟨es, c, h1, h2, h3⟩, hg⟩

section
variable {P : Program} {T : Tab} (hT : TabOk P T) {k : TypeId}
include hT
theorem Rv.range {w : World} {K : Value → World → Prop} {t e : TypeId} {s b' : Nat} {z : Value} {b : Nat} {l : List (Value × Value)} (ht : look T t = some ⟨.map k e, s, b', z⟩) (h : Mp P k w b l)
    (hk : ∀ w', It w' w.heap.size b l l → w.grownBy w' none → K (.pointer (some ⟨w.heap.size, 0, none⟩)) w') : Rv P (Instr.range t (.map (some b))) w K := by
  have hu := und_map hT ht
  obtain ⟨⟨es, c, h1, h2, h3⟩, h4⟩ := h
  have hlt : b < w.heap.size := (Array.getElem?_eq_some_iff.1 h1).1
  refine Rv.mk (w' := w.alloc (.mapIter (some b) c #[] c)) ?_ (hk _ ⟨es, c, c, #[], c, ?_, h2, h3, heap_alloc_new w _, h2.1, Nat.le_refl _, Nat.le_refl _, ?_⟩ (World.grownBy_alloc w _ none))
  · simp [Instr.range, run_underlying hu, MapKept.run_getObj_map h1]
  · rw [Below.heap_alloc w _ b hlt]; exact h1
  · have : leftOf es #[] = es := by unfold leftOf; simp
    rw [this, ← h3]; rfl
/-- over no map -/
theorem Rv.rangeN {w : World} {K : Value → World → Prop} {t e : TypeId} {s b' : Nat} {z : Value} (ht : look T t = some ⟨.map k e, s, b', z⟩)
    (hk : ∀ w', w'.heap[w.heap.size]? = some (.mapIter none 0 #[] 0) → w.grownBy w' none → K (.pointer (some ⟨w.heap.size, 0, none⟩)) w') : Rv P (Instr.range t (.map none)) w K := by
  have hu := und_map hT ht
  refine Rv.mk (w' := w.alloc (.mapIter none 0 #[] 0)) ?_ (hk _ (heap_alloc_new w _) (World.grownBy_alloc w _ none))
  simp [Instr.range, run_underlying hu]
omit hT in
theorem Rv.nextN {w : World} {K : Value → World → Prop} {ty : TypeId} {r : Nat} (h : w.heap[r]? = some (.mapIter none 0 #[] 0)) (hk : K (.tuple #[.bool false]) w) : Rv P (Instr.next (.pointer (some ⟨r, 0, none⟩)) false ty) w K := by
  refine Rv.mk (w' := w) ?_ hk
  simp [Instr.next, getObj, Sem.run, h, Result.andThen]

omit hT in
theorem Rv.next {w : World} {K : Value → World → Prop} {ty : TypeId} {r b : Nat} {l left : List (Value × Value)} (h : It w r b l left)
    (h0 : left = [] → K (.tuple #[.bool false]) w)
    (h1 : ∀ p left' w', p ∈ left → p ∈ l → left'.length < left.length → (∀ q ∈ left, q = p ∨ q ∈ left') → (∀ q ∈ left', q ∈ left ∧ q.1 ≠ p.1) → It w' r b l left' → w.grownBy w' (some r) → K (.tuple #[.bool true, p.1, p.2]) w') :
    Rv P (Instr.next (.pointer (some ⟨r, 0, none⟩)) false ty) w K := by
  obtain ⟨es, c, since, seen, c0, e1, e2, e3, e4, e5, e6, e7, rfl⟩ := h
  rcases run_next_at (P := P) w ty r b since c0 seen es c e4 e1 e5 e6 with ⟨q1, q2⟩ | ⟨e, he, w1, hw1, q2⟩
  · refine Rv.mk q2 (h0 ?_)
    rw [Array.eq_empty_of_size_eq_zero q1]; rfl
  · have hml := mem_left he
    have hr1 : w1.heap[r]? = some (.mapIter (some b) since seen c0) := by rcases hw1 with rfl | rfl <;> exact e4
    have hb1 : w1.heap[b]? = some (.map es c) := by rcases hw1 with rfl | rfl <;> exact e1
    have hne : r ≠ b := fun hh => by subst hh; rw [e4] at e1; cases e1
    refine Rv.mk q2 (h1 (kv e) ((leftOf es (seen.push e.born)).toList.map kv) _ (List.mem_map_of_mem he) ?_ ?_ ?_ ?_ ⟨es, c, since, seen.push e.born, c, ?_, e2, e3, setB_same _ _ _ hr1, e5, e7, e7, rfl⟩ ?_)
    · rw [← e3]; exact List.mem_map_of_mem hml.1
    · have := left_shrinks es seen e he
      simpa using this
    · intro q hq
      obtain ⟨x, hx, rfl⟩ := List.mem_map.1 hq
      by_cases hb : x.born = e.born
      · have hxm := mem_left hx
        left
        have := find_born x es.toList e2.2.1 hxm.1
        have h' := find_born e es.toList e2.2.1 hml.1
        rw [hb, h'] at this
        injection this with this
        rw [this]
      · right
        refine List.mem_map_of_mem ?_
        have hxm := mem_left hx
        unfold leftOf
        simp only [Array.toList_filter, List.mem_filter]
        refine ⟨hxm.1, ?_⟩
        have h2 := hxm.2
        simp only [Array.contains_push, Bool.not_or, Bool.and_eq_true, Bool.not_eq_true', beq_eq_false_iff_ne]
        exact ⟨h2, hb⟩
    · intro q hq
      obtain ⟨x, hx, rfl⟩ := List.mem_map.1 hq
      have hxm := mem_left hx
      have h2 := hxm.2
      simp only [Array.contains_push, Bool.or_eq_false_iff, beq_eq_false_iff_ne] at h2
      refine ⟨List.mem_map_of_mem ?_, ?_⟩
      · unfold leftOf
        simp only [Array.toList_filter, List.mem_filter]
        exact ⟨hxm.1, by simpa using h2.1⟩
      · intro hk
        have hxe : x = e := entry_eq_of_key' e2.2.2 hxm.1 hml.1 hk
        subst hxe
        exact h2.2 rfl
    · rw [setB_other _ _ _ (fun hh => hne hh.symm)]; exact hb1
    · rcases hw1 with rfl | rfl
      · exact grownBy_setBlock _ _ _
      · exact ⟨rfl, rfl, rfl, by simp [setBlock], fun i _ hi => setB_other _ _ _ (fun e => hi (by rw [e]))⟩
where
  entry_eq_of_key' {l : List MapEntry} (h : (l.map (·.key)).Nodup) {x y : MapEntry} (hx : x ∈ l) (hy : y ∈ l) (hk : x.key = y.key) : x = y := by
    induction l with
    | nil => simp at hx
    | cons a l ih =>
      simp only [List.map_cons, List.nodup_cons] at h
      rcases List.mem_cons.1 hx with rfl | hx' <;> rcases List.mem_cons.1 hy with rfl | hy'
      · rfl
      · exact absurd (hk ▸ List.mem_map_of_mem (f := (·.key)) hy') h.1
      · exact absurd (hk ▸ List.mem_map_of_mem (f := (·.key)) hx') h.1
      · exact ih h.2 hx' hy'
end
end Go.Proofs.YtjafamiaahabgaaGreatDoor

namespace Go.Proofs.YtjafamiaahabgaaGreatDoor
open Go.RowKit
open Go.Maps (Keyed)
set_option linter.unusedVariables false
set_option linter.unusedSimpArgs false

/-! ### What kind of goal it is -/
theorem V.go {P : Program} {N : Nat} {c : Code} {Q : Exit → Env → World → Prop} {e : Env} {w : World} (h : V P N c Q e w) : V P N c Q e w := h
theorem Br.go {b : Bool} {A B : Prop} (h : Br b A B) : Br b A B := h
theorem Ld.go {P : Program} {w : World} {t : TypeId} {a : Addr} {K : Value → Prop} (h : Ld P w t a K) : Ld P w t a K := h
theorem St.go {P : Program} {w : World} {t : TypeId} {a : Addr} {v : Value} {K : World → Prop} (h : St P w t a v K) : St P w t a v K := h
theorem Lq.go {P : Program} {C : World → Prop} {t : TypeId} {a : Addr} {K : Value → Prop} (h : Lq P C t a K) : Lq P C t a K := h
theorem Ar.go {k : IntKind} {z : Int} {K : Int → Prop} (h : Ar k z K) : Ar k z K := h

/-! ### Lists, by reduction -/
/-- vs over the front of cs -/
def overL : List Value → List Value → List Value
  | cs, [] => cs
  | [], _ :: _ => []
  | _ :: cs, v :: vs => v :: overL cs vs
def splice : List Value → Nat → List Value → List Value
  | cs, 0, vs => overL cs vs
  | [], _ + 1, _ => []
  | c :: cs, i + 1, vs => c :: splice cs i vs
theorem overL_eq : ∀ cs vs : List Value, vs.length ≤ cs.length → overL cs vs = vs ++ cs.drop vs.length
  | cs, [], _ => by simp [overL]
  | [], _ :: _, h => by simp at h
  | _ :: cs, v :: vs, h => by simp [overL, overL_eq cs vs (by simpa using h)]
theorem splice_eq : ∀ (cs : List Value) (i : Nat) (vs : List Value), i + vs.length ≤ cs.length → splice cs i vs = cs.take i ++ vs ++ cs.drop (i + vs.length)
  | cs, 0, vs, h => by simp [splice, overL_eq cs vs (by simpa using h)]
  | [], i + 1, vs, h => by simp at h
  | c :: cs, i + 1, vs, h => by
    simp only [splice, splice_eq cs i vs (by simp at h; omega)]
    simp [Nat.add_right_comm]
theorem take_splice (A vs : List Value) (j N : Nat) (h1 : j + vs.length ≤ N) (h2 : N ≤ A.length) : (A.take j ++ vs ++ A.drop (j + vs.length)).take N = (A.take N).take j ++ vs ++ (A.take N).drop (j + vs.length) := by
  rw [List.take_append, List.take_of_length_le (by simp; omega), List.take_take, Nat.min_eq_left (by omega), List.drop_take]
  congr 2
  simp; omega
def takeL : List Value → Nat → List Value
  | _, 0 => []
  | [], _ + 1 => []
  | c :: cs, n + 1 => c :: takeL cs n
def dropL : List Value → Nat → List Value
  | cs, 0 => cs
  | [], _ + 1 => []
  | _ :: cs, n + 1 => dropL cs n
theorem takeL_eq : ∀ (cs : List Value) (n : Nat), takeL cs n = cs.take n
  | _, 0 => by simp [takeL]
  | [], _ + 1 => by simp [takeL]
  | c :: cs, n + 1 => by simp [takeL, takeL_eq cs n]
theorem dropL_eq : ∀ (cs : List Value) (n : Nat), dropL cs n = cs.drop n
  | _, 0 => by simp [dropL]
  | [], _ + 1 => by simp [dropL]
  | c :: cs, n + 1 => by simp [dropL, dropL_eq cs n]
def allOne : List Value → Bool
  | [] => true
  | v :: vs => match v.oneCell' with
    | true => allOne vs
    | false => false
theorem allOne_mem : ∀ {vs : List Value}, allOne vs = true → ∀ u ∈ vs, u.oneCell' = true
  | v :: vs, h, u, hu => by
    simp only [allOne] at h
    split at h
    · rename_i h1
      rcases List.mem_cons.1 hu with rfl | hu
      · exact h1
      · exact allOne_mem h u hu
    · cases h

/-- parts of a struct, laid over its cells -/
def fillS (T : Tab) (fs : List (Nat × TypeId)) : List Value → List (Nat × Value) → Option (List Value)
  | cells, [] => some cells
  | cells, (i, v) :: rest => match lget fs i with
    | some (off, t) => match look T t with
      | some ⟨_, sz, _, _⟩ => match Nat.beq (llen (cellsL v)) sz with
        | true => match Nat.ble (off + sz) (llen cells) with
          | true => fillS T fs (splice cells off (cellsL v)) rest
          | false => none
        | false => none
      | none => none
    | none => none
def allIn (T : Tab) : List (Nat × TypeId) → Bool
  | [] => true
  | (_, t) :: fs => match look T t with
    | some _ => allIn T fs
    | none => false
section
variable {P : Program} {T : Tab} (hT : TabOk P T)
include hT
omit hT in
theorem fillS_fill {places : Nat → Option (Nat × Nat)} {fs : List (Nat × TypeId)} (hp : ∀ i off t d, lget fs i = some (off, t) → look T t = some d → places i = some (off, d.size)) : ∀ (ps : List (Nat × Value)) (cells out : List Value), fillS T fs cells ps = some out →
    Instr.fill places cells.toArray ps = some out.toArray
  | [], cells, out, h => by simp only [fillS, Option.some.injEq] at h; subst h; rfl
  | (i, v) :: ps, cells, out, h => by
    simp only [fillS] at h
    split at h
    case h_2 => cases h
    rename_i off t h1
    split at h
    case h_2 => cases h
    rename_i sz by' z h2
    split at h
    case h_2 => cases h
    rename_i h3
    split at h
    case h_2 => cases h
    rename_i h4
    have h3' := Nat.eq_of_beq_eq_true h3
    have h4' := Nat.le_of_ble_eq_true h4
    rw [llen_eq] at h3' h4'
    have hpl := hp i off t _ h1 h2
    simp only [Instr.fill, hpl]
    have hc : v.cells = (cellsL v).toArray := cellsL_eq v
    rw [if_neg (by rw [hc]; simp; omega)]
    have e1 : (Array.foldl (fun (cs : Array Value) (x : Value × Nat) => match x with | (c, j) => cs.setIfInBounds (off + j) c) cells.toArray (v.cells.zipIdx)) = (splice cells off (cellsL v)).toArray := by
      have := foldl_set off (cellsL v) 0 cells (by omega)
      simp only [Nat.add_zero] at this
      rw [splice_eq _ _ _ (by omega), ← this, ← Array.foldl_toList, hc]
      simp only [Array.toList_zipIdx]
    rw [e1]
    exact fillS_fill hp ps _ _ h
omit hT in
theorem allIn_mem : ∀ {fs : List (Nat × TypeId)}, allIn T fs = true → ∀ f ∈ fs, ∃ d, look T f.2 = some d
  | (o, t) :: fs, h, f, hf => by
    simp only [allIn] at h
    split at h
    · rename_i d hd
      rcases List.mem_cons.1 hf with rfl | hf
      · exact ⟨d, hd⟩
      · exact allIn_mem h f hf
    · cases h
/-- a literal 'T{..}' of a struct -/
theorem Qv.str {K : Value → Prop} {t : TypeId} {fs : List (Nat × TypeId)} {s b : Nat} {z : Value} {ps : Array (Nat × Value)} {cells : List Value} (ht : look T t = some ⟨.struct fs, s, b, z⟩) (ha : allIn T fs = true)
    (hf : fillS T fs (cellsL z) ps.toList = some cells) (hk : K (.agg cells.toArray)) : Qv P (Instr.build t ps) K := by
  refine Qv.mk _ (fun w => ?_) hk
  obtain ⟨u, hu, hs⟩ := shOf_cases hT ht
  cases u <;> simp only [shOf, reduceCtorEq, Sh.struct.injEq] at hs
  rename_i fields
  have hzz := (hT _ _ ht).run_zero w
  have hm : ∀ l : List Field, (∀ f ∈ l, ∃ d, look T f.type = some d) → (l.mapM fun f => (do pure (f.offset, ← sizeOf f.type) : Sem (Nat × Nat))).run P w = .ok (l.map fun f => (f.offset, P.cellsOf f.type)) w := by
    intro l
    induction l with
    | nil => intro _; simp
    | cons f l ih =>
      intro h
      obtain ⟨d, hd⟩ := h f (by simp)
      have h1 := (hT _ _ hd).run_size w
      have h2 := ih fun g hg => h g (by simp [hg])
      rw [List.mapM_cons]
      simp only [Sem.run_bind, h1, Result.andThen_ok, Sem.run_pure, h2, List.map_cons, cellsOf_td hT hd]
  have hall : ∀ f ∈ fields.toList, ∃ d, look T f.type = some d := fun f hf => allIn_mem ha (f.offset, f.type) (by rw [← hs]; exact List.mem_map_of_mem (f := fun f : Field => (f.offset, f.type)) hf)
  have hpl := hm fields.toList hall
  have hfill := fillS_fill (T := T) (places := fun i => (fields.toList.map fun f => (f.offset, P.cellsOf f.type))[i]?) (fun i off t d h1 h2 => by
    rw [lget_eq, ← hs] at h1
    simp only [List.getElem?_map, Option.map_eq_some_iff] at h1
    obtain ⟨f, hf, he⟩ := h1
    injection he with e1 e2
    subst e1; subst e2
    simp only [List.getElem?_map, hf, Option.map_some, cellsOf_td hT h2]) ps.toList _ _ hf
  have hc : z.cells = (cellsL z).toArray := cellsL_eq z
  have hidx : (fun i : Nat => ((fields.toList.map fun f => (f.offset, P.cellsOf f.type)).toArray)[i]?) = (fun i : Nat => (fields.toList.map fun f => (f.offset, P.cellsOf f.type))[i]?) := by
    funext i; simp
  simp only [Instr.build, Sem.run_bind, hzz, run_underlying hu, Result.andThen_ok, Array.mapM_eq_mapM_toList, Sem.run_map, hpl, hc]
  simp only [hidx, hfill, Sem.run_pure]
end

/-! ### Things -/
inductive Res where
  | blk (b : Nat) (cs : List Value) (e : TypeId)
  | row (e : TypeId) (sz : Nat) (v : Value) (n : Nat) (xs : List Value)
  | ro (v : Value) (xs : List Value)
  | rc (e : TypeId) (v : Value) (n : Nat) (xs : List Value)
  | mp (k : TypeId) (b : Nat) (l : List (Value × Value))
  | ent (k : TypeId) (b : Nat) (A : List (Value × Value)) (x v : Value) (B : List (Value × Value)) (st : Nat)
  | it (k : TypeId) (r b : Nat) (l left : List (Value × Value)) (cur : Option (Value × Value))

def rowB : Option Nat → List Nat
  | none => []
  | some b => [b]
def Res.blocks : Res → List Nat
  | .blk b _ _ => [b]
  | .row _ _ v _ _ => rowB v.ownBlock
  | .ro v _ => rowB v.ownBlock
  | .rc _ v _ _ => rowB v.ownBlock
  | .mp _ b _ => [b]
  | .ent _ b _ _ _ _ _ => [b]
  | .it _ r b _ _ _ => [r, b]

/-- a row of one's own, of one cell each, whose room may end ahead of its block -/
structure RowC (w : World) (e : TypeId) (v : Value) (n : Nat) (xs : List Value) : Prop where
  len : xs.length = n
  of : (v = .slice none 0 0 ∧ n = 0) ∨ ∃ g cap cur, v = .slice (some ⟨g, 0, none⟩) n cap ∧ w.heap[g]? = some (.cells cur e (0, 0)) ∧ n ≤ cap ∧ cap ≤ maxLen ∧ cap ≤ cur.size ∧ cur.toList.take n = xs

structure Ent (P : Program) (k : TypeId) (w : World) (b : Nat) (A : List (Value × Value)) (x v : Value) (B : List (Value × Value)) (st : Nat) : Prop where
  of : ∃ es clock e0, w.heap[b]? = some (.map es clock) ∧ MapKept.Stamped es clock ∧ kvs es = A ++ (x, v) :: B ∧ es.toList[A.length]? = some e0 ∧ e0.born = st
  good : ∀ p ∈ A ++ (x, v) :: B, Good P k p.1
structure Its (P : Program) (k : TypeId) (w : World) (r b : Nat) (l left : List (Value × Value)) (cur : Option (Value × Value)) : Prop where
  of : ∃ es clock since seen c0, w.heap[b]? = some (.map es clock) ∧ MapKept.Stamped es clock ∧ kvs es = l ∧ w.heap[r]? = some (.mapIter (some b) since seen c0) ∧ (∀ x ∈ es.toList, x.born < since) ∧ since ≤ c0 ∧ since ≤ clock ∧ left = (leftOf es seen).toList.map kv ∧
    ∀ p, cur = some p → ∃ (e : MapEntry) (seen' : Array Nat), e ∈ es.toList ∧ kv e = p ∧ seen = seen'.push e.born ∧ c0 = clock
  good : ∀ p ∈ l, Good P k p.1

def Res.holds (P : Program) (w : World) : Res → Prop
  | .blk b cs e => Blk w b cs e
  | .row e sz v n xs => w.ownsRow 0 e sz v n xs
  | .ro v xs => Sl w v xs ∧ ∀ b, v.ownBlock = some b → b < w.heap.size
  | .rc e v n xs => RowC w e v n xs
  | .mp k b l => Mp P k w b l
  | .ent k b A x v B st => Ent P k w b A x v B st
  | .it k r b l left cur => Its P k w r b l left cur

theorem mem_rowB {v : Option Nat} {b : Nat} : b ∈ rowB v ↔ v = some b := by cases v <;> simp [rowB, eq_comm]

theorem RowC.nil (w : World) (e : TypeId) : RowC w e (.slice none 0 0) 0 [] := ⟨rfl, .inl ⟨rfl, rfl⟩⟩
theorem RowC.lt {w : World} {e : TypeId} {v : Value} {n : Nat} {xs : List Value} (h : RowC w e v n xs) {b : Nat} (hb : v.ownBlock = some b) : b < w.heap.size := by
  rcases h.of with ⟨rfl, _⟩ | ⟨g, cap, cur, rfl, h1, _⟩
  · cases hb
  · injection hb with hb; subst hb
    exact (Array.getElem?_eq_some_iff.1 h1).1
theorem RowC.keep {w w' : World} {e : TypeId} {v : Value} {n : Nat} {xs : List Value} (h : RowC w e v n xs) (hb : ∀ b, v.ownBlock = some b → w'.heap[b]? = w.heap[b]?) : RowC w' e v n xs := by
  refine ⟨h.len, ?_⟩
  rcases h.of with h1 | ⟨g, cap, cur, rfl, h1, h2⟩
  · exact .inl h1
  · exact .inr ⟨g, cap, cur, rfl, (hb g rfl).trans h1, h2⟩
theorem RowC.of_own {w : World} {B : Nat} {e : TypeId} {v : Value} {n : Nat} {xs : List Value} (h : w.ownsRow B e 1 v n xs) : RowC w e v n xs := by
  refine ⟨by simpa using h.1, ?_⟩
  rcases h.2 with h1 | ⟨g, cap, cur, rfl, _, h1, h2, h3, h4, h5⟩
  · exact .inl h1
  · exact .inr ⟨g, cap, cur, rfl, h1, h2, h3, by omega, by simpa using h5⟩
theorem RowC.shape {w : World} {e : TypeId} {v : Value} {n : Nat} {xs : List Value} (h : RowC w e v n xs) : ∃ a c, v = .slice a n c := by
  rcases h.of with ⟨rfl, rfl⟩ | ⟨g, cap, cur, rfl, _⟩
  · exact ⟨_, _, rfl⟩
  · exact ⟨_, _, rfl⟩
theorem RowC.sl {w : World} {e : TypeId} {v : Value} {n : Nat} {xs : List Value} (h : RowC w e v n xs) : Sl w v xs := by
  have hl := h.len
  rcases h.of with ⟨rfl, rfl⟩ | ⟨g, cap, cur, rfl, h1, h2, h3, h4, h5⟩
  · obtain rfl := List.eq_nil_of_length_eq_zero hl
    exact Sl.nil w
  · refine Sl.some' hl.symm (by omega) h3 fun j x hx => ?_
    have hj := (List.getElem?_eq_some_iff.1 hx).1
    rw [← h5, List.getElem?_take] at hx
    split at hx
    · have hx' : cur[j]? = some x := by simpa using hx
      simp [World.cell?, h1, hx']
    · cases hx
/-- a shorter one, with no room behind it -/
theorem RowC.cut {w : World} {e : TypeId} {g n c k : Nat} {xs : List Value} (h : RowC w e (.slice (some ⟨g, 0, none⟩) n c) n xs) (hk : k ≤ n) : RowC w e (.slice (some ⟨g, 0, none⟩) k k) k (xs.take k) := by
  rcases h.of with ⟨h1, _⟩ | ⟨g', cap, cur, h0, h1, h2, h3, h4, h5⟩
  · cases h0 : h1
  · injection h0 with e1 e2 e3
    injection e1 with e1
    injection e1 with e1
    subst e1; subst e3
    exact ⟨by rw [List.length_take, h.len]; omega, .inr ⟨g, k, cur, rfl, h1, Nat.le_refl _, by omega, by omega, by rw [← h5, List.take_take, Nat.min_eq_left hk]⟩⟩

theorem Res.lt {P : Program} {w : World} : ∀ {R : Res}, R.holds P w → ∀ b ∈ R.blocks, b < w.heap.size
  | .blk b cs e, h, x, hx => by simp only [Res.blocks, List.mem_singleton] at hx; subst hx; exact Blk.lt h
  | .row e sz v n xs, h, x, hx => (World.ownsRow.lt h x (mem_rowB.1 hx)).2
  | .ro v xs, h, x, hx => h.2 x (mem_rowB.1 hx)
  | .rc e v n xs, h, x, hx => RowC.lt h (mem_rowB.1 hx)
  | .mp k b l, h, x, hx => by simp only [Res.blocks, List.mem_singleton] at hx; subst hx; exact Mp.lt h
  | .ent k b A y v B st, h, x, hx => by
    simp only [Res.blocks, List.mem_singleton] at hx; subst hx
    obtain ⟨es, c, e0, h1, _⟩ := Ent.of h
    exact (Array.getElem?_eq_some_iff.1 h1).1
  | .it k r b l left cur, h, x, hx => by
    obtain ⟨es, c, s, seen, c0, h1, _, _, h4, _⟩ := Its.of h
    simp only [Res.blocks, List.mem_cons, List.not_mem_nil, or_false] at hx
    rcases hx with rfl | rfl
    · exact (Array.getElem?_eq_some_iff.1 h4).1
    · exact (Array.getElem?_eq_some_iff.1 h1).1

theorem own_keeps {w w' : World} {e : TypeId} {sz : Nat} {v : Value} {n : Nat} {xs : List Value} (h : w.ownsRow 0 e sz v n xs) (hb : ∀ b, v.ownBlock = some b → w'.heap[b]? = w.heap[b]?) : w'.ownsRow 0 e sz v n xs := by
  refine ⟨h.1, ?_⟩
  rcases h.2 with h2 | ⟨g, cap, cur, rfl, h3, hg, h4⟩
  · exact .inl h2
  · exact .inr ⟨g, cap, cur, rfl, h3, (hb g rfl).trans hg, h4⟩

theorem Res.keep {P : Program} {w w' : World} : ∀ {R : Res}, R.holds P w → (∀ b ∈ R.blocks, w'.heap[b]? = w.heap[b]?) → R.holds P w'
  | .ro v xs, h, hb => ⟨h.1.keep fun k hk _ => hb k (mem_rowB.2 hk), fun b hv => by
    have h1 := h.2 b hv
    have h2 := hb b (mem_rowB.2 hv)
    rw [Array.getElem?_eq_getElem h1] at h2
    exact (Array.getElem?_eq_some_iff.1 h2).1⟩
  | .blk b cs e, h, hb => Blk.keep h (hb b (by simp [Res.blocks]))
  | .rc e v n xs, h, hb => RowC.keep h fun b hv => hb b (mem_rowB.2 hv)
  | .row e sz v n xs, h, hb => own_keeps h fun b hv => hb b (mem_rowB.2 hv)
  | .mp k b l, h, hb => Mp.keep h (hb b (by simp [Res.blocks]))
  | .ent k b A y v B st, h, hb => by
    obtain ⟨⟨es, c, e0, h1, h2⟩, h3⟩ := h
    exact ⟨⟨es, c, e0, (hb b (by simp [Res.blocks])).trans h1, h2⟩, h3⟩
  | .it k r b l left cur, h, hb => by
    obtain ⟨⟨es, c, s, seen, c0, h1, h2, h3, h4, h5⟩, h6⟩ := h
    exact ⟨⟨es, c, s, seen, c0, (hb b (by simp [Res.blocks])).trans h1, h2, h3, (hb r (by simp [Res.blocks])).trans h4, h5⟩, h6⟩

theorem flatMap_sub {α β : Type} (f : α → List β) : ∀ {l l' : List α}, l.Sublist l' → (l.flatMap f).Sublist (l'.flatMap f)
  | _, _, .slnil => List.Sublist.refl _
  | _, _, .cons a h => by
    rw [List.flatMap_cons]
    exact (flatMap_sub f h).trans (List.sublist_append_right _ _)
  | _, _, .cons_cons a h => by
    rw [List.flatMap_cons, List.flatMap_cons]
    exact (List.Sublist.refl _).append (flatMap_sub f h)
theorem front_perm {α : Type} {L : List α} {i : Nat} {R : α} (hi : L[i]? = some R) : L.Perm (R :: L.eraseIdx i) := by
  have hl := (List.getElem?_eq_some_iff.1 hi).1
  rw [List.eraseIdx_eq_take_drop_succ]
  conv => lhs; rw [← List.take_append_drop i L]
  rw [List.drop_eq_getElem_cons hl, (List.getElem?_eq_some_iff.1 hi).2]
  exact List.perm_middle

/-- since w0, nothing below B has turned; these things are there, each in blocks of its own from B on -/
structure Sep (P : Program) (B : Nat) (w0 w : World) (L : List Res) : Prop where
  below : Below B w0 w
  hold : ∀ R ∈ L, R.holds P w
  own : ∀ R ∈ L, ∀ b ∈ R.blocks, B ≤ b
  apart : (L.flatMap Res.blocks).Nodup

/-- what turned: these blocks alone, of those that were there -/
structure Turns (w w' : World) (bs : List Nat) : Prop where
  os : w'.os = w.os
  tape : w'.tape = w.tape
  output : w'.output = w.output
  size : w.heap.size ≤ w'.heap.size
  block : ∀ k, k < w.heap.size → k ∉ bs → w'.heap[k]? = w.heap[k]?
theorem Turns.of_grown {w w' : World} {row : Option Nat} (h : w.grownBy w' row) : Turns w w' (rowB row) :=
  ⟨h.os, h.tape, h.output, h.size, fun k hk hn => h.block k hk (fun e => hn (mem_rowB.2 e.symm))⟩
theorem Turns.of_below {w w' : World} (h : Below w.heap.size w w') : Turns w w' [] := ⟨h.os, h.tape, h.output, h.size, fun k hk _ => h.block k hk⟩

section
variable {P : Program} {B : Nat} {w0 w : World} {L : List Res}
theorem Sep.start (P : Program) (w : World) : Sep P w.heap.size w w [] := ⟨Below.refl _ w, by simp, by simp, by simp⟩
theorem Sep.drew (h : Sep P B w0 w L) : Sep P B w0 w.drew L := ⟨h.below.drew, fun R hR => Res.keep (h.hold R hR) fun _ _ => rfl, h.own, h.apart⟩
theorem Sep.lt (h : Sep P B w0 w L) {R : Res} (hR : R ∈ L) {b : Nat} (hb : b ∈ R.blocks) : B ≤ b ∧ b < w.heap.size := ⟨h.own R hR b hb, Res.lt (h.hold R hR) b hb⟩
theorem Sep.size (h : Sep P B w0 w L) : w0.heap.size ≤ w.heap.size := h.below.size

/-- the general step: thing number i turns into another one, which may lie in its blocks or in new ones -/
theorem Sep.step {w' : World} (h : Sep P B w0 w L) {i : Nat} {R R' : Res} (hi : L[i]? = some R) (hB : B ≤ w.heap.size) (ht : Turns w w' R.blocks) (hR : R'.holds P w') (hb : ∀ b ∈ R'.blocks, b ∈ R.blocks ∨ w.heap.size ≤ b) (hn : R'.blocks.Nodup) : Sep P B w0 w' (L.set i R') := by
  have hmem := List.mem_of_getElem? hi
  have hil := (List.getElem?_eq_some_iff.1 hi).1
  have hsplit : L = L.take i ++ R :: L.drop (i + 1) := by
    conv => lhs; rw [← List.take_append_drop i L]
    rw [List.drop_eq_getElem_cons hil, (List.getElem?_eq_some_iff.1 hi).2]
  have hset : L.set i R' = L.take i ++ R' :: L.drop (i + 1) := by rw [List.set_eq_take_append_cons_drop, if_pos hil]
  have hap := h.apart
  rw [hsplit] at hap
  simp only [List.flatMap_append, List.flatMap_cons, List.nodup_append, List.mem_append] at hap
  obtain ⟨a1, ⟨a2, a3, a4⟩, a5⟩ := hap
  have hsub : ∀ Q ∈ L.take i ++ L.drop (i + 1), Q ∈ L := fun Q hQ => by
    rw [hsplit]
    simp only [List.mem_append, List.mem_cons] at hQ ⊢
    rcases hQ with h1 | h1
    · exact .inl h1
    · exact .inr (.inr h1)
  have hother : ∀ Q ∈ L.take i ++ L.drop (i + 1), ∀ b ∈ Q.blocks, b ∉ R.blocks := fun Q hQ b hb hbR => by
    rcases List.mem_append.1 hQ with h1 | h1
    · exact a5 b (List.mem_flatMap.2 ⟨Q, h1, hb⟩) b (.inl hbR) rfl
    · exact a4 b hbR b (List.mem_flatMap.2 ⟨Q, h1, hb⟩) rfl
  have hnew : ∀ Q ∈ L.take i ++ L.drop (i + 1), ∀ b ∈ Q.blocks, b ∉ R'.blocks := fun Q hQ b hbQ hbR => by
    rcases hb b hbR with h1 | h1
    · exact hother Q hQ b hbQ h1
    · have := (h.lt (hsub Q hQ) hbQ).2; omega
  refine ⟨⟨ht.os.trans h.below.os, ht.tape.trans h.below.tape, ht.output.trans h.below.output, Nat.le_trans h.below.size ht.size, fun k hk => ?_⟩, fun Q hQ => ?_, fun Q hQ => ?_, ?_⟩
  · exact (ht.block k (by omega) fun hc => by have := (h.lt hmem hc).1; omega).trans (h.below.block k hk)
  · rw [hset] at hQ
    simp only [List.mem_append, List.mem_cons] at hQ
    have hkeep : ∀ Q ∈ L.take i ++ L.drop (i + 1), Q.holds P w' := fun Q hQ => Res.keep (h.hold Q (hsub Q hQ)) fun b hb => ht.block b (h.lt (hsub Q hQ) hb).2 (hother Q hQ b hb)
    rcases hQ with h1 | rfl | h1
    · exact hkeep Q (List.mem_append.2 (.inl h1))
    · exact hR
    · exact hkeep Q (List.mem_append.2 (.inr h1))
  · rw [hset] at hQ
    simp only [List.mem_append, List.mem_cons] at hQ
    rcases hQ with h1 | rfl | h1
    · exact h.own Q (hsub Q (List.mem_append.2 (.inl h1)))
    · intro b hbb
      rcases hb b hbb with h2 | h2
      · exact h.own R hmem b h2
      · omega
    · exact h.own Q (hsub Q (List.mem_append.2 (.inr h1)))
  · rw [hset]
    simp only [List.flatMap_append, List.flatMap_cons, List.nodup_append, List.mem_append]
    refine ⟨a1, ⟨hn, a3, fun a ha b hb hab => ?_⟩, fun a ha b hb hab => ?_⟩
    · subst hab
      obtain ⟨Q, hQ, hq⟩ := List.mem_flatMap.1 hb
      exact hnew Q (List.mem_append.2 (.inr hQ)) a hq ha
    · subst hab
      obtain ⟨Q, hQ, hq⟩ := List.mem_flatMap.1 ha
      rcases hb with hb | hb
      · exact hnew Q (List.mem_append.2 (.inl hQ)) a hq hb
      · exact a5 a ha a (.inr hb) rfl
/-- a new thing, in new blocks -/
theorem Sep.add {w' : World} (h : Sep P B w0 w L) {R : Res} (hB : B ≤ w.heap.size) (ht : Turns w w' []) (hR : R.holds P w') (hb : ∀ b ∈ R.blocks, w.heap.size ≤ b) (hn : R.blocks.Nodup) : Sep P B w0 w' (R :: L) := by
  refine ⟨⟨ht.os.trans h.below.os, ht.tape.trans h.below.tape, ht.output.trans h.below.output, Nat.le_trans h.below.size ht.size, fun k hk => (ht.block k (by omega) (by simp)).trans (h.below.block k hk)⟩, fun Q hQ => ?_, fun Q hQ => ?_, ?_⟩
  · rcases List.mem_cons.1 hQ with rfl | hQ
    · exact hR
    · exact Res.keep (h.hold Q hQ) fun b hb => ht.block b (h.lt hQ hb).2 (by simp)
  · rcases List.mem_cons.1 hQ with rfl | hQ
    · exact fun b hbb => Nat.le_trans hB (hb b hbb)
    · exact h.own Q hQ
  · simp only [List.flatMap_cons, List.nodup_append]
    refine ⟨hn, h.apart, fun a ha b hbb hab => ?_⟩
    subst hab
    obtain ⟨Q, hQ, hq⟩ := List.mem_flatMap.1 hbb
    have := (h.lt hQ hq).2
    have := hb a ha
    omega
/-- a call that leaves all that was there -/
theorem Sep.call {w' : World} (h : Sep P B w0 w L) (hB : B ≤ w.heap.size) (ht : Turns w w' []) : Sep P B w0 w' L :=
  ⟨⟨ht.os.trans h.below.os, ht.tape.trans h.below.tape, ht.output.trans h.below.output, Nat.le_trans h.below.size ht.size, fun k hk => (ht.block k (by omega) (by simp)).trans (h.below.block k hk)⟩,
    fun Q hQ => Res.keep (h.hold Q hQ) fun b hb => ht.block b (h.lt hQ hb).2 (by simp), h.own, h.apart⟩
theorem Sep.sub (h : Sep P B w0 w L) {L' : List Res} (hs : L'.Sublist L) : Sep P B w0 w L' :=
  ⟨h.below, fun R hR => h.hold R (hs.subset hR), fun R hR => h.own R (hs.subset hR), h.apart.sublist (flatMap_sub _ hs)⟩
theorem Sep.perm (h : Sep P B w0 w L) {L' : List Res} (hp : L.Perm L') : Sep P B w0 w L' :=
  ⟨h.below, fun R hR => h.hold R (hp.mem_iff.2 hR), fun R hR => h.own R (hp.mem_iff.2 hR), (hp.flatMap_right _).nodup_iff.1 h.apart⟩
/-- thing number i is let go -/
theorem Sep.pop (h : Sep P B w0 w L) (i : Nat) : Sep P B w0 w (L.eraseIdx i) := h.sub (List.eraseIdx_sublist _ _)
theorem Sep.tl {R : Res} (h : Sep P B w0 w (R :: L)) : Sep P B w0 w L := h.sub (List.sublist_cons_self _ _)
/-- thing number i comes first -/
theorem Sep.front (h : Sep P B w0 w L) {i : Nat} {R : Res} (hi : L[i]? = some R) : Sep P B w0 w (R :: L.eraseIdx i) := by
  exact h.perm (front_perm hi)
theorem Sep.at (h : Sep P B w0 w L) {i : Nat} {R : Res} (hi : L[i]? = some R) : R.holds P w := h.hold R (List.mem_of_getElem? hi)
theorem Sep.blk (h : Sep P B w0 w L) {i : Nat} {b : Nat} {cs : List Value} {e : TypeId} (hi : L[i]? = some (.blk b cs e)) : Blk w b cs e := h.at hi
/-- what is read below B is read still -/
theorem Sep.sl (h : Sep P B w0 w L) {v : Value} {xs : List Value} (hs : Sl w0 v xs) (hB : B = w0.heap.size) : Sl w v xs := by
  subst hB; exact hs.below h.below
theorem Sep.row {e : TypeId} {v : Value} {n : Nat} {xs : List Value} (h : Sep P B w0 w L) {i : Nat} (hi : L[i]? = some (.row e 1 v n xs)) : Sl w v xs := Sl.of_own (h.at hi)
theorem Sep.rowN {e : TypeId} {v : Value} {sz n : Nat} {xs : List Value} (h : Sep P B w0 w L) {i : Nat} (hi : L[i]? = some (.row e sz v n xs)) : SlN w sz v n xs := SlN.of_own (h.at hi)
/-- a row of one's own that came back from a call -/
theorem Sep.addRow {w' : World} (h : Sep P B w0 w L) {e : TypeId} {sz : Nat} {v : Value} {n : Nat} {xs : List Value} (hB : B ≤ w.heap.size) (ht : Below w.heap.size w w') (hR : w'.ownsRow w.heap.size e sz v n xs) : Sep P B w0 w' (.row e sz v n xs :: L) :=
  h.add hB (Turns.of_below ht) (show w'.ownsRow 0 e sz v n xs from own_mono hR (Nat.zero_le _)) (fun b hb => (hR.lt b (mem_rowB.1 hb)).1) (by cases hv : v.ownBlock <;> simp [Res.blocks, hv, rowB])
theorem Sep.nilRow (h : Sep P B w0 w L) (e : TypeId) (sz : Nat) : Sep P B w0 w (.row e sz (.slice none 0 0) 0 [] :: L) :=
  ⟨h.below, fun Q hQ => by
    rcases List.mem_cons.1 hQ with rfl | hQ
    · exact World.ownsRow_nil w 0 e sz
    · exact h.hold Q hQ, fun Q hQ => by
    rcases List.mem_cons.1 hQ with rfl | hQ
    · simp [Res.blocks, Value.ownBlock, rowB]
    · exact h.own Q hQ, by simpa [Res.blocks, Value.ownBlock, rowB] using h.apart⟩
end

theorem own_raise {w : World} {B : Nat} {e : TypeId} {sz : Nat} {v : Value} {n : Nat} {xs : List Value} (h : w.ownsRow 0 e sz v n xs) (hb : ∀ b, v.ownBlock = some b → B ≤ b) : w.ownsRow B e sz v n xs := by
  refine ⟨h.1, ?_⟩
  rcases h.2 with h2 | ⟨g, cap, cur, rfl, h3, h4⟩
  · exact .inl h2
  · exact .inr ⟨g, cap, cur, rfl, hb g rfl, h4⟩

/-! ### At the operations -/
section
variable {P : Program} {T : Tab} (hT : TabOk P T) {B : Nat} {w0 w : World} {L : List Res} (hL : Sep P B w0 w L)
include hL

theorem Nw.sep {K : Nat → World → Prop} {cs : List Value} {e : TypeId} (hB : B ≤ w.heap.size) (h : ∀ b w', Sep P B w0 w' (.blk b cs e :: L) → B ≤ w'.heap.size → w.heap.size ≤ b → K b w') : Nw w (.cells cs.toArray e) K :=
  Nw.cells fun b w' hb hbl hg hlt => h b w' (hL.add hB (Turns.of_grown hg) hbl (by simp [Res.blocks]; omega) (by simp [Res.blocks])) (by omega) (by omega)
theorem Nw.sepM {K : Nat → World → Prop} (k : TypeId) (hB : B ≤ w.heap.size) (h : ∀ b w', Sep P B w0 w' (.mp k b [] :: L) → B ≤ w'.heap.size → w.heap.size ≤ b → K b w') : Nw w (.map #[] 0) K :=
  Nw.map (P := P) (k := k) fun b w' hb hbl hg hlt => h b w' (hL.add hB (Turns.of_grown hg) hbl (by simp [Res.blocks]; omega) (by simp [Res.blocks])) (by omega) (by omega)

include hT
/-- a load of one cell or of several, out of a block -/
theorem Ld.sep {t : TypeId} {d : Td} {b i : Nat} {K : Value → Prop} {v : Value} (n : Nat) {cs : List Value} {e : TypeId} (hl : look T t = some d) (ha : d.sh.agg = false) (hn : L[n]? = some (.blk b cs e)) (hv : lget cs i = some v) (hk : K v) : Ld P w t ⟨b, i, none⟩ K :=
  Ld.blk hT hl ha (hL.blk hn) (by rw [← lget_eq]; exact hv) hk
theorem Ld.seps {t : TypeId} {d : Td} {b i : Nat} {K : Value → Prop} (n : Nat) {cs : List Value} {e : TypeId} (hl : look T t = some d) (ha : d.sh.agg = true) (hn : L[n]? = some (.blk b cs e)) (hi : Nat.ble (i + d.size) (llen cs) = true) (hk : K (.agg (takeL (dropL cs i) d.size).toArray)) : Ld P w t ⟨b, i, none⟩ K := by
  have hi' := Nat.le_of_ble_eq_true hi
  rw [llen_eq] at hi'
  rw [takeL_eq, dropL_eq] at hk
  exact Ld.blks hT _ hl ha (hL.blk hn) (by simp; omega) (fun j x hx => by
    rw [List.getElem?_take, List.getElem?_drop] at hx
    split at hx
    · exact hx
    · cases hx) hk
theorem St.sep {t : TypeId} {d : Td} {b i : Nat} {v : Value} {K : World → Prop} (n : Nat) {cs : List Value} {e : TypeId} (hl : look T t = some d) (hs : Nat.beq (llen (cellsL v)) d.size = true) (h1 : allOne (cellsL v) = true) (hn : L[n]? = some (.blk b cs e)) (hi : Nat.ble (i + d.size) (llen cs) = true) (hB : B ≤ w.heap.size)
    (hk : ∀ w', Sep P B w0 w' (L.set n (.blk b (splice cs i (cellsL v)) e)) → B ≤ w'.heap.size → K w') : St P w t ⟨b, i, none⟩ v K := by
  have hi' := Nat.le_of_ble_eq_true hi
  rw [llen_eq] at hi'
  have hs' := Nat.eq_of_beq_eq_true hs
  rw [llen_eq] at hs'
  have key : ∀ w', Blk w' b (cs.take i ++ cellsL v ++ cs.drop (i + (cellsL v).length)) e → w.grownBy w' (some b) → K w' := fun w' hb hg => by
    have ht := Turns.of_grown hg
    refine hk w' (hL.step hn hB ht (show Blk w' b _ e from ?_) (fun c hc => .inl hc) (by simp [Res.blocks])) (Nat.le_trans hB hg.size)
    rw [splice_eq _ _ _ (by omega)]
    exact hb
  have hb := hL.blk hn
  have hrow : w.heap[b]? = some (.cells cs.toArray e (0, 0)) := hb
  have hz := (hT _ _ hl).run_size w
  refine St.mk (w' := w.setRow b (cs.take i ++ cellsL v ++ cs.drop (i + (cellsL v).length)).toArray) ?_ (key _ ?_ (grownBy_setRow w b _))
  · have := run_storeCells_at P b i e (cellsL v) 0 cs.toArray w hrow (by simp; omega) (allOne_mem h1)
    simp only [Nat.add_zero] at this
    have hc := cellsL_eq v
    simp [storeVar, hz, hc, hs', this]
  · have := setRow_heap w b cs.toArray (cs.take i ++ cellsL v ++ cs.drop (i + (cellsL v).length)).toArray e (0, 0) hrow
    simpa [Blk] using this

/-- reads in a region whose order is open -/
theorem Lq.sep {t : TypeId} {d : Td} {b i : Nat} {K : Value → Prop} {v : Value} (n : Nat) {cs : List Value} {e : TypeId} (hl : look T t = some d) (ha : d.sh.agg = false) (hn : L[n]? = some (.blk b cs e)) (hv : lget cs i = some v) (hk : K v) : Lq P (fun x => x = w) t ⟨b, i, none⟩ K :=
  Lq.mk v (fun w' hw => by
    subst hw
    obtain ⟨u, hu, rfl⟩ := (Ld.sep (K := fun u => u = v) hT hL n hl ha hn hv rfl).o
    exact hu) hk
theorem Lq.seps {t : TypeId} {d : Td} {b i : Nat} {K : Value → Prop} (n : Nat) {cs : List Value} {e : TypeId} (hl : look T t = some d) (ha : d.sh.agg = true) (hn : L[n]? = some (.blk b cs e)) (hi : Nat.ble (i + d.size) (llen cs) = true) (hk : K (.agg (takeL (dropL cs i) d.size).toArray)) : Lq P (fun x => x = w) t ⟨b, i, none⟩ K :=
  Lq.mk _ (fun w' hw => by
    subst hw
    obtain ⟨u, hu, rfl⟩ := (Ld.seps (K := fun u => u = .agg (takeL (dropL cs i) d.size).toArray) hT hL n hl ha hn hi rfl).o
    exact hu) hk

omit hL in
theorem Lq.sepC {t : TypeId} {d : Td} {b i : Nat} {K : Value → Prop} {v : Value} (n : Nat) {cs : List Value} {e : TypeId} (hl : look T t = some d) (ha : d.sh.agg = false) (hn : L[n]? = some (.blk b cs e)) (hv : lget cs i = some v) (hk : K v) : Lq P (fun x => Sep P B w0 x L) t ⟨b, i, none⟩ K :=
  Lq.mk v (fun w' hw => by
    obtain ⟨u, hu, rfl⟩ := (Ld.sep (K := fun u => u = v) hT hw n hl ha hn hv rfl).o
    exact hu) hk
omit hL in
theorem Lq.sepsC {t : TypeId} {d : Td} {b i : Nat} {K : Value → Prop} (n : Nat) {cs : List Value} {e : TypeId} (hl : look T t = some d) (ha : d.sh.agg = true) (hn : L[n]? = some (.blk b cs e)) (hi : Nat.ble (i + d.size) (llen cs) = true) (hk : K (.agg (takeL (dropL cs i) d.size).toArray)) : Lq P (fun x => Sep P B w0 x L) t ⟨b, i, none⟩ K :=
  Lq.mk _ (fun w' hw => by
    obtain ⟨u, hu, rfl⟩ := (Ld.seps (K := fun u => u = .agg (takeL (dropL cs i) d.size).toArray) hT hw n hl ha hn hi rfl).o
    exact hu) hk
/-- a region whose order is open: reads, and writes into thing number n, which none of the reads looks at -/
theorem V.heldS {N : Nat} {Q : Exit → Env → World → Prop} {e : Env} {id : Nat} {ops : Array Oper} (n : Nat) {b : Nat} {cs : List Value} {ty : TypeId} (hn : L[n]? = some (.blk b cs ty)) (pl : List (Nat × Bool)) (hm : P.follows .mixedOrders = true)
    (hB : planB ops pl = true) (h : heldV P T N (fun x => Sep P B w0 x (L.eraseIdx n)) ops.toList pl e w.drew fun e' w' => Q .normal e' w') : V P N (.region id ops true) Q e w :=
  V.held hT _ _ hm hB (hL.drew.pop n) h

/-- .. and writes into new things alone -/
theorem V.heldA {N : Nat} {Q : Exit → Env → World → Prop} {e : Env} {id : Nat} {ops : Array Oper} (pl : List (Nat × Bool)) (hm : P.follows .mixedOrders = true)
    (hB : planB ops pl = true) (h : heldV P T N (fun x => Sep P B w0 x L) ops.toList pl e w.drew fun e' w' => Q .normal e' w') : V P N (.region id ops true) Q e w :=
  V.held hT _ _ hm hB hL.drew h

/-- a literal '[]T{..}' -/
theorem Rv.buildS {K : Value → World → Prop} {t e : TypeId} {s b' sz by' : Nat} {z ez : Value} {sh : Sh} {len : Nat} {vs : List Value} {ps : Array (Nat × Value)} (ht : look T t = some ⟨.slice e, s, b', z⟩) (he : look T e = some ⟨sh, sz, by', ez⟩)
    (hps : ps = ((List.range' 0 len).zip vs).toArray) (hl : vs.length = len) (h1 : ∀ u ∈ vs, (cellsL u).length = sz) (hlen : len * sz ≤ 16777216) (hlen0 : len ≤ 16777216) (hB : B ≤ w.heap.size)
    (hk : ∀ b w', Sep P B w0 w' (.row e sz (.slice (some ⟨b, 0, none⟩) len len) len (vs.flatMap cellsL) :: L) → B ≤ w'.heap.size → K (.slice (some ⟨b, 0, none⟩) len len) w') :
    Rv P (Instr.buildSlice t len ps) w K :=
  Rv.build hT ht he hps hl h1 hlen hlen0 fun w' ho hg _ => hk w.heap.size w' (hL.addRow hB (below_of_grown0 hg (Nat.le_refl _)) ho) (Nat.le_trans hB hg.size)
/-- append to a row of one's own -/
theorem Rv.appendC {K : Value → World → Prop} {t e ty : TypeId} {s b' by' : Nat} {z ez : Value} {sh : Sh} (ht : look T t = some ⟨.slice e, s, b', z⟩) (he : look T e = some ⟨sh, 1, by', ez⟩) (hz : llen (cellsL ez) = 1)
    (i : Nat) {n : Nat} {v : Value} {xs : List Value} (hi : L[i]? = some (.rc e v n xs)) {x : Value} {m : Nat} {news : List Value} (hs : SlN w 1 x m news) (h1 : ∀ u ∈ news, u.oneCell' = true)
    (h63 : n + m ≤ maxLen) (hby : (n + m) * by' ≤ 140737488355328) (hB : B ≤ w.heap.size)
    (hk : ∀ v' w', Sep P B w0 w' (L.set i (.rc e v' (n + m) (xs ++ news))) → B ≤ w'.heap.size → K v' w') :
    Rv P (Builtin.append_ #[t, t] ty #[v, x]) w K := by
  have hu := und_slice hT ht
  obtain ⟨inf, hin, hiz, his, hib⟩ := (hT _ _ he).inf
  have hr : RowC w e v n xs := hL.at hi
  have hxl := hr.len
  have key : ∀ v' w', RowC w' e v' (n + m) (xs ++ news) → w.grownBy w' v.ownBlock → (v'.ownBlock = v.ownBlock ∨ v'.ownBlock = some w.heap.size) → K v' w' := fun v' w' ho hg hv =>
    hk v' w' (hL.step hi hB (Turns.of_grown hg) ho (fun b hb => by
      have hb' := mem_rowB.1 hb
      rcases hv with hv | hv
      · exact .inl (mem_rowB.2 (hv ▸ hb'))
      · right; rw [hv] at hb'; injection hb' with hb'; omega) (by cases hv' : v'.ownBlock <;> simp [Res.blocks, hv', rowB])) (Nat.le_trans hB hg.size)
  have hsmall : n + m ≤ 9223372036854775807 := by simp only [maxLen] at h63; omega
  rcases hs.cases with ⟨rfl, rfl, rfl⟩ | ⟨ad, c, rfl, e1, e2, hn⟩
  · rcases hr.of with ⟨rfl, rfl⟩ | ⟨g, cap, cur, rfl, g1, g2, g3, g4, g5⟩
    · refine Rv.mk (w' := w) (v := .slice none 0 0) ?_ (key _ w (by simpa using hr) ⟨rfl, rfl, rfl, Nat.le_refl _, fun _ _ _ => rfl⟩ (.inl rfl))
      simp [Builtin.append_, run_underlying hu, sizeOf, typeInfo, hin, Builtin.lenOf, Builtin.firstCells, loadCells, loadCellsFrom]
    · refine Rv.mk (w' := w) (v := .slice (some ⟨g, 0, none⟩) n cap) ?_ (key _ w (by simpa using hr) ⟨rfl, rfl, rfl, Nat.le_refl _, fun _ _ _ => rfl⟩ (.inl rfl))
      have : n + 0 ≤ cap := by omega
      simp [Builtin.append_, run_underlying hu, sizeOf, typeInfo, hin, Builtin.lenOf, Builtin.firstCells, loadCells, loadCellsFrom, this, g2, storeCells]
  · have hnl : news.length = m := by have := hs.len; simpa using this
    rcases hr.of with ⟨rfl, rfl⟩ | ⟨g, cap, cur, rfl, g1, g2, g3, g4, g5⟩
    · have ho : w.ownsRow 0 e 1 (.slice none 0 0) 0 xs := ⟨by simpa using hr.len, .inl ⟨rfl, rfl⟩⟩
      exact Rv.append' hT ht he hz (by decide) ho hs h1 h63 hby (Nat.zero_le _) fun v' w' o1 o2 o3 => key v' w' (RowC.of_own o1) o2 o3
    · have holds : ∀ j u, xs[j]? = some u → w.cell? ((⟨g, 0, none⟩ : Addr).add j) = some u := fun j u hj => by
        have hjl := (List.getElem?_eq_some_iff.1 hj).1
        rw [← g5, List.getElem?_take] at hj
        rw [Addr.add_lit, Nat.zero_add]
        split at hj
        · have hx' : cur[j]? = some u := by simpa using hj
          simp [World.cell?, g1, hx']
        · cases hj
      by_cases hroom : n + m ≤ cap
      · have hr2 := run_append_room (P := P) w t ty e inf hu hin g n cap cur g1 ad m c news (by rw [his]; simpa using hnl) hn h1 hroom (by rw [his, hnl]; simp; omega)
        refine Rv.mk hr2 (key _ _ ⟨by rw [List.length_append, hxl, hnl], .inr ⟨g, cap, _, rfl, setRow_heap w g cur _ e _ g1, hroom, g3, ?_, ?_⟩⟩ ⟨rfl, rfl, rfl, by simp, fun k _ hk => setRow_other w g k _ (fun e => hk (by simp [Value.ownBlock, e]))⟩ (.inl rfl))
        · simp only [List.size_toArray, List.length_append, List.length_take, List.length_drop, Array.length_toList, his, hnl]
          omega
        · simp only [his, Nat.mul_one, g5]
          rw [List.take_append_of_le_length (by simp [hxl, hnl]), List.take_of_length_le (by simp [hxl, hnl])]
      · have hr2 := run_append_grow (P := P) w t ty e inf ez hu hin hiz ⟨g, 0, none⟩ n cap xs (by rw [his]; simpa using hxl) holds ad m c news (by rw [his]; simpa using hnl) hn (by omega) (by omega) (by
          have := growslice_fits (need := n + m) (old := cap) (bytes := inf.bytes) (by omega) (by rw [hib]; exact hby)
          exact this)
        have hge := grownCap_ge w (n + m) cap e
        have hcm : grownCap w (n + m) cap e ≤ maxLen := grownCap_le_maxLen w (n + m) cap e h63
        have hez : ez.cells.size = 1 := by rw [cellsL_eq, List.size_toArray, ← llen_eq]; exact hz
        refine Rv.mk hr2 (key _ _ ⟨by rw [List.length_append, hxl, hnl], .inr ⟨w.heap.size, _, _, rfl, heap_alloc_new w.drew _, hge, hcm, ?_, ?_⟩⟩ ⟨rfl, rfl, rfl, by simp, fun k hk _ => heap_alloc_old w.drew _ hk⟩ (.inr rfl))
        · simp only [Array.size_append, List.size_toArray, size_zeroCells, hez, hxl, hnl, Nat.mul_one]
          omega
        · simp only [Array.toList_append, List.append_assoc]
          rw [← List.append_assoc, List.take_append_of_le_length (by simp [hxl, hnl]), List.take_of_length_le (by simp [hxl, hnl])]
/-- an element is written -/
theorem St.rowC {K : World → Prop} {t e : TypeId} {d : Td} {v : Value} {g o n c : Nat} {xs : List Value} (hl : look T t = some d) (hs : d.size = 1) (i : Nat) (hi : L[i]? = some (.rc e (.slice (some ⟨g, 0, none⟩) n c) n xs)) (k : Nat) (ho : o = k) (hkn : k < n) (h1 : v.oneCell' = true) (hc : cellsL v = [v]) (hB : B ≤ w.heap.size)
    (hk : ∀ w', Sep P B w0 w' (L.set i (.rc e (.slice (some ⟨g, 0, none⟩) n c) n (xs.set k v))) → B ≤ w'.heap.size → K w') : St P w t ⟨g, o, none⟩ v K := by
  subst ho
  have hr : RowC w e _ n xs := hL.at hi
  rcases hr.of with ⟨h0, _⟩ | ⟨g', cap, cur, h0, g1, g2, g3, g4, g5⟩
  · cases h0
  injection h0 with e1 e2 e3
  injection e1 with e1
  injection e1 with e1
  subst e1; subst e3
  have hg : w.grownBy (w.setRow g (cur.toList.take o ++ [v] ++ cur.toList.drop (o + 1)).toArray) (some g) := grownBy_setRow w g _
  have hset := setRow_heap w g cur (cur.toList.take o ++ [v] ++ cur.toList.drop (o + 1)).toArray e (0, 0) g1
  have hol : o < cur.toList.length := by simp; omega
  refine St.mk (w' := w.setRow g (cur.toList.take o ++ [v] ++ cur.toList.drop (o + 1)).toArray) ?_ (hk _ (hL.step hi hB (Turns.of_grown hg) (show RowC _ e _ n _ from ⟨by simpa using hr.len, .inr ⟨g, c, _, rfl, hset, g2, g3, ?_, ?_⟩⟩) (fun b hb => .inl hb) (by simp [Res.blocks, Value.ownBlock, rowB])) (Nat.le_trans hB hg.size))
  · have hz := (hT _ _ hl).run_size w
    have := run_storeCells_at P g o e [v] 0 cur w g1 (by simp at hol ⊢; omega) (fun u hu => by simp at hu; subst hu; exact h1)
    simp only [Nat.add_zero] at this
    have hcc : v.cells = #[v] := by rw [cellsL_eq, hc]
    simp [storeVar, hz, hs, hcc]
    simpa using this
  · simp at hol ⊢; omega
  · rw [List.toList_toArray, ← g5, show cur.toList.take o ++ [v] ++ cur.toList.drop (o + 1) = cur.toList.set o v by rw [List.set_eq_take_append_cons_drop, if_pos hol]; simp, List.take_set]
theorem Rv.appendS {K : Value → World → Prop} {t e ty : TypeId} {s b' sz by' : Nat} {z ez : Value} {sh : Sh} (ht : look T t = some ⟨.slice e, s, b', z⟩) (he : look T e = some ⟨sh, sz, by', ez⟩) (hz : llen (cellsL ez) = sz) (hsz : 0 < sz)
    (i : Nat) {n : Nat} {v : Value} {xs : List Value} (hi : L[i]? = some (.row e sz v n xs)) {x : Value} {m : Nat} {news : List Value} (hs : SlN w sz x m news) (h1 : ∀ u ∈ news, u.oneCell' = true)
    (h63 : n + m ≤ maxLen) (hby : (n + m) * by' ≤ 140737488355328) (hB : B ≤ w.heap.size)
    (hk : ∀ v' w', Sep P B w0 w' (L.set i (.row e sz v' (n + m) (xs ++ news))) → B ≤ w'.heap.size → K v' w') :
    Rv P (Builtin.append_ #[t, t] ty #[v, x]) w K :=
  Rv.append' hT ht he hz hsz (hL.at hi) hs h1 h63 hby (Nat.zero_le _) fun v' w' ho hg hv =>
    hk v' w' (hL.step hi hB (Turns.of_grown hg) ho (fun b hb => by
      have hb' := mem_rowB.1 hb
      rcases hv with hv | hv
      · exact .inl (mem_rowB.2 (hv ▸ hb'))
      · right; rw [hv] at hb'; injection hb' with hb'; omega) (by cases hv' : v'.ownBlock <;> simp [Res.blocks, hv', rowB])) (Nat.le_trans hB hg.size)

omit hT in
/-- what lay in a block ahead of all this, lies there still -/
theorem Sep.old {b : Nat} {cs : List Value} {e : TypeId} (hB : B = w0.heap.size) (hC : Blk w0 b cs e) : Blk w b cs e := hC.below hL.below (by rw [hB]; exact hC.lt)
theorem Ld.old {t : TypeId} {d : Td} {b i : Nat} {K : Value → Prop} {v : Value} {cs : List Value} {e : TypeId} (hC : Blk w0 b cs e) (hB : B = w0.heap.size) (hl : look T t = some d) (ha : d.sh.agg = false) (hv : lget cs i = some v) (hk : K v) : Ld P w t ⟨b, i, none⟩ K :=
  Ld.blk hT hl ha (hL.old hB hC) (by rw [← lget_eq]; exact hv) hk
theorem Ld.olds {t : TypeId} {d : Td} {b i : Nat} {K : Value → Prop} {cs : List Value} {e : TypeId} (hC : Blk w0 b cs e) (hB : B = w0.heap.size) (hl : look T t = some d) (ha : d.sh.agg = true) (hi : Nat.ble (i + d.size) (llen cs) = true) (hk : K (.agg (takeL (dropL cs i) d.size).toArray)) : Ld P w t ⟨b, i, none⟩ K := by
  have hi' := Nat.le_of_ble_eq_true hi
  rw [llen_eq] at hi'
  rw [takeL_eq, dropL_eq] at hk
  exact Ld.blks hT _ hl ha (hL.old hB hC) (by simp; omega) (fun j x hx => by
    rw [List.getElem?_take, List.getElem?_drop] at hx
    split at hx
    · exact hx
    · cases hx) hk
theorem Lq.old {t : TypeId} {d : Td} {b i : Nat} {K : Value → Prop} {v : Value} {cs : List Value} {e : TypeId} (hC : Blk w0 b cs e) (hB : B = w0.heap.size) (hl : look T t = some d) (ha : d.sh.agg = false) (hv : lget cs i = some v) (hk : K v) : Lq P (fun x => x = w) t ⟨b, i, none⟩ K :=
  Lq.mk v (fun w' hw => by
    subst hw
    obtain ⟨u, hu, rfl⟩ := (Ld.old (K := fun u => u = v) hT hL hC hB hl ha hv rfl).o
    exact hu) hk
theorem Lq.olds {t : TypeId} {d : Td} {b i : Nat} {K : Value → Prop} {cs : List Value} {e : TypeId} (hC : Blk w0 b cs e) (hB : B = w0.heap.size) (hl : look T t = some d) (ha : d.sh.agg = true) (hi : Nat.ble (i + d.size) (llen cs) = true) (hk : K (.agg (takeL (dropL cs i) d.size).toArray)) : Lq P (fun x => x = w) t ⟨b, i, none⟩ K :=
  Lq.mk _ (fun w' hw => by
    subst hw
    obtain ⟨u, hu, rfl⟩ := (Ld.olds (K := fun u => u = .agg (takeL (dropL cs i) d.size).toArray) hT hL hC hB hl ha hi rfl).o
    exact hu) hk
omit hL in
theorem Lq.oldC {t : TypeId} {d : Td} {b i : Nat} {K : Value → Prop} {v : Value} {cs : List Value} {e : TypeId} (hC : Blk w0 b cs e) (hB : B = w0.heap.size) (hl : look T t = some d) (ha : d.sh.agg = false) (hv : lget cs i = some v) (hk : K v) : Lq P (fun x => Sep P B w0 x L) t ⟨b, i, none⟩ K :=
  Lq.mk v (fun w' hw => by
    obtain ⟨u, hu, rfl⟩ := (Ld.old (K := fun u => u = v) hT hw hC hB hl ha hv rfl).o
    exact hu) hk
omit hL in
theorem Lq.oldsC {t : TypeId} {d : Td} {b i : Nat} {K : Value → Prop} {cs : List Value} {e : TypeId} (hC : Blk w0 b cs e) (hB : B = w0.heap.size) (hl : look T t = some d) (ha : d.sh.agg = true) (hi : Nat.ble (i + d.size) (llen cs) = true) (hk : K (.agg (takeL (dropL cs i) d.size).toArray)) : Lq P (fun x => Sep P B w0 x L) t ⟨b, i, none⟩ K :=
  Lq.mk _ (fun w' hw => by
    obtain ⟨u, hu, rfl⟩ := (Ld.olds (K := fun u => u = .agg (takeL (dropL cs i) d.size).toArray) hT hw hC hB hl ha hi rfl).o
    exact hu) hk

/-- a store into an element of a row of one's own -/
theorem St.rowS {t : TypeId} {d : Td} {g j m : Nat} {v : Value} {K : World → Prop} (i : Nat) {e : TypeId} {sz n cap : Nat} {xs : List Value} (hl : look T t = some d) (hs : Nat.beq (llen (cellsL v)) d.size = true) (h1 : allOne (cellsL v) = true)
    (hi : L[i]? = some (.row e sz (.slice (some ⟨g, 0, none⟩) m cap) n xs)) (hj : j + d.size ≤ xs.length) (hB : B ≤ w.heap.size)
    (hk : ∀ w', Sep P B w0 w' (L.set i (.row e sz (.slice (some ⟨g, 0, none⟩) m cap) n (splice xs j (cellsL v)))) → B ≤ w'.heap.size → K w') : St P w t ⟨g, j, none⟩ v K := by
  have hs' := Nat.eq_of_beq_eq_true hs
  rw [llen_eq] at hs'
  have hrow : w.ownsRow 0 e sz (.slice (some ⟨g, 0, none⟩) m cap) n xs := hL.at hi
  rcases hrow.2 with ⟨h', _⟩ | ⟨g', cap', cur, h', hb0, hg, hnc, hcm, hcs, htake⟩
  · simp at h'
  simp only [Value.slice.injEq, Option.some.injEq, Addr.mk.injEq, and_true, true_and] at h'
  obtain ⟨rfl, rfl, rfl⟩ := h'
  have hxl := hrow.1
  have hle : xs.length ≤ cur.size := by rw [hxl, hcs]; exact Nat.mul_le_mul_right _ hnc
  have hz := (hT _ _ hl).run_size w
  have hsp : (splice xs j (cellsL v)).length = xs.length := by rw [splice_eq _ _ _ (by omega)]; simp; omega
  have ht : Turns w (w.setRow g (cur.toList.take j ++ cellsL v ++ cur.toList.drop (j + (cellsL v).length)).toArray) [g] := ⟨rfl, rfl, rfl, by simp, fun k _ hk => setRow_other w g k _ (fun e => hk (by simp [e]))⟩
  refine St.mk (w' := w.setRow g (cur.toList.take j ++ cellsL v ++ cur.toList.drop (j + (cellsL v).length)).toArray) ?_ (hk _ (hL.step hi hB (by simpa [Res.blocks, Value.ownBlock, rowB] using ht) (show World.ownsRow _ 0 e sz _ m _ from ⟨by rw [hsp]; exact hxl, .inr ⟨g, cap, _, rfl, hb0, setRow_heap w g cur _ e _ hg, hnc, hcm, ?_, ?_⟩⟩) (fun c hc => .inl hc) (by simp [Res.blocks, Value.ownBlock, rowB])) (Nat.le_trans hB ht.size))
  · have := run_storeCells_at P g j e (cellsL v) 0 cur w hg (by simp; omega) (allOne_mem h1)
    simp only [Nat.add_zero] at this
    have hc := cellsL_eq v
    simp [storeVar, hz, hc, hs', this]
  · simp only [List.size_toArray, List.length_append, List.length_take, List.length_drop, Array.length_toList]
    omega
  · rw [splice_eq xs j (cellsL v) (by omega), ← hxl]
    rw [← hxl] at htake
    have hcl : (cellsL v).length ≤ xs.length - j := by omega
    generalize cellsL v = vs at *
    generalize hN : xs.length = N at *
    rw [← htake]
    exact take_splice _ _ _ _ (by omega) (by simpa using hle)
/-- bytes of one's own, handed on as they are -/
theorem Rv.sameS {K : Value → World → Prop} {t e : TypeId} {s b' sz by' : Nat} {z ez : Value} (i : Nat) {g m cap n : Nat} {xs : List Value} (ht : look T t = some ⟨.slice e, s, b', z⟩) (he : look T e = some ⟨.int .u8, sz, by', ez⟩)
    (hi : L[i]? = some (.row e 1 (.slice (some ⟨g, 0, none⟩) m cap) n xs)) (hB : B ≤ w.heap.size)
    (hk : ∀ w', Sep P B w0 w' (L.set i (.ro (.slice (some ⟨g, 0, none⟩) m cap) xs)) → B ≤ w'.heap.size → K (.slice (some ⟨g, 0, none⟩) m cap) w') : Rv P (convert t t (.slice (some ⟨g, 0, none⟩) m cap)) w K := by
  have hu := und_slice hT ht
  obtain ⟨u, hue, hus⟩ := shOf_cases hT he
  cases u <;> simp only [shOf, reduceCtorEq, Sh.int.injEq] at hus
  subst hus
  have hrow : w.ownsRow 0 e 1 (.slice (some ⟨g, 0, none⟩) m cap) n xs := hL.at hi
  have hsl := Sl.of_own hrow
  rcases hrow.2 with ⟨h', _⟩ | ⟨g', cap', cur, h', hb0, hg, hnc, hcm, hcs, htake⟩
  · simp at h'
  simp only [Value.slice.injEq, Option.some.injEq, Addr.mk.injEq, and_true, true_and] at h'
  obtain ⟨rfl, rfl, rfl⟩ := h'
  have hlt : g < w.heap.size := (Array.getElem?_eq_some_iff.1 hg).1
  have hfr : (w.freeze ⟨g, cur.size, none⟩ 1).heap[g]? = some (.cells cur e (cur.size, cur.size + 1)) := by
    simp [World.freeze, Array.getElem?_modify, hg]
  have hoth : ∀ k, k ≠ g → (w.freeze ⟨g, cur.size, none⟩ 1).heap[k]? = w.heap[k]? := fun k hk => by
    simp [World.freeze, Array.getElem?_modify, Ne.symm hk]
  have ht' : Turns w (w.freeze ⟨g, cur.size, none⟩ 1) [g] := ⟨rfl, rfl, rfl, by simp [World.freeze], fun k _ hk => hoth k (by simpa using hk)⟩
  have hsl' : Sl (w.freeze ⟨g, cur.size, none⟩ 1) (.slice (some ⟨g, 0, none⟩) m cap) xs := by
    rcases hsl.cases with ⟨h1, _⟩ | ⟨ad1, c1, h1, h2, h3, h4⟩
    · cases h1
    · injection h1 with h1 h5 h6
      injection h1 with h1
      subst h1; subst h6
      refine Sl.some' h5 h2 h3 fun j x hx => ?_
      have := Row.of_cells h4 j x hx
      simp only [World.cell?, hg, hfr] at this ⊢
      exact this
  refine Rv.mk (w' := w.freeze ⟨g, cur.size, none⟩ 1) ?_ (hk _ (hL.step hi hB (by simpa [Res.blocks, Value.ownBlock, rowB] using ht') ⟨hsl', fun b hb => by injection hb with hb; subst hb; simpa [World.freeze] using hlt⟩ (fun c hc => .inl (by simpa [Res.blocks] using hc)) (by simp [Res.blocks, Value.ownBlock, rowB])) (Nat.le_trans hB ht'.size))
  simp [convert, run_underlying hu, run_underlying hue, markStringish, shape, freeze, Sem.run, World.shape?, hg, Result.andThen]

/-! maps -/
variable {k : TypeId} (hK : Keyed P k)
include hK
theorem Rv.seekS {K : Value → World → Prop} {t e : TypeId} {s b' : Nat} {z : Value} {de : Td} (n : Nat) {b : Nat} {l : List (Value × Value)} (ht : look T t = some ⟨.map k e, s, b', z⟩) (he : look T e = some de)
    (hn : L[n]? = some (.mp k b l)) {x : Value} (hx : Good P k x) (hk : ∀ u ok, Got l x de.zero u ok → K u w) : Rv P (Instr.lookup t (.map (some b)) x false) w K := Rv.seek hT hK ht he (hL.at hn) hx hk
theorem Rv.seekOkS {K : Value → World → Prop} {t e : TypeId} {s b' : Nat} {z : Value} {de : Td} (n : Nat) {b : Nat} {l : List (Value × Value)} (ht : look T t = some ⟨.map k e, s, b', z⟩) (he : look T e = some de)
    (hn : L[n]? = some (.mp k b l)) {x : Value} (hx : Good P k x) (hk : ∀ u ok, Got l x de.zero u ok → K (.tuple #[u, .bool ok]) w) : Rv P (Instr.lookup t (.map (some b)) x true) w K := Rv.lookOk hT hK ht he (hL.at hn) hx hk
theorem Ru.putS {K : World → Prop} {t e : TypeId} {s b' : Nat} {z : Value} (n : Nat) {b : Nat} {l : List (Value × Value)} (ht : look T t = some ⟨.map k e, s, b', z⟩) (hn : L[n]? = some (.mp k b l)) {x v : Value} (hx : Good P k x) (hB : B ≤ w.heap.size)
    (hk : ∀ w' l', Put l x v l' → Sep P B w0 w' (L.set n (.mp k b l')) → B ≤ w'.heap.size → K w') : Ru P (Instr.mapUpdate t (.map (some b)) x v) w K :=
  Ru.put hT hK ht (hL.at hn) hx fun w' l' hp hm hg => hk w' l' hp (hL.step hn hB (Turns.of_grown hg) hm (fun c hc => .inl hc) (by simp [Res.blocks])) (Nat.le_trans hB hg.size)
theorem Rv.goneS {K : Value → World → Prop} {t e ty kt : TypeId} {s b' : Nat} {z : Value} (n : Nat) {b : Nat} {l : List (Value × Value)} (ht : look T t = some ⟨.map k e, s, b', z⟩) (hn : L[n]? = some (.mp k b l)) {x : Value} (hx : Good P k x) (hB : B ≤ w.heap.size)
    (hk : ∀ w' l', Gone l x l' → Sep P B w0 w' (L.set n (.mp k b l')) → B ≤ w'.heap.size → K (.tuple #[]) w') : Rv P (Builtin.delete_ #[t, kt] ty #[.map (some b), x]) w K :=
  Rv.gone hT hK ht (hL.at hn) hx fun w' l' hp hm hg => hk w' l' hp (hL.step hn hB (Turns.of_grown hg) hm (fun c hc => .inl hc) (by simp [Res.blocks])) (Nat.le_trans hB hg.size)
/-- 'm[k] op= ..': the entry, laid with nought if it is not there -/
theorem Rv.entS {K : Value → World → Prop} {t e : TypeId} {s b' : Nat} {z : Value} {de : Td} (n : Nat) {b : Nat} {l : List (Value × Value)} (ht : look T t = some ⟨.map k e, s, b', z⟩) (he : look T e = some de) (hn : L[n]? = some (.mp k b l)) {x : Value} (hx : Good P k x) (hB : B ≤ w.heap.size)
    (hk : ∀ w' A B' u st, ((l = A ++ (x, u) :: B') ∨ (l = A ∧ B' = [] ∧ u = de.zero ∧ ∀ p ∈ l, p.1 ≠ x)) → Sep P B w0 w' (L.set n (.ent k b A x u B' st)) → B ≤ w'.heap.size → K (.tuple #[u, .int .i64 st]) w') : Rv P (Instr.mapEntry t (.map (some b)) x) w K := by
  have hu := und_map hT ht
  have hz := (hT _ _ he).run_zero w
  have hm : Mp P k w b l := hL.at hn
  obtain ⟨⟨es, c, h1, h2, h3⟩, h4⟩ := hm
  obtain ⟨lx, hlx⟩ := hx
  rcases Mp.find hK (w := w) (b := b) h4 h3 ⟨lx, hlx⟩ with ⟨q1, q2⟩ | ⟨j, e0, q1, q2, q3⟩
  · have hne : ∀ y ∈ es.toList, y.key ≠ x := fun y hy => q2 (kv y) (by rw [← h3]; exact List.mem_map_of_mem hy)
    have hg := grownBy_setBlock w b (.map (es.push ⟨x, de.zero, c⟩) (c + 1))
    refine Rv.mk (w' := ChangeMaps.setBlock w b (.map (es.push ⟨x, de.zero, c⟩) (c + 1))) (v := .tuple #[de.zero, .int .i64 c]) ?_ (hk _ l [] de.zero c (.inr ⟨rfl, rfl, rfl, q2⟩) (hL.step hn hB (Turns.of_grown hg) ⟨⟨_, _, ⟨x, de.zero, c⟩, setB_same _ _ _ h1, MapKept.stamped_push h2 hne, by simp [kvs, ← h3, kv], ?_, rfl⟩, ?_⟩ (fun b hb => .inl hb) (by simp [Res.blocks])) (Nat.le_trans hB hg.size))
    · simp [Instr.mapEntry, run_underlying hu, MapKept.run_getObj_map h1, hK.check w false hlx, q1, hz, MapKept.run_setObj_map _ h1, ChangeMaps.setBlock, goInt]
    · rw [← h3]; simp [kvs]
    · intro p hp
      simp only [List.mem_append, List.mem_singleton] at hp
      rcases hp with hp | rfl
      · exact h4 p hp
      · exact ⟨lx, hlx⟩
  · have hj : es[j]? = some e0 := by simpa using q2
    have hjl := (List.getElem?_eq_some_iff.1 q2).1
    have hmod : es.modify j (fun e => { e with key := x }) = es := by
      apply Array.ext'
      rw [Array.toList_modify, ChangeMaps.modify_eq_set _ _ _ _ q2]
      have : ({ e0 with key := x } : MapEntry) = e0 := by cases e0; simp at q3; subst q3; rfl
      rw [this]
      apply List.ext_getElem?
      intro i
      rw [List.getElem?_set]
      split
      · rename_i h; subst h; rw [q2]
      · rfl
    have hsp : es.toList = es.toList.take j ++ e0 :: es.toList.drop (j + 1) := by
      conv => lhs; rw [← List.take_append_drop j es.toList]
      rw [List.drop_eq_getElem_cons hjl, (List.getElem?_eq_some_iff.1 q2).2]
    have hl : l = (es.toList.take j).map kv ++ (x, e0.val) :: (es.toList.drop (j + 1)).map kv := by
      rw [← h3]; unfold kvs
      conv => lhs; rw [hsp]
      simp [kv, q3]
    have hg := grownBy_setBlock w b (.map es c)
    refine Rv.mk (w' := ChangeMaps.setBlock w b (.map es c)) (v := .tuple #[e0.val, .int .i64 e0.born]) ?_ (hk _ ((es.toList.take j).map kv) ((es.toList.drop (j + 1)).map kv) e0.val e0.born (.inl hl) (hL.step hn hB (Turns.of_grown hg) ⟨⟨_, _, e0, setB_same _ _ _ h1, h2, h3.trans hl, ?_, rfl⟩, ?_⟩ (fun b hb => .inl hb) (by simp [Res.blocks])) (Nat.le_trans hB hg.size))
    · simp [Instr.mapEntry, run_underlying hu, MapKept.run_getObj_map h1, hK.check w false hlx, q1, hj, q3, hK.stays w hlx, hmod, MapKept.run_setObj_map _ h1, ChangeMaps.setBlock, goInt]
    · rw [List.length_map, List.length_take, Nat.min_eq_left (by omega)]; exact q2
    · rw [← hl]; exact h4
omit hT hK in
theorem Ru.entS {K : World → Prop} {t : TypeId} {kk : IntKind} (n : Nat) {b st : Nat} {A B' : List (Value × Value)} {x u v : Value} (hn : L[n]? = some (.ent k b A x u B' st)) (hB : B ≤ w.heap.size)
    (hk : ∀ w', Sep P B w0 w' (L.set n (.mp k b (A ++ (x, v) :: B'))) → B ≤ w'.heap.size → K w') : Ru P (Instr.entryStore t (.map (some b)) (.int kk st) v) w K := by
  have he : Ent P k w b A x u B' st := hL.at hn
  obtain ⟨⟨es, c, e0, h1, h2, h3, h4, rfl⟩, h5⟩ := he
  have hlt := (List.getElem?_eq_some_iff.1 h4).1
  have hx : e0.key = x := by
    have : (kvs es)[A.length]? = some (kv e0) := by simp [kvs, h4]
    rw [h3] at this
    simp at this
    exact (congrArg Prod.fst this).symm
  have hfi : es.findIdx? (fun e => (e.born : Int) == (e0.born : Int)) = some A.length := by
    have hes : es = es.toList.toArray := by simp
    rw [hes, List.findIdx?_toArray, List.findIdx?_eq_some_iff_getElem]
    refine ⟨hlt, by simp [(List.getElem?_eq_some_iff.1 h4).2], fun j hj => ?_⟩
    have hnd := h2.2.1
    have hjs : j < es.toList.length := Nat.lt_trans hj hlt
    have := List.pairwise_iff_getElem.1 hnd j A.length (by rw [List.length_map]; exact hjs) (by rw [List.length_map]; exact hlt) hj
    simp only [List.getElem_map] at this
    have h6 : es.toList[A.length] = e0 := (List.getElem?_eq_some_iff.1 h4).2
    rw [h6] at this
    simp only [beq_iff_eq, Bool.not_eq_true, beq_eq_false_iff_ne]
    intro hh
    exact this (by omega)
  obtain ⟨A1, B1, q1, q2, _⟩ := kvs_modify (v := v) h4 hx
  have hg := grownBy_setBlock w b (.map (es.modify A.length fun e => { e with val := v }) c)
  have hmod : es.modify A.length (fun e => { e with key := x, val := v }) = es.modify A.length (fun e => { e with val := v }) := by
    apply Array.ext'
    rw [Array.toList_modify, Array.toList_modify, ChangeMaps.modify_eq_set _ _ _ _ h4, ChangeMaps.modify_eq_set _ _ _ _ h4]
    cases e0; simp at hx; subst hx; rfl
  have hkv : kvs (es.modify A.length fun e => { e with val := v }) = A ++ (x, v) :: B' := by
    unfold kvs
    rw [Array.toList_modify, ChangeMaps.modify_eq_set _ _ _ _ h4, List.map_set]
    have : es.toList.map kv = A ++ (x, u) :: B' := h3
    rw [this]
    simp [kv, hx]
  refine Ru.mk (w' := ChangeMaps.setBlock w b (.map (es.modify A.length fun e => { e with val := v }) c)) ?_ (hk _ (hL.step hn hB (Turns.of_grown hg) ⟨⟨_, _, setB_same _ _ _ h1, ?_, hkv⟩, ?_⟩ (fun b hb => .inl hb) (by simp [Res.blocks])) (Nat.le_trans hB hg.size))
  · simp [Instr.entryStore, MapKept.run_getObj_map h1, asInt, asIntOf, hfi, MapKept.run_setObj_map _ h1, ChangeMaps.setBlock]
  · exact MapKept.stamped_modify h2 _ _ (fun _ _ => rfl) (fun e' _ he' => rfl)
  · intro p hp
    simp only [List.mem_append, List.mem_cons] at hp
    rcases hp with hp | rfl | hp
    · exact h5 p (by simp [hp])
    · exact h5 (x, u) (by simp)
    · exact h5 p (by simp [hp])
omit hK in
theorem Rv.rangeS {K : Value → World → Prop} {t e : TypeId} {s b' : Nat} {z : Value} (n : Nat) {b : Nat} {l : List (Value × Value)} (ht : look T t = some ⟨.map k e, s, b', z⟩) (hn : L[n]? = some (.mp k b l)) (hB : B ≤ w.heap.size)
    (hk : ∀ r w', Sep P B w0 w' (L.set n (.it k r b l l none)) → B ≤ w'.heap.size → K (.pointer (some ⟨r, 0, none⟩)) w') : Rv P (Instr.range t (.map (some b))) w K := by
  have hm : Mp P k w b l := hL.at hn
  have hlt := hm.lt
  refine Rv.range hT ht hm fun w' hi hg => hk _ w' ?_ (Nat.le_trans hB hg.size)
  obtain ⟨es, c, since, seen, c0, h1, h2, h3, h4, h5, h6, h7, h8⟩ := hi
  have ht : Turns w w' [b] := ⟨hg.os, hg.tape, hg.output, hg.size, fun k hk _ => hg.block k hk (by simp)⟩
  exact hL.step hn hB ht ⟨⟨es, c, since, seen, c0, h1, h2, h3, h4, h5, h6, h7, h8, fun p hp => by cases hp⟩, hm.good⟩ (fun x hx => by
    simp only [Res.blocks, List.mem_cons, List.not_mem_nil, or_false] at hx ⊢
    rcases hx with rfl | rfl
    · exact .inr (Nat.le_refl _)
    · exact .inl rfl) (by simp [Res.blocks]; omega)
omit hT hK in
theorem Rv.nextS {K : Value → World → Prop} {ty : TypeId} (n : Nat) {r b : Nat} {l left : List (Value × Value)} {cur : Option (Value × Value)} (hn : L[n]? = some (.it k r b l left cur)) (hB : B ≤ w.heap.size)
    (h0 : left = [] → Sep P B w0 w (L.set n (.mp k b l)) → K (.tuple #[.bool false]) w)
    (h1 : ∀ p left' w', p ∈ left → p ∈ l → left'.length < left.length → (∀ q ∈ left, q = p ∨ q ∈ left') → (∀ q ∈ left', q ∈ left ∧ q.1 ≠ p.1) → Sep P B w0 w' (L.set n (.it k r b l left' (some p))) → B ≤ w'.heap.size → K (.tuple #[.bool true, p.1, p.2]) w') :
    Rv P (Instr.next (.pointer (some ⟨r, 0, none⟩)) false ty) w K := by
  have hi : Its P k w r b l left cur := hL.at hn
  have hrb : r ≠ b := by
    have := (List.Nodup.sublist (flatMap_sub Res.blocks (List.singleton_sublist.2 (List.mem_of_getElem? hn))) hL.apart)
    simp [Res.blocks] at this
    exact this
  obtain ⟨⟨es, c, since, seen, c0, e1, e2, e3, e4, e5, e6, e7, rfl, e9⟩, e10⟩ := hi
  rcases run_next_at (P := P) w ty r b since c0 seen es c e4 e1 e5 e6 with ⟨q1, q2⟩ | ⟨e, he, w1, hw1, q2⟩
  · refine Rv.mk q2 (h0 (by rw [Array.eq_empty_of_size_eq_zero q1]; rfl) ?_)
    exact hL.step hn hB (⟨rfl, rfl, rfl, Nat.le_refl _, fun _ _ _ => rfl⟩ : Turns w w _) ⟨⟨es, c, e1, e2, e3⟩, e10⟩ (fun x hx => by simp [Res.blocks] at hx ⊢; exact .inl (.inr hx)) (by simp [Res.blocks])
  · have hml := mem_left he
    have hr1 : w1.heap[r]? = some (.mapIter (some b) since seen c0) := by rcases hw1 with rfl | rfl <;> exact e4
    have hb1 : w1.heap[b]? = some (.map es c) := by rcases hw1 with rfl | rfl <;> exact e1
    have hg : w.grownBy (ChangeMaps.setBlock w1 r (.mapIter (some b) since (seen.push e.born) c)) (some r) := by
      rcases hw1 with rfl | rfl
      · exact grownBy_setBlock _ _ _
      · exact ⟨rfl, rfl, rfl, by simp [ChangeMaps.setBlock], fun i _ hi => setB_other _ _ _ (fun e => hi (by rw [e]))⟩
    refine Rv.mk q2 (h1 (kv e) ((leftOf es (seen.push e.born)).toList.map kv) _ (List.mem_map_of_mem he) ?_ ?_ ?_ ?_ ?_ (Nat.le_trans hB hg.size))
    · rw [← e3]; exact List.mem_map_of_mem hml.1
    · have := left_shrinks es seen e he
      simpa using this
    · intro q hq
      obtain ⟨x, hx, rfl⟩ := List.mem_map.1 hq
      by_cases hb : x.born = e.born
      · have hxm := mem_left hx
        left
        have := find_born x es.toList e2.2.1 hxm.1
        have h' := find_born e es.toList e2.2.1 hml.1
        rw [hb, h'] at this
        injection this with this
        rw [this]
      · right
        refine List.mem_map_of_mem ?_
        have hxm := mem_left hx
        unfold leftOf
        simp only [Array.toList_filter, List.mem_filter]
        refine ⟨hxm.1, ?_⟩
        have h2 := hxm.2
        simp only [Array.contains_push, Bool.not_or, Bool.and_eq_true, Bool.not_eq_true', beq_eq_false_iff_ne]
        exact ⟨h2, hb⟩
    · intro q hq
      obtain ⟨x, hx, rfl⟩ := List.mem_map.1 hq
      have hxm := mem_left hx
      have h2 := hxm.2
      simp only [Array.contains_push, Bool.or_eq_false_iff, beq_eq_false_iff_ne] at h2
      refine ⟨List.mem_map_of_mem ?_, ?_⟩
      · unfold leftOf
        simp only [Array.toList_filter, List.mem_filter]
        exact ⟨hxm.1, by simpa using h2.1⟩
      · intro hk
        have hxe : x = e := Rv.next.entry_eq_of_key' e2.2.2 hxm.1 hml.1 hk
        subst hxe
        exact h2.2 rfl
    · refine hL.step hn hB ⟨hg.os, hg.tape, hg.output, hg.size, fun k hk hkn => hg.block k hk (fun e => hkn (by simp at e; subst e; simp [Res.blocks]))⟩ ⟨⟨es, c, since, seen.push e.born, c, ?_, e2, e3, setB_same _ _ _ hr1, e5, e7, e7, rfl, fun p hp => ?_⟩, e10⟩ (fun x hx => .inl hx) (by simp [Res.blocks]; exact hrb)
      · rw [setB_other _ _ _ (fun hh => hrb hh.symm)]; exact hb1
      · injection hp with hp
        exact ⟨e, seen, hml.1, hp, rfl, rfl⟩
omit hT hK in
theorem Rv.curS {K : Value → World → Prop} (n : Nat) {r b : Nat} {l left : List (Value × Value)} {p : Value × Value} (hn : L[n]? = some (.it k r b l left (some p))) (hk : K (.tuple #[p.1, p.2]) w) :
    Rv P (Instr.entry (.pointer (some ⟨r, 0, none⟩))) w K := by
  have hi : Its P k w r b l left (some p) := hL.at hn
  obtain ⟨⟨es, c, since, seen, c0, e1, e2, e3, e4, e5, e6, e7, e8, e9⟩, e10⟩ := hi
  obtain ⟨e, seen', he, rfl, rfl, rfl⟩ := e9 p rfl
  have := run_entry_at (P := P) w r b since seen' es c0 e e4 e1 he e2.2.1
  exact Rv.mk this hk
end
end Go.Proofs.YtjafamiaahabgaaGreatDoor

namespace Go.Proofs.YtjafamiaahabgaaGreatDoor
open Go.RowKit
set_option linter.unusedVariables false
set_option linter.unusedSimpArgs false

theorem Br.yes {b : Bool} {A B : Prop} (h : b = true) (hA : A) : Br b A B := by subst h; exact Br.tt hA
theorem Br.no {b : Bool} {A B : Prop} (h : b = false) (hB : B) : Br b A B := by subst h; exact Br.ff hB
theorem flat_get {α : Type} {f : α → List Value} {sz : Nat} (hf : ∀ s, (f s).length = sz) : ∀ {ss : List α} {k : Nat} {s : α} (j : Nat), ss[k]? = some s → j < sz → (ss.flatMap f)[k * sz + j]? = (f s)[j]?
  | [], k, s, j, h, _ => by simp at h
  | x :: ss, 0, s, j, h, hj => by
    simp at h; subst h
    rw [List.flatMap_cons, Nat.zero_mul, Nat.zero_add, List.getElem?_append_left (by rw [hf]; exact hj)]
  | x :: ss, k + 1, s, j, h, hj => by
    rw [List.flatMap_cons, List.getElem?_append_right (by rw [hf, Nat.add_mul]; omega), hf]
    have := flat_get hf (ss := ss) (k := k) (s := s) j (by simpa using h) hj
    rw [show (k + 1) * sz + j - sz = k * sz + j from by rw [Nat.add_mul]; omega]
    exact this
theorem flat_len {α : Type} {f : α → List Value} {sz : Nat} (hf : ∀ s, (f s).length = sz) : ∀ ss : List α, (ss.flatMap f).length = ss.length * sz
  | [] => by simp
  | x :: ss => by rw [List.flatMap_cons, List.length_append, hf, flat_len hf ss, List.length_cons, Nat.add_mul]; omega

theorem SlN.shape {w : World} {sz n : Nat} {v : Value} {xs : List Value} (h : SlN w sz v n xs) : ∃ a c, v = .slice a n c := by
  obtain ⟨a, c, he, _⟩ := h.of
  exact ⟨a, c, he⟩
theorem SlN.addr {w : World} {sz : Nat} {a : Option Addr} {n c m : Nat} {xs : List Value} (h : SlN w sz (.slice a n c) m xs) (hx : 0 < n) (hsz : 0 < sz := by decide) : ∃ b o, a = some ⟨b, o, none⟩ ∧ Row w b o xs := by
  have hlen := h.len
  obtain ⟨a', c', he, h1, h2, h3, h4⟩ := h.of
  injection he with e1 e2 e3
  subst e1; subst e3
  cases a with
  | none => have := h3 rfl; omega
  | some ad =>
    obtain ⟨b, o, s⟩ := ad
    obtain ⟨hs, hr⟩ := h4 _ rfl (fun e => by subst e; subst e2; have := Nat.mul_pos hx hsz; simp at hlen; omega)
    simp only at hs; subst hs
    exact ⟨b, o, rfl, hr⟩
theorem SlN.le {w : World} {sz n : Nat} {v : Value} {xs : List Value} (h : SlN w sz v n xs) : n ≤ 9223372036854775807 := by
  obtain ⟨a, c, _, h1, h2, _⟩ := h.of
  simp only [maxLen] at h2
  omega

section
variable {P : Program} {T : Tab} (hT : TabOk P T)
include hT
/-- an element of one cell -/
theorem Ld.row1 {w : World} {t : TypeId} {d : Td} {b o o' : Nat} {xs : List Value} {k : Nat} {v : Value} {K : Value → Prop} (hr : Row w b o xs) (hl : look T t = some d) (ha : d.sh.agg = false) (hx : xs[k]? = some v) (ho : o' = o + k) (hk : K v) : Ld P w t ⟨b, o', none⟩ K := by
  subst ho
  exact Ld.one hT hl ha (hr k v hx) hk
/-- an element of several cells -/
theorem Ld.rowN {w : World} {t : TypeId} {d : Td} {b o o' : Nat} {α : Type} {f : α → List Value} {sz : Nat} (hf : ∀ s, (f s).length = sz) {ss : List α} {k : Nat} {s : α} {K : Value → Prop} (hr : Row w b o (ss.flatMap f)) (hl : look T t = some d) (ha : d.sh.agg = true) (hs : d.size = sz) (hx : ss[k]? = some s) (ho : o' = o + k * sz)
    (hk : K (.agg (f s).toArray)) : Ld P w t ⟨b, o', none⟩ K := by
  subst ho
  refine Ld.agg hT hl ha (by rw [hf, hs]) (fun j x hj => ?_) hk
  have hjl := (List.getElem?_eq_some_iff.1 hj).1
  rw [hf] at hjl
  have := hr (k * sz + j) x (by rw [flat_get hf j hx hjl]; exact hj)
  rwa [← Nat.add_assoc] at this
/-- one cell of an element of several -/
theorem Ld.rowF {w : World} {t : TypeId} {d : Td} {b o o' : Nat} {α : Type} {f : α → List Value} {sz : Nat} (hf : ∀ s, (f s).length = sz) {ss : List α} {k : Nat} {s : α} {v : Value} {K : Value → Prop} (j : Nat) (hr : Row w b o (ss.flatMap f)) (hl : look T t = some d) (ha : d.sh.agg = false) (hx : ss[k]? = some s) (hj : (f s)[j]? = some v) (ho : o' = o + k * sz + j)
    (hk : K v) : Ld P w t ⟨b, o', none⟩ K := by
  subst ho
  have hjl := (List.getElem?_eq_some_iff.1 hj).1
  rw [hf] at hjl
  refine Ld.one hT hl ha ?_ hk
  have := hr (k * sz + j) v (by rw [flat_get hf j hx hjl]; exact hj)
  rwa [← Nat.add_assoc] at this
omit hT in
theorem Lq.of_row {w : World} {t : TypeId} {a : Addr} {v : Value} {K : Value → Prop} (h : Ld P w t a fun u => u = v) (hk : K v) : Lq P (fun x => x = w) t a K :=
  Lq.mk v (fun w' hw => by
    subst hw
    obtain ⟨u, hu, rfl⟩ := h.o
    exact hu) hk
omit hT in
theorem Lq.of_class {C : World → Prop} {t : TypeId} {a : Addr} {v : Value} {K : Value → Prop} (h : ∀ w, C w → Ld P w t a fun u => u = v) (hk : K v) : Lq P C t a K :=
  Lq.mk v (fun w' hw => by
    obtain ⟨u, hu, rfl⟩ := (h w' hw).o
    exact hu) hk
end
section
variable {P : Program} {T : Tab} (hT : TabOk P T) {B : Nat} {w0 w : World} {L : List Res} (hL : Sep P B w0 w L)
include hL hT
/-- a region whose order is open: reads, and writes into thing number n, which none of the reads looks at -/
theorem V.treeS {N : Nat} {Q : Exit → Env → World → Prop} {e : Env} {id : Nat} {ops : Array Oper} (n : Nat) {b : Nat} {cs : List Value} {ty : TypeId} (hn : L[n]? = some (.blk b cs ty)) (pl : Pl) (hm : P.follows .mixedOrders = true)
    (hB : treeB ops pl = true) (h : heldT P T N (fun x => Sep P B w0 x (L.eraseIdx n)) ops.toList pl e w.drew fun e' w' => Q .normal e' w') : V P N (.region id ops true) Q e w :=
  V.tree hT _ pl hm hB (hL.drew.pop n) h
/-- .. and writes into new things alone -/
theorem V.treeA {N : Nat} {Q : Exit → Env → World → Prop} {e : Env} {id : Nat} {ops : Array Oper} (pl : Pl) (hm : P.follows .mixedOrders = true)
    (hB : treeB ops pl = true) (h : heldT P T N (fun x => Sep P B w0 x L) ops.toList pl e w.drew fun e' w' => Q .normal e' w') : V P N (.region id ops true) Q e w :=
  V.tree hT _ pl hm hB hL.drew h
/-- .. and writes into thing number n, or appends to it -/
theorem V.treeP {N : Nat} {Q : Exit → Env → World → Prop} {e : Env} {id : Nat} {ops : Array Oper} (n : Nat) (pl : Pl) (hm : P.follows .mixedOrders = true)
    (hB : treeB ops pl = true) (h : heldT P T N (fun x => Sep P B w0 x (L.eraseIdx n)) ops.toList pl e w.drew fun e' w' => Q .normal e' w') : V P N (.region id ops true) Q e w :=
  V.tree hT _ pl hm hB (hL.drew.pop n) h
end

/-! ### A slice that may be read; an empty one may lie anywhere -/
structure SlE (w : World) (v : Value) (xs : List Value) : Prop where
  of : Sl w v xs ∨ ∃ ad, v = .slice (some ad) 0 0 ∧ xs = []
theorem SlE.sl {w : World} {v : Value} {xs : List Value} (h : SlE w v xs) : Sl w v xs := by
  rcases h.of with h | ⟨ad, rfl, rfl⟩
  · exact h
  · exact ⟨some ad, 0, rfl, Nat.le_refl _, by simp [maxLen], nofun, fun _ _ h => absurd rfl h⟩
theorem Sl.e {w : World} {v : Value} {xs : List Value} (h : Sl w v xs) : SlE w v xs := ⟨.inl h⟩
theorem SlE.nil (w : World) : SlE w (.slice none 0 0) [] := (Sl.nil w).e
theorem SlE.shape {w : World} {v : Value} {xs : List Value} (h : SlE w v xs) : ∃ a c, v = .slice a xs.length c := by
  rcases h.of with h | ⟨ad, rfl, rfl⟩
  · exact h.shape
  · exact ⟨_, _, rfl⟩
theorem SlE.le {w : World} {v : Value} {xs : List Value} (h : SlE w v xs) : xs.length ≤ 9223372036854775807 := by
  rcases h.of with h | ⟨ad, rfl, rfl⟩
  · exact h.le
  · simp
theorem SlE.below {w w' : World} {v : Value} {xs : List Value} (h : SlE w v xs) (hb : Below w.heap.size w w') : SlE w' v xs := by
  rcases h.of with h | h
  · exact (h.below hb).e
  · exact ⟨.inr h⟩
theorem Sep.slE {P : Program} {B : Nat} {w0 w : World} {L : List Res} (h : Sep P B w0 w L) {v : Value} {xs : List Value} (hs : SlE w0 v xs) (hB : B = w0.heap.size) : SlE w v xs := by
  subst hB; exact hs.below h.below
section
variable {P : Program} {T : Tab} (hT : TabOk P T)
include hT
theorem toStrE_run {w : World} {t u e : TypeId} {s b s1 b1 s2 b2 : Nat} {z z1 z2 : Value} (ht : look T t = some ⟨.slice e, s, b, z⟩) (he : look T e = some ⟨.int .u8, s1, b1, z1⟩) (hu : look T u = some ⟨.str, s2, b2, z2⟩) {v : Value} {l : List UInt8} (h : SlE w v (bv l)) :
    (convert t u v).run P w = .ok (.string (mkB l)) w := by
  rcases h.of with h1 | ⟨ad, rfl, h1⟩
  · exact toStr_run hT ht he hu h1
  · have hl : l = [] := by simpa [bv] using h1
    subst hl
    have ht' := und_slice hT ht
    obtain ⟨x, hx, hs⟩ := shOf_cases hT he
    cases x <;> simp only [shOf, reduceCtorEq, Sh.int.injEq] at hs
    subst hs
    obtain ⟨y, hy, hs⟩ := shOf_cases hT hu
    cases y <;> simp only [shOf, reduceCtorEq] at hs
    rw [run_convert_bytes_string w t u e _ 0 0 ht' hx hy, run_bytesToString w ad 0 0 [] (by simp [loadCells, loadCellsFrom])]
    rfl
theorem Rv.toStrE {w : World} {K : Value → World → Prop} {t u e : TypeId} {s b s1 b1 s2 b2 : Nat} {z z1 z2 : Value} (ht : look T t = some ⟨.slice e, s, b, z⟩) (he : look T e = some ⟨.int .u8, s1, b1, z1⟩) (hu : look T u = some ⟨.str, s2, b2, z2⟩) {v : Value} {l : List UInt8} (h : SlE w v (bv l))
    (hk : K (.string (mkB l)) w) : Rv P (convert t u v) w K := Rv.mk (toStrE_run hT ht he hu h) hk
theorem Rq.toStrE {C : World → Prop} {K : Value → Prop} {t u e : TypeId} {s b s1 b1 s2 b2 : Nat} {z z1 z2 : Value} (ht : look T t = some ⟨.slice e, s, b, z⟩) (he : look T e = some ⟨.int .u8, s1, b1, z1⟩) (hu : look T u = some ⟨.str, s2, b2, z2⟩) {v : Value} {l : List UInt8} (h : ∀ w, C w → SlE w v (bv l))
    (hk : K (.string (mkB l))) : Rq P C (convert t u v) K := Rq.mk _ (fun w' hw => toStrE_run hT ht he hu (h w' hw)) hk
end
end Go.Proofs.YtjafamiaahabgaaGreatDoor

namespace Go.Proofs.YtjafamiaahabgaaGreatDoor
open Go.RowKit
set_option linter.unusedVariables false
set_option linter.unusedSimpArgs false

/-- the cells of an element of a slice, and what they read as -/
def elemO (w : World) (a : Addr) (sz i : Nat) (R : List Value → Prop) : Prop := ∃ es, es.length = sz ∧ (∀ j x, es[j]? = some x → w.cell? ((a.add (i * sz)).add j) = some x) ∧ R es
def opn (T : Tab) (w : World) : Nat → TypeId → List Value → Prop
  | 0 => fun _ _ => True
  | d + 1 => fun t cs => match look T t with
    | some ⟨sh, sz, _, _⟩ => match sh with
      | .bool => ∃ b, cs = [.bool b]
      | .int k => ∃ n, cs = [.int k n] ∧ (Lit.int k n).wf = true
      | .str => ∃ s, cs = [.string s] ∧ s.size ≤ maxLen
      | .slice e => match look T e with
        | some ⟨_, sz, _, _⟩ => cs = [.slice none 0 0] ∨ ∃ a n c, cs = [.slice (some a) n c] ∧ n ≤ c ∧ c ≤ maxLen ∧ ∀ i, i < c → elemO w a sz i fun es => opn T w d e es
        | none => True
      | .struct fs => cs.length = sz ∧ allF (fun f => match look T f.2 with
        | some ⟨_, sz, _, _⟩ => opn T w d f.2 (tkL (dpL cs f.1) sz)
        | none => True) fs
      | _ => True
    | none => True

theorem allF_of {α : Type} {p : α → Prop} : ∀ {l : List α}, (∀ x ∈ l, p x) → allF p l
  | [], _ => trivial
  | x :: l, h => ⟨h x (by simp), allF_of fun y hy => h y (by simp [hy])⟩
theorem mapM_get {α β : Type} {f : α → Option β} : ∀ {l : List α} {ys : List β}, l.mapM f = some ys → ∀ x ∈ l, ∃ y, f x = some y
  | [], ys, h, x, hx => by simp at hx
  | a :: l, ys, h, x, hx => by
    rw [List.mapM_cons] at h
    cases ha : f a with
    | none => simp [ha] at h
    | some b =>
      cases hl : l.mapM f with
      | none => simp [ha, hl] at h
      | some bs =>
        rcases List.mem_cons.1 hx with rfl | hx
        · exact ⟨b, ha⟩
        · exact mapM_get hl x hx
theorem cells_get {w : World} {base n : Nat} {a : Addr} {es : List Value} (h : w.cells? base a n = some es) : es.length = n ∧ ∀ j x, es[j]? = some x → w.cell? (a.add j) = some x := by
  unfold World.cells? at h
  split at h
  · have aux : ∀ (l : List Nat) (es : List Value), l.mapM (fun i => w.cell? (a.add i)) = some es → es.length = l.length ∧ ∀ (j i : Nat) (x : Value), l[j]? = some i → es[j]? = some x → w.cell? (a.add i) = some x := by
      intro l
      induction l with
      | nil => intro es h; simp at h; subst h; simp
      | cons i l ih =>
        intro es h
        rw [List.mapM_cons] at h
        cases hi : w.cell? (a.add i) with
        | none => simp [hi] at h
        | some v =>
          cases hl : l.mapM (fun i => w.cell? (a.add i)) with
          | none => simp [hi, hl] at h
          | some vs =>
            simp [hi, hl] at h
            subst h
            obtain ⟨h1, h2⟩ := ih vs hl
            refine ⟨by simp [h1], fun j i' x hj hx => ?_⟩
            cases j with
            | zero => simp at hj hx; subst hj; subst hx; exact hi
            | succ j => exact h2 j i' x (by simpa using hj) (by simpa using hx)
    obtain ⟨h1, h2⟩ := aux _ _ h
    refine ⟨by simpa using h1, fun j x hx => ?_⟩
    have hj := (List.getElem?_eq_some_iff.1 hx).1
    rw [h1] at hj
    simp at hj
    exact h2 j j x (by simp [hj]) hx
  · cases h

section
variable {H : Type} {enc : TypeId × Value → H} {P : Program} {T : Tab} (hT : TabOk P T) {w : World}
include hT
omit hT in
theorem slice_elem {a : Addr} {n c sze i : Nat} {R : List Value → Prop} {g : List Value → Option (DataW H × List MemPlace)} {F : List (DataW H × List MemPlace) → List (DataW H × List MemPlace) → DataW H × List MemPlace} {x : DataW H × List MemPlace} (hi : i < c) (hR : ∀ es y, g es = some y → R es)
    (h : ((List.range n).mapM fun i => (w.cells? 0 (a.add (i * sze)) sze).bind g).bind (fun elems => (if true = true then (List.range (c - n)).mapM fun j => (w.cells? 0 (a.add ((n + j) * sze)) sze).bind g else some []).map fun rest => F elems rest) = some x) : elemO w a sze i R := by
  cases h1 : (List.range n).mapM (fun i => (w.cells? 0 (a.add (i * sze)) sze).bind g) with
  | none => rw [h1] at h; simp at h
  | some elems =>
    rw [h1] at h
    simp only [Option.bind_some, if_true] at h
    cases h2 : (List.range (c - n)).mapM (fun j => (w.cells? 0 (a.add ((n + j) * sze)) sze).bind g) with
    | none => rw [h2] at h; simp at h
    | some rest =>
      have hi' : ∃ y, (w.cells? 0 (a.add (i * sze)) sze).bind g = some y := by
        rcases Nat.lt_or_ge i n with h3 | h3
        · exact mapM_get h1 i (List.mem_range.2 h3)
        · have := mapM_get h2 (i - n) (List.mem_range.2 (by omega))
          rwa [show n + (i - n) = i from by omega] at this
      obtain ⟨y, hy⟩ := hi'
      cases h4 : w.cells? 0 (a.add (i * sze)) sze with
      | none => rw [h4] at hy; simp at hy
      | some es =>
        rw [h4] at hy
        obtain ⟨h5, h6⟩ := cells_get h4
        exact ⟨es, h5, h6, hR es y hy⟩
theorem trod_opn : ∀ (d fuel : Nat) (t : TypeId) (cs : List Value) (x : DataW H × List MemPlace), DataW.trod enc P w 0 (fun _ => true) true fuel t cs = some x → opn T w d t cs
  | 0, _, _, _, _, _ => trivial
  | d + 1, 0, t, cs, x, h => by simp [DataW.trod] at h
  | d + 1, fuel + 1, t, cs, x, h => by
    unfold opn
    split
    case h_2 => trivial
    rename_i sh sz _ _ hl
    obtain ⟨u, hu, hs⟩ := shOf_cases hT hl
    split
    · cases u <;> simp only [shOf, reduceCtorEq] at hs
      simp only [DataW.trod, hu] at h
      split at h <;> first | (simp at *; done) | cases h | skip
      all_goals simp_all
    · cases u <;> simp only [shOf, reduceCtorEq, Sh.int.injEq] at hs
      subst hs
      simp only [DataW.trod, hu] at h
      split at h <;> simp_all
    · cases u <;> simp only [shOf, reduceCtorEq] at hs
      simp only [DataW.trod, hu] at h
      split at h <;> simp_all
    · rename_i e
      cases u <;> simp only [shOf, reduceCtorEq, Sh.slice.injEq] at hs
      rename_i el
      subst hs
      split
      case h_2 => trivial
      rename_i sze _ _ hle
      have hsz : P.cellsOf el = sze := cellsOf_td hT hle
      rcases cs with _ | ⟨v, _ | ⟨v2, cs⟩⟩
      · simp [DataW.trod, hu] at h
      · cases v with
        | slice ao n c =>
          cases ao with
          | none =>
            cases n with
            | zero =>
              cases c with
              | zero => exact .inl rfl
              | succ c => simp [DataW.trod, hu] at h
            | succ n => simp [DataW.trod, hu] at h
          | some a =>
            simp only [DataW.trod, hu] at h
            right
            refine ⟨a, n, c, rfl, ?_⟩
            split at h
            case isFalse => cases h
            rename_i hcond
            refine ⟨hcond.2.1, hcond.2.2, fun i hi => ?_⟩
            rw [hsz] at h
            exact slice_elem hi (fun es y hy => trod_opn d fuel _ es y hy) h
        | _ => simp [DataW.trod, hu] at h
      · simp [DataW.trod, hu] at h
    · rename_i fs
      cases u <;> simp only [shOf, reduceCtorEq, Sh.struct.injEq] at hs
      rename_i fields
      have hsz : P.cellsOf t = sz := cellsOf_td hT hl
      simp only [DataW.trod, hu, hsz] at h
      split at h
      case isFalse => cases h
      rename_i hlen
      refine ⟨hlen, allF_of fun f hf => ?_⟩
      split
      case h_2 => trivial
      rename_i szf _ _ hlf
      rw [← hs] at hf
      obtain ⟨fd, hfd, rfl⟩ := List.mem_map.1 hf
      cases h1 : fields.toList.mapM (fun f => DataW.trod enc P w 0 (fun _ => true) true fuel f.type ((cs.drop f.offset).take (P.cellsOf f.type))) with
      | none => rw [h1] at h; simp at h
      | some xs =>
        obtain ⟨y, hy⟩ := mapM_get h1 fd hfd
        rw [tkL_eq, dpL_eq]
        rw [cellsOf_td hT hlf] at hy
        exact trod_opn d fuel fd.type _ y hy
    · trivial
end
end Go.Proofs.YtjafamiaahabgaaGreatDoor

namespace Go.Proofs.YtjafamiaahabgaaGreatDoor
set_option linter.unusedVariables false
theorem structs_open {T : Tab} {w : World} {t e : TypeId} {a : Option Addr} {n c d s b b1 sz : Nat} {z z1 : Value} {sh : Sh} (ht : look T t = some ⟨.slice e, s, b, z⟩) (he : look T e = some ⟨sh, sz, b1, z1⟩) (hsz : 0 < sz) {α : Type} (p0 : α) {f : α → List Value} (hf : ∀ s, (f s).length = sz) {Ok : α → Prop}
    (hel : ∀ es, opn T w d e es → ∃ p, es = f p ∧ Ok p) (hsp : ∀ x, a = some x → x.spot = none) (h : opn T w (d + 1) t [.slice a n c]) : ∃ l : List α, SlN w sz (.slice a n c) l.length (l.flatMap f) ∧ ∀ p ∈ l, Ok p := by
  unfold opn at h
  simp only [ht, he] at h
  rcases h with h | ⟨x, n', c', h, h1, h2, h3⟩
  · injection h with h
    injection h with e1 e2 e3
    subst e1; subst e2; subst e3
    exact ⟨[], SlN.nil w sz, by simp⟩
  · injection h with h
    injection h with e1 e2 e3
    subst e1; subst e2; subst e3
    have hs := hsp x rfl
    obtain ⟨bb, o, s⟩ := x
    simp only at hs; subst hs
    have hev : ∀ i, i < n → ∃ p : α, (∀ (j : Nat) (x : Value), (f p)[j]? = some x → w.cell? ⟨bb, o + (i * sz + j), none⟩ = some x) ∧ Ok p := fun i hi => by
      obtain ⟨es, q1, q2, q3⟩ := h3 i (by omega)
      obtain ⟨p, rfl, q4⟩ := hel _ q3
      refine ⟨p, fun j x hx => ?_, q4⟩
      have := q2 j x hx
      rwa [Addr.add_lit, Addr.add_lit, Nat.add_assoc] at this
    refine ⟨(List.range n).map fun i => if h : i < n then (hev i h).choose else p0, ?_, ?_⟩
    · have hl : ((List.range n).map fun i => if h : i < n then (hev i h).choose else p0).length = n := by simp
      rw [hl]
      refine SlN.some' (by rw [flat_len hf, hl]) h1 h2 fun k x hx => ?_
      have hk : k < n * sz := by have := (List.getElem?_eq_some_iff.1 hx).1; rw [flat_len hf, hl] at this; exact this
      have hkn : k / sz < n := (Nat.div_lt_iff_lt_mul hsz).2 hk
      have hkk : k = k / sz * sz + k % sz := by rw [Nat.mul_comm]; exact (Nat.div_add_mod k sz).symm
      rw [hkk, flat_get hf (k := k / sz) (s := (hev (k / sz) hkn).choose) (k % sz) (by simp [hkn]) (Nat.mod_lt _ hsz)] at hx
      have := (hev (k / sz) hkn).choose_spec.1 (k % sz) x hx
      rwa [← hkk] at this
    · intro p hp
      obtain ⟨i, hi, rfl⟩ := List.mem_map.1 hp
      have hin := List.mem_range.1 hi
      simp only [hin, dif_pos]
      exact (hev i hin).choose_spec.2
end Go.Proofs.YtjafamiaahabgaaGreatDoor
namespace Go.Proofs.YtjafamiaahabgaaGreatDoor
set_option maxRecDepth 20000
theorem ty2 : TdOk Tryz.prog 2 ⟨.int .i64, 1, 8, .int .i64 0⟩ := ⟨by kernel_rfl, by kernel_rfl⟩
theorem ty3 : TdOk Tryz.prog 3 ⟨.int .i64, 1, 8, .int .i64 0⟩ := ⟨by kernel_rfl, by kernel_rfl⟩
theorem ty4 : TdOk Tryz.prog 4 ⟨.bool, 1, 1, .bool false⟩ := ⟨by kernel_rfl, by kernel_rfl⟩
theorem ty5 : TdOk Tryz.prog 5 ⟨.int .u8, 1, 1, .int .u8 0⟩ := ⟨by kernel_rfl, by kernel_rfl⟩
theorem ty6 : TdOk Tryz.prog 6 ⟨.int .u8, 1, 1, .int .u8 0⟩ := ⟨by kernel_rfl, by kernel_rfl⟩
theorem ty12 : TdOk Tryz.prog 12 ⟨.int .u64, 1, 8, .int .u64 0⟩ := ⟨by kernel_rfl, by kernel_rfl⟩
theorem ty21 : TdOk Tryz.prog 21 ⟨.int .i32, 1, 4, .int .i32 0⟩ := ⟨by kernel_rfl, by kernel_rfl⟩
theorem ty22 : TdOk Tryz.prog 22 ⟨.slice 23, 1, 24, .slice none 0 0⟩ := ⟨by kernel_rfl, by kernel_rfl⟩
theorem ty23 : TdOk Tryz.prog 23 ⟨.slice 5, 1, 24, .slice none 0 0⟩ := ⟨by kernel_rfl, by kernel_rfl⟩
theorem ty25 : TdOk Tryz.prog 25 ⟨.int .i64, 1, 8, .int .i64 0⟩ := ⟨by kernel_rfl, by kernel_rfl⟩
theorem ty45 : TdOk Tryz.prog 45 ⟨.slice 58, 1, 24, .slice none 0 0⟩ := ⟨by kernel_rfl, by kernel_rfl⟩
theorem ty63 : TdOk Tryz.prog 63 ⟨.slice 75, 1, 24, .slice none 0 0⟩ := ⟨by kernel_rfl, by kernel_rfl⟩
theorem ty66 : TdOk Tryz.prog 66 ⟨.slice 9, 1, 24, .slice none 0 0⟩ := ⟨by kernel_rfl, by kernel_rfl⟩
theorem ty74 : TdOk Tryz.prog 74 ⟨.int .u64, 1, 8, .int .u64 0⟩ := ⟨by kernel_rfl, by kernel_rfl⟩
theorem ty78 : TdOk Tryz.prog 78 ⟨.slice 3, 1, 24, .slice none 0 0⟩ := ⟨by kernel_rfl, by kernel_rfl⟩
theorem ty88 : TdOk Tryz.prog 88 ⟨.slice 95, 1, 24, .slice none 0 0⟩ := ⟨by kernel_rfl, by kernel_rfl⟩
theorem ty119 : TdOk Tryz.prog 119 ⟨.int .u32, 1, 4, .int .u32 0⟩ := ⟨by kernel_rfl, by kernel_rfl⟩
theorem ty121 : TdOk Tryz.prog 121 ⟨.int .u64, 1, 8, .int .u64 0⟩ := ⟨by kernel_rfl, by kernel_rfl⟩
theorem ty126 : TdOk Tryz.prog 126 ⟨.slice 133, 1, 24, .slice none 0 0⟩ := ⟨by kernel_rfl, by kernel_rfl⟩
theorem ty173 : TdOk Tryz.prog 173 ⟨.int .i64, 1, 8, .int .i64 0⟩ := ⟨by kernel_rfl, by kernel_rfl⟩
theorem ty188 : TdOk Tryz.prog 188 ⟨.int .u64, 1, 8, .int .u64 0⟩ := ⟨by kernel_rfl, by kernel_rfl⟩
theorem ty206 : TdOk Tryz.prog 206 ⟨.int .u8, 1, 1, .int .u8 0⟩ := ⟨by kernel_rfl, by kernel_rfl⟩
theorem ty207 : TdOk Tryz.prog 207 ⟨.int .u8, 1, 1, .int .u8 0⟩ := ⟨by kernel_rfl, by kernel_rfl⟩
theorem ty209 : TdOk Tryz.prog 209 ⟨.int .i32, 1, 4, .int .i32 0⟩ := ⟨by kernel_rfl, by kernel_rfl⟩
theorem ty210 : TdOk Tryz.prog 210 ⟨.int .i32, 1, 4, .int .i32 0⟩ := ⟨by kernel_rfl, by kernel_rfl⟩
theorem ty1 : TdOk Tryz.prog 1 ⟨.func, 1, 8, .nilFunc⟩ := ⟨by kernel_rfl, by kernel_rfl⟩
theorem ty7 : TdOk Tryz.prog 7 ⟨.struct [(0, 2), (1, 3), (2, 4), (3, 6)], 4, 24, .agg #[.int .i64 0, .int .i64 0, .bool false, .int .u8 0]⟩ := ⟨by kernel_rfl, by kernel_rfl⟩
theorem ty8 : TdOk Tryz.prog 8 ⟨.struct [(0, 2), (1, 3), (2, 4), (3, 6)], 4, 24, .agg #[.int .i64 0, .int .i64 0, .bool false, .int .u8 0]⟩ := ⟨by kernel_rfl, by kernel_rfl⟩
theorem ty9 : TdOk Tryz.prog 9 ⟨.str, 1, 16, .string ByteArray.empty⟩ := ⟨by kernel_rfl, by kernel_rfl⟩
theorem ty10 : TdOk Tryz.prog 10 ⟨.str, 1, 16, .string ByteArray.empty⟩ := ⟨by kernel_rfl, by kernel_rfl⟩
theorem ty11 : TdOk Tryz.prog 11 ⟨.str, 1, 16, .string ByteArray.empty⟩ := ⟨by kernel_rfl, by kernel_rfl⟩
theorem ty13 : TdOk Tryz.prog 13 ⟨.struct [(0, 9), (1, 12)], 2, 24, .agg #[.string ByteArray.empty, .int .u64 0]⟩ := ⟨by kernel_rfl, by kernel_rfl⟩
theorem ty14 : TdOk Tryz.prog 14 ⟨.struct [(0, 9), (1, 12)], 2, 24, .agg #[.string ByteArray.empty, .int .u64 0]⟩ := ⟨by kernel_rfl, by kernel_rfl⟩
theorem ty15 : TdOk Tryz.prog 15 ⟨.ptr 202, 1, 8, .pointer none⟩ := ⟨by kernel_rfl, by kernel_rfl⟩
theorem ty16 : TdOk Tryz.prog 16 ⟨.ptr 205, 1, 8, .pointer none⟩ := ⟨by kernel_rfl, by kernel_rfl⟩
theorem ty17 : TdOk Tryz.prog 17 ⟨.ptr 212, 1, 8, .pointer none⟩ := ⟨by kernel_rfl, by kernel_rfl⟩
theorem ty18 : TdOk Tryz.prog 18 ⟨.struct [(0, 17)], 1, 8, .agg #[.pointer none]⟩ := ⟨by kernel_rfl, by kernel_rfl⟩
theorem ty19 : TdOk Tryz.prog 19 ⟨.struct [(0, 17)], 1, 8, .agg #[.pointer none]⟩ := ⟨by kernel_rfl, by kernel_rfl⟩
theorem ty20 : TdOk Tryz.prog 20 ⟨.iface, 1, 16, .nilIface⟩ := ⟨by kernel_rfl, by kernel_rfl⟩
theorem ty24 : TdOk Tryz.prog 24 ⟨.ptr 62, 1, 8, .pointer none⟩ := ⟨by kernel_rfl, by kernel_rfl⟩
theorem ty27 : TdOk Tryz.prog 27 ⟨.func, 1, 8, .nilFunc⟩ := ⟨by kernel_rfl, by kernel_rfl⟩
theorem ty28 : TdOk Tryz.prog 28 ⟨.ptr 65, 1, 8, .pointer none⟩ := ⟨by kernel_rfl, by kernel_rfl⟩
theorem ty30 : TdOk Tryz.prog 30 ⟨.func, 1, 8, .nilFunc⟩ := ⟨by kernel_rfl, by kernel_rfl⟩
theorem ty32 : TdOk Tryz.prog 32 ⟨.func, 1, 8, .nilFunc⟩ := ⟨by kernel_rfl, by kernel_rfl⟩
theorem ty33 : TdOk Tryz.prog 33 ⟨.func, 1, 8, .nilFunc⟩ := ⟨by kernel_rfl, by kernel_rfl⟩
theorem ty34 : TdOk Tryz.prog 34 ⟨.func, 1, 8, .nilFunc⟩ := ⟨by kernel_rfl, by kernel_rfl⟩
theorem ty36 : TdOk Tryz.prog 36 ⟨.func, 1, 8, .nilFunc⟩ := ⟨by kernel_rfl, by kernel_rfl⟩
theorem ty38 : TdOk Tryz.prog 38 ⟨.func, 1, 8, .nilFunc⟩ := ⟨by kernel_rfl, by kernel_rfl⟩
theorem ty39 : TdOk Tryz.prog 39 ⟨.func, 1, 8, .nilFunc⟩ := ⟨by kernel_rfl, by kernel_rfl⟩
theorem ty40 : TdOk Tryz.prog 40 ⟨.func, 1, 8, .nilFunc⟩ := ⟨by kernel_rfl, by kernel_rfl⟩
theorem ty41 : TdOk Tryz.prog 41 ⟨.func, 1, 8, .nilFunc⟩ := ⟨by kernel_rfl, by kernel_rfl⟩
theorem ty42 : TdOk Tryz.prog 42 ⟨.func, 1, 8, .nilFunc⟩ := ⟨by kernel_rfl, by kernel_rfl⟩
theorem ty43 : TdOk Tryz.prog 43 ⟨.func, 1, 8, .nilFunc⟩ := ⟨by kernel_rfl, by kernel_rfl⟩
theorem ty44 : TdOk Tryz.prog 44 ⟨.func, 1, 8, .nilFunc⟩ := ⟨by kernel_rfl, by kernel_rfl⟩
theorem ty46 : TdOk Tryz.prog 46 ⟨.func, 1, 8, .nilFunc⟩ := ⟨by kernel_rfl, by kernel_rfl⟩
theorem ty47 : TdOk Tryz.prog 47 ⟨.ptr 90, 1, 8, .pointer none⟩ := ⟨by kernel_rfl, by kernel_rfl⟩
theorem ty49 : TdOk Tryz.prog 49 ⟨.func, 1, 8, .nilFunc⟩ := ⟨by kernel_rfl, by kernel_rfl⟩
theorem ty50 : TdOk Tryz.prog 50 ⟨.func, 1, 8, .nilFunc⟩ := ⟨by kernel_rfl, by kernel_rfl⟩
theorem ty51 : TdOk Tryz.prog 51 ⟨.func, 1, 8, .nilFunc⟩ := ⟨by kernel_rfl, by kernel_rfl⟩
theorem ty52 : TdOk Tryz.prog 52 ⟨.ptr 55, 1, 8, .pointer none⟩ := ⟨by kernel_rfl, by kernel_rfl⟩
theorem ty53 : TdOk Tryz.prog 53 ⟨.ptr 128, 1, 8, .pointer none⟩ := ⟨by kernel_rfl, by kernel_rfl⟩
theorem ty54 : TdOk Tryz.prog 54 ⟨.struct [(0, 24), (1, 47), (2, 28), (3, 53)], 4, 32, .agg #[.pointer none, .pointer none, .pointer none, .pointer none]⟩ := ⟨by kernel_rfl, by kernel_rfl⟩
theorem ty55 : TdOk Tryz.prog 55 ⟨.struct [(0, 24), (1, 47), (2, 28), (3, 53)], 4, 32, .agg #[.pointer none, .pointer none, .pointer none, .pointer none]⟩ := ⟨by kernel_rfl, by kernel_rfl⟩
theorem ty56 : TdOk Tryz.prog 56 ⟨.func, 1, 8, .nilFunc⟩ := ⟨by kernel_rfl, by kernel_rfl⟩
theorem ty57 : TdOk Tryz.prog 57 ⟨.struct [(0, 3), (1, 3), (2, 3), (3, 23), (4, 5)], 5, 56, .agg #[.int .i64 0, .int .i64 0, .int .i64 0, .slice none 0 0, .int .u8 0]⟩ := ⟨by kernel_rfl, by kernel_rfl⟩
theorem ty58 : TdOk Tryz.prog 58 ⟨.struct [(0, 3), (1, 3), (2, 3), (3, 23), (4, 5)], 5, 56, .agg #[.int .i64 0, .int .i64 0, .int .i64 0, .slice none 0 0, .int .u8 0]⟩ := ⟨by kernel_rfl, by kernel_rfl⟩
theorem ty59 : TdOk Tryz.prog 59 ⟨.func, 1, 8, .nilFunc⟩ := ⟨by kernel_rfl, by kernel_rfl⟩
theorem ty60 : TdOk Tryz.prog 60 ⟨.map 9 86, 1, 8, .map none⟩ := ⟨by kernel_rfl, by kernel_rfl⟩
theorem ty61 : TdOk Tryz.prog 61 ⟨.struct [(0, 3), (1, 3), (2, 60)], 3, 24, .agg #[.int .i64 0, .int .i64 0, .map none]⟩ := ⟨by kernel_rfl, by kernel_rfl⟩
theorem ty62 : TdOk Tryz.prog 62 ⟨.struct [(0, 3), (1, 3), (2, 60)], 3, 24, .agg #[.int .i64 0, .int .i64 0, .map none]⟩ := ⟨by kernel_rfl, by kernel_rfl⟩
theorem ty64 : TdOk Tryz.prog 64 ⟨.struct [(0, 24), (1, 9), (2, 63), (3, 3)], 4, 56, .agg #[.pointer none, .string ByteArray.empty, .slice none 0 0, .int .i64 0]⟩ := ⟨by kernel_rfl, by kernel_rfl⟩
theorem ty65 : TdOk Tryz.prog 65 ⟨.struct [(0, 24), (1, 9), (2, 63), (3, 3)], 4, 56, .agg #[.pointer none, .string ByteArray.empty, .slice none 0 0, .int .i64 0]⟩ := ⟨by kernel_rfl, by kernel_rfl⟩
theorem ty67 : TdOk Tryz.prog 67 ⟨.func, 1, 8, .nilFunc⟩ := ⟨by kernel_rfl, by kernel_rfl⟩
theorem ty69 : TdOk Tryz.prog 69 ⟨.func, 1, 8, .nilFunc⟩ := ⟨by kernel_rfl, by kernel_rfl⟩
theorem ty70 : TdOk Tryz.prog 70 ⟨.func, 1, 8, .nilFunc⟩ := ⟨by kernel_rfl, by kernel_rfl⟩
theorem ty71 : TdOk Tryz.prog 71 ⟨.func, 1, 8, .nilFunc⟩ := ⟨by kernel_rfl, by kernel_rfl⟩
theorem ty72 : TdOk Tryz.prog 72 ⟨.func, 1, 8, .nilFunc⟩ := ⟨by kernel_rfl, by kernel_rfl⟩
theorem ty73 : TdOk Tryz.prog 73 ⟨.func, 1, 8, .nilFunc⟩ := ⟨by kernel_rfl, by kernel_rfl⟩
theorem ty75 : TdOk Tryz.prog 75 ⟨.ptr 80, 1, 8, .pointer none⟩ := ⟨by kernel_rfl, by kernel_rfl⟩
theorem ty76 : TdOk Tryz.prog 76 ⟨.func, 1, 8, .nilFunc⟩ := ⟨by kernel_rfl, by kernel_rfl⟩
theorem ty77 : TdOk Tryz.prog 77 ⟨.func, 1, 8, .nilFunc⟩ := ⟨by kernel_rfl, by kernel_rfl⟩
theorem ty79 : TdOk Tryz.prog 79 ⟨.struct [(0, 3), (1, 22), (2, 78), (3, 4)], 4, 64, .agg #[.int .i64 0, .slice none 0 0, .slice none 0 0, .bool false]⟩ := ⟨by kernel_rfl, by kernel_rfl⟩
theorem ty80 : TdOk Tryz.prog 80 ⟨.struct [(0, 3), (1, 22), (2, 78), (3, 4)], 4, 64, .agg #[.int .i64 0, .slice none 0 0, .slice none 0 0, .bool false]⟩ := ⟨by kernel_rfl, by kernel_rfl⟩
theorem ty81 : TdOk Tryz.prog 81 ⟨.func, 1, 8, .nilFunc⟩ := ⟨by kernel_rfl, by kernel_rfl⟩
theorem ty82 : TdOk Tryz.prog 82 ⟨.func, 1, 8, .nilFunc⟩ := ⟨by kernel_rfl, by kernel_rfl⟩
theorem ty83 : TdOk Tryz.prog 83 ⟨.func, 1, 8, .nilFunc⟩ := ⟨by kernel_rfl, by kernel_rfl⟩
theorem ty84 : TdOk Tryz.prog 84 ⟨.func, 1, 8, .nilFunc⟩ := ⟨by kernel_rfl, by kernel_rfl⟩
theorem ty85 : TdOk Tryz.prog 85 ⟨.struct [(0, 23), (1, 3)], 2, 32, .agg #[.slice none 0 0, .int .i64 0]⟩ := ⟨by kernel_rfl, by kernel_rfl⟩
theorem ty86 : TdOk Tryz.prog 86 ⟨.struct [(0, 23), (1, 3)], 2, 32, .agg #[.slice none 0 0, .int .i64 0]⟩ := ⟨by kernel_rfl, by kernel_rfl⟩
theorem ty87 : TdOk Tryz.prog 87 ⟨.func, 1, 8, .nilFunc⟩ := ⟨by kernel_rfl, by kernel_rfl⟩
theorem ty89 : TdOk Tryz.prog 89 ⟨.struct [(0, 3), (1, 88)], 2, 32, .agg #[.int .i64 0, .slice none 0 0]⟩ := ⟨by kernel_rfl, by kernel_rfl⟩
theorem ty90 : TdOk Tryz.prog 90 ⟨.struct [(0, 3), (1, 88)], 2, 32, .agg #[.int .i64 0, .slice none 0 0]⟩ := ⟨by kernel_rfl, by kernel_rfl⟩
theorem ty91 : TdOk Tryz.prog 91 ⟨.func, 1, 8, .nilFunc⟩ := ⟨by kernel_rfl, by kernel_rfl⟩
theorem ty93 : TdOk Tryz.prog 93 ⟨.func, 1, 8, .nilFunc⟩ := ⟨by kernel_rfl, by kernel_rfl⟩
theorem ty94 : TdOk Tryz.prog 94 ⟨.struct [(0, 9), (1, 23), (2, 3)], 3, 48, .agg #[.string ByteArray.empty, .slice none 0 0, .int .i64 0]⟩ := ⟨by kernel_rfl, by kernel_rfl⟩
theorem ty95 : TdOk Tryz.prog 95 ⟨.struct [(0, 9), (1, 23), (2, 3)], 3, 48, .agg #[.string ByteArray.empty, .slice none 0 0, .int .i64 0]⟩ := ⟨by kernel_rfl, by kernel_rfl⟩
theorem ty97 : TdOk Tryz.prog 97 ⟨.func, 1, 8, .nilFunc⟩ := ⟨by kernel_rfl, by kernel_rfl⟩
theorem ty98 : TdOk Tryz.prog 98 ⟨.func, 1, 8, .nilFunc⟩ := ⟨by kernel_rfl, by kernel_rfl⟩
theorem ty99 : TdOk Tryz.prog 99 ⟨.func, 1, 8, .nilFunc⟩ := ⟨by kernel_rfl, by kernel_rfl⟩
theorem ty101 : TdOk Tryz.prog 101 ⟨.func, 1, 8, .nilFunc⟩ := ⟨by kernel_rfl, by kernel_rfl⟩
theorem ty102 : TdOk Tryz.prog 102 ⟨.func, 1, 8, .nilFunc⟩ := ⟨by kernel_rfl, by kernel_rfl⟩
theorem ty103 : TdOk Tryz.prog 103 ⟨.func, 1, 8, .nilFunc⟩ := ⟨by kernel_rfl, by kernel_rfl⟩
theorem ty104 : TdOk Tryz.prog 104 ⟨.func, 1, 8, .nilFunc⟩ := ⟨by kernel_rfl, by kernel_rfl⟩
theorem ty105 : TdOk Tryz.prog 105 ⟨.func, 1, 8, .nilFunc⟩ := ⟨by kernel_rfl, by kernel_rfl⟩
theorem ty106 : TdOk Tryz.prog 106 ⟨.func, 1, 8, .nilFunc⟩ := ⟨by kernel_rfl, by kernel_rfl⟩
theorem ty107 : TdOk Tryz.prog 107 ⟨.func, 1, 8, .nilFunc⟩ := ⟨by kernel_rfl, by kernel_rfl⟩
theorem ty108 : TdOk Tryz.prog 108 ⟨.func, 1, 8, .nilFunc⟩ := ⟨by kernel_rfl, by kernel_rfl⟩
theorem ty109 : TdOk Tryz.prog 109 ⟨.func, 1, 8, .nilFunc⟩ := ⟨by kernel_rfl, by kernel_rfl⟩
theorem ty110 : TdOk Tryz.prog 110 ⟨.func, 1, 8, .nilFunc⟩ := ⟨by kernel_rfl, by kernel_rfl⟩
theorem ty112 : TdOk Tryz.prog 112 ⟨.func, 1, 8, .nilFunc⟩ := ⟨by kernel_rfl, by kernel_rfl⟩
theorem ty113 : TdOk Tryz.prog 113 ⟨.func, 1, 8, .nilFunc⟩ := ⟨by kernel_rfl, by kernel_rfl⟩
theorem ty115 : TdOk Tryz.prog 115 ⟨.func, 1, 8, .nilFunc⟩ := ⟨by kernel_rfl, by kernel_rfl⟩
theorem ty117 : TdOk Tryz.prog 117 ⟨.func, 1, 8, .nilFunc⟩ := ⟨by kernel_rfl, by kernel_rfl⟩
theorem ty118 : TdOk Tryz.prog 118 ⟨.func, 1, 8, .nilFunc⟩ := ⟨by kernel_rfl, by kernel_rfl⟩
theorem ty120 : TdOk Tryz.prog 120 ⟨.func, 1, 8, .nilFunc⟩ := ⟨by kernel_rfl, by kernel_rfl⟩
theorem ty122 : TdOk Tryz.prog 122 ⟨.func, 1, 8, .nilFunc⟩ := ⟨by kernel_rfl, by kernel_rfl⟩
theorem ty123 : TdOk Tryz.prog 123 ⟨.func, 1, 8, .nilFunc⟩ := ⟨by kernel_rfl, by kernel_rfl⟩
theorem ty124 : TdOk Tryz.prog 124 ⟨.func, 1, 8, .nilFunc⟩ := ⟨by kernel_rfl, by kernel_rfl⟩
theorem ty125 : TdOk Tryz.prog 125 ⟨.func, 1, 8, .nilFunc⟩ := ⟨by kernel_rfl, by kernel_rfl⟩
theorem ty127 : TdOk Tryz.prog 127 ⟨.struct [(0, 47), (1, 9), (2, 126), (3, 3), (4, 78)], 5, 80, .agg #[.pointer none, .string ByteArray.empty, .slice none 0 0, .int .i64 0, .slice none 0 0]⟩ := ⟨by kernel_rfl, by kernel_rfl⟩
theorem ty128 : TdOk Tryz.prog 128 ⟨.struct [(0, 47), (1, 9), (2, 126), (3, 3), (4, 78)], 5, 80, .agg #[.pointer none, .string ByteArray.empty, .slice none 0 0, .int .i64 0, .slice none 0 0]⟩ := ⟨by kernel_rfl, by kernel_rfl⟩
theorem ty129 : TdOk Tryz.prog 129 ⟨.func, 1, 8, .nilFunc⟩ := ⟨by kernel_rfl, by kernel_rfl⟩
theorem ty130 : TdOk Tryz.prog 130 ⟨.func, 1, 8, .nilFunc⟩ := ⟨by kernel_rfl, by kernel_rfl⟩
theorem ty131 : TdOk Tryz.prog 131 ⟨.func, 1, 8, .nilFunc⟩ := ⟨by kernel_rfl, by kernel_rfl⟩
theorem ty132 : TdOk Tryz.prog 132 ⟨.struct [(0, 3), (1, 22)], 2, 32, .agg #[.int .i64 0, .slice none 0 0]⟩ := ⟨by kernel_rfl, by kernel_rfl⟩
theorem ty133 : TdOk Tryz.prog 133 ⟨.struct [(0, 3), (1, 22)], 2, 32, .agg #[.int .i64 0, .slice none 0 0]⟩ := ⟨by kernel_rfl, by kernel_rfl⟩
theorem ty135 : TdOk Tryz.prog 135 ⟨.func, 1, 8, .nilFunc⟩ := ⟨by kernel_rfl, by kernel_rfl⟩
theorem ty136 : TdOk Tryz.prog 136 ⟨.func, 1, 8, .nilFunc⟩ := ⟨by kernel_rfl, by kernel_rfl⟩
theorem ty137 : TdOk Tryz.prog 137 ⟨.func, 1, 8, .nilFunc⟩ := ⟨by kernel_rfl, by kernel_rfl⟩
theorem ty138 : TdOk Tryz.prog 138 ⟨.func, 1, 8, .nilFunc⟩ := ⟨by kernel_rfl, by kernel_rfl⟩
theorem ty140 : TdOk Tryz.prog 140 ⟨.func, 1, 8, .nilFunc⟩ := ⟨by kernel_rfl, by kernel_rfl⟩
theorem ty141 : TdOk Tryz.prog 141 ⟨.func, 1, 8, .nilFunc⟩ := ⟨by kernel_rfl, by kernel_rfl⟩
theorem ty142 : TdOk Tryz.prog 142 ⟨.array 16 119, 16, 64, .agg #[.int .u32 0, .int .u32 0, .int .u32 0, .int .u32 0, .int .u32 0, .int .u32 0, .int .u32 0, .int .u32 0, .int .u32 0, .int .u32 0, .int .u32 0, .int .u32 0, .int .u32 0, .int .u32 0, .int .u32 0, .int .u32 0]⟩ := ⟨by kernel_rfl, by kernel_rfl⟩
theorem ty143 : TdOk Tryz.prog 143 ⟨.func, 1, 8, .nilFunc⟩ := ⟨by kernel_rfl, by kernel_rfl⟩
theorem ty145 : TdOk Tryz.prog 145 ⟨.func, 1, 8, .nilFunc⟩ := ⟨by kernel_rfl, by kernel_rfl⟩
theorem ty146 : TdOk Tryz.prog 146 ⟨.func, 1, 8, .nilFunc⟩ := ⟨by kernel_rfl, by kernel_rfl⟩
theorem ty147 : TdOk Tryz.prog 147 ⟨.ptr 149, 1, 8, .pointer none⟩ := ⟨by kernel_rfl, by kernel_rfl⟩
theorem ty148 : TdOk Tryz.prog 148 ⟨.struct [(0, 147), (1, 23)], 2, 32, .agg #[.pointer none, .slice none 0 0]⟩ := ⟨by kernel_rfl, by kernel_rfl⟩
theorem ty149 : TdOk Tryz.prog 149 ⟨.struct [(0, 147), (1, 23)], 2, 32, .agg #[.pointer none, .slice none 0 0]⟩ := ⟨by kernel_rfl, by kernel_rfl⟩
theorem ty150 : TdOk Tryz.prog 150 ⟨.iface, 1, 16, .nilIface⟩ := ⟨by kernel_rfl, by kernel_rfl⟩
theorem ty151 : TdOk Tryz.prog 151 ⟨.iface, 1, 16, .nilIface⟩ := ⟨by kernel_rfl, by kernel_rfl⟩
theorem ty153 : TdOk Tryz.prog 153 ⟨.func, 1, 8, .nilFunc⟩ := ⟨by kernel_rfl, by kernel_rfl⟩
theorem ty154 : TdOk Tryz.prog 154 ⟨.func, 1, 8, .nilFunc⟩ := ⟨by kernel_rfl, by kernel_rfl⟩
theorem ty156 : TdOk Tryz.prog 156 ⟨.func, 1, 8, .nilFunc⟩ := ⟨by kernel_rfl, by kernel_rfl⟩
theorem ty158 : TdOk Tryz.prog 158 ⟨.func, 1, 8, .nilFunc⟩ := ⟨by kernel_rfl, by kernel_rfl⟩
theorem ty159 : TdOk Tryz.prog 159 ⟨.func, 1, 8, .nilFunc⟩ := ⟨by kernel_rfl, by kernel_rfl⟩
theorem ty160 : TdOk Tryz.prog 160 ⟨.func, 1, 8, .nilFunc⟩ := ⟨by kernel_rfl, by kernel_rfl⟩
theorem ty161 : TdOk Tryz.prog 161 ⟨.func, 1, 8, .nilFunc⟩ := ⟨by kernel_rfl, by kernel_rfl⟩
theorem ty162 : TdOk Tryz.prog 162 ⟨.func, 1, 8, .nilFunc⟩ := ⟨by kernel_rfl, by kernel_rfl⟩
theorem ty164 : TdOk Tryz.prog 164 ⟨.func, 1, 8, .nilFunc⟩ := ⟨by kernel_rfl, by kernel_rfl⟩
theorem ty165 : TdOk Tryz.prog 165 ⟨.func, 1, 8, .nilFunc⟩ := ⟨by kernel_rfl, by kernel_rfl⟩
theorem ty166 : TdOk Tryz.prog 166 ⟨.func, 1, 8, .nilFunc⟩ := ⟨by kernel_rfl, by kernel_rfl⟩
theorem ty168 : TdOk Tryz.prog 168 ⟨.func, 1, 8, .nilFunc⟩ := ⟨by kernel_rfl, by kernel_rfl⟩
theorem ty170 : TdOk Tryz.prog 170 ⟨.func, 1, 8, .nilFunc⟩ := ⟨by kernel_rfl, by kernel_rfl⟩
theorem ty171 : TdOk Tryz.prog 171 ⟨.ptr 5, 1, 8, .pointer none⟩ := ⟨by kernel_rfl, by kernel_rfl⟩
theorem ty172 : TdOk Tryz.prog 172 ⟨.func, 1, 8, .nilFunc⟩ := ⟨by kernel_rfl, by kernel_rfl⟩
theorem ty175 : TdOk Tryz.prog 175 ⟨.func, 1, 8, .nilFunc⟩ := ⟨by kernel_rfl, by kernel_rfl⟩
theorem ty176 : TdOk Tryz.prog 176 ⟨.func, 1, 8, .nilFunc⟩ := ⟨by kernel_rfl, by kernel_rfl⟩
theorem ty177 : TdOk Tryz.prog 177 ⟨.func, 1, 8, .nilFunc⟩ := ⟨by kernel_rfl, by kernel_rfl⟩
theorem ty178 : TdOk Tryz.prog 178 ⟨.func, 1, 8, .nilFunc⟩ := ⟨by kernel_rfl, by kernel_rfl⟩
theorem ty179 : TdOk Tryz.prog 179 ⟨.func, 1, 8, .nilFunc⟩ := ⟨by kernel_rfl, by kernel_rfl⟩
theorem ty180 : TdOk Tryz.prog 180 ⟨.func, 1, 8, .nilFunc⟩ := ⟨by kernel_rfl, by kernel_rfl⟩
theorem ty181 : TdOk Tryz.prog 181 ⟨.array 24 5, 24, 24, .agg #[.int .u8 0, .int .u8 0, .int .u8 0, .int .u8 0, .int .u8 0, .int .u8 0, .int .u8 0, .int .u8 0, .int .u8 0, .int .u8 0, .int .u8 0, .int .u8 0, .int .u8 0, .int .u8 0, .int .u8 0, .int .u8 0, .int .u8 0, .int .u8 0, .int .u8 0, .int .u8 0, .int .u8 0, .int .u8 0, .int .u8 0, .int .u8 0]⟩ := ⟨by kernel_rfl, by kernel_rfl⟩
theorem ty182 : TdOk Tryz.prog 182 ⟨.func, 1, 8, .nilFunc⟩ := ⟨by kernel_rfl, by kernel_rfl⟩
theorem ty184 : TdOk Tryz.prog 184 ⟨.func, 1, 8, .nilFunc⟩ := ⟨by kernel_rfl, by kernel_rfl⟩
theorem ty186 : TdOk Tryz.prog 186 ⟨.func, 1, 8, .nilFunc⟩ := ⟨by kernel_rfl, by kernel_rfl⟩
theorem ty187 : TdOk Tryz.prog 187 ⟨.func, 1, 8, .nilFunc⟩ := ⟨by kernel_rfl, by kernel_rfl⟩
theorem ty189 : TdOk Tryz.prog 189 ⟨.func, 1, 8, .nilFunc⟩ := ⟨by kernel_rfl, by kernel_rfl⟩
theorem ty190 : TdOk Tryz.prog 190 ⟨.func, 1, 8, .nilFunc⟩ := ⟨by kernel_rfl, by kernel_rfl⟩
theorem ty191 : TdOk Tryz.prog 191 ⟨.func, 1, 8, .nilFunc⟩ := ⟨by kernel_rfl, by kernel_rfl⟩
theorem ty192 : TdOk Tryz.prog 192 ⟨.ptr 3, 1, 8, .pointer none⟩ := ⟨by kernel_rfl, by kernel_rfl⟩
theorem ty193 : TdOk Tryz.prog 193 ⟨.func, 1, 8, .nilFunc⟩ := ⟨by kernel_rfl, by kernel_rfl⟩
theorem ty194 : TdOk Tryz.prog 194 ⟨.func, 1, 8, .nilFunc⟩ := ⟨by kernel_rfl, by kernel_rfl⟩
theorem ty195 : TdOk Tryz.prog 195 ⟨.array 20 74, 20, 160, .agg #[.int .u64 0, .int .u64 0, .int .u64 0, .int .u64 0, .int .u64 0, .int .u64 0, .int .u64 0, .int .u64 0, .int .u64 0, .int .u64 0, .int .u64 0, .int .u64 0, .int .u64 0, .int .u64 0, .int .u64 0, .int .u64 0, .int .u64 0, .int .u64 0, .int .u64 0, .int .u64 0]⟩ := ⟨by kernel_rfl, by kernel_rfl⟩
theorem ty196 : TdOk Tryz.prog 196 ⟨.array 65 5, 65, 65, .agg #[.int .u8 0, .int .u8 0, .int .u8 0, .int .u8 0, .int .u8 0, .int .u8 0, .int .u8 0, .int .u8 0, .int .u8 0, .int .u8 0, .int .u8 0, .int .u8 0, .int .u8 0, .int .u8 0, .int .u8 0, .int .u8 0, .int .u8 0, .int .u8 0, .int .u8 0, .int .u8 0, .int .u8 0, .int .u8 0, .int .u8 0, .int .u8 0, .int .u8 0, .int .u8 0, .int .u8 0, .int .u8 0, .int .u8 0, .int .u8 0, .int .u8 0, .int .u8 0, .int .u8 0, .int .u8 0, .int .u8 0, .int .u8 0, .int .u8 0, .int .u8 0, .int .u8 0, .int .u8 0, .int .u8 0, .int .u8 0, .int .u8 0, .int .u8 0, .int .u8 0, .int .u8 0, .int .u8 0, .int .u8 0, .int .u8 0, .int .u8 0, .int .u8 0, .int .u8 0, .int .u8 0, .int .u8 0, .int .u8 0, .int .u8 0, .int .u8 0, .int .u8 0, .int .u8 0, .int .u8 0, .int .u8 0, .int .u8 0, .int .u8 0, .int .u8 0, .int .u8 0]⟩ := ⟨by kernel_rfl, by kernel_rfl⟩
theorem ty197 : TdOk Tryz.prog 197 ⟨.ptr 188, 1, 8, .pointer none⟩ := ⟨by kernel_rfl, by kernel_rfl⟩
theorem ty198 : TdOk Tryz.prog 198 ⟨.func, 1, 8, .nilFunc⟩ := ⟨by kernel_rfl, by kernel_rfl⟩
theorem ty199 : TdOk Tryz.prog 199 ⟨.array 32 5, 32, 32, .agg #[.int .u8 0, .int .u8 0, .int .u8 0, .int .u8 0, .int .u8 0, .int .u8 0, .int .u8 0, .int .u8 0, .int .u8 0, .int .u8 0, .int .u8 0, .int .u8 0, .int .u8 0, .int .u8 0, .int .u8 0, .int .u8 0, .int .u8 0, .int .u8 0, .int .u8 0, .int .u8 0, .int .u8 0, .int .u8 0, .int .u8 0, .int .u8 0, .int .u8 0, .int .u8 0, .int .u8 0, .int .u8 0, .int .u8 0, .int .u8 0, .int .u8 0, .int .u8 0]⟩ := ⟨by kernel_rfl, by kernel_rfl⟩
theorem ty200 : TdOk Tryz.prog 200 ⟨.array 64 5, 64, 64, .agg #[.int .u8 0, .int .u8 0, .int .u8 0, .int .u8 0, .int .u8 0, .int .u8 0, .int .u8 0, .int .u8 0, .int .u8 0, .int .u8 0, .int .u8 0, .int .u8 0, .int .u8 0, .int .u8 0, .int .u8 0, .int .u8 0, .int .u8 0, .int .u8 0, .int .u8 0, .int .u8 0, .int .u8 0, .int .u8 0, .int .u8 0, .int .u8 0, .int .u8 0, .int .u8 0, .int .u8 0, .int .u8 0, .int .u8 0, .int .u8 0, .int .u8 0, .int .u8 0, .int .u8 0, .int .u8 0, .int .u8 0, .int .u8 0, .int .u8 0, .int .u8 0, .int .u8 0, .int .u8 0, .int .u8 0, .int .u8 0, .int .u8 0, .int .u8 0, .int .u8 0, .int .u8 0, .int .u8 0, .int .u8 0, .int .u8 0, .int .u8 0, .int .u8 0, .int .u8 0, .int .u8 0, .int .u8 0, .int .u8 0, .int .u8 0, .int .u8 0, .int .u8 0, .int .u8 0, .int .u8 0, .int .u8 0, .int .u8 0, .int .u8 0, .int .u8 0]⟩ := ⟨by kernel_rfl, by kernel_rfl⟩
theorem ty201 : TdOk Tryz.prog 201 ⟨.struct [(0, 17), (1, 17), (2, 17), (3, 9)], 4, 40, .agg #[.pointer none, .pointer none, .pointer none, .string ByteArray.empty]⟩ := ⟨by kernel_rfl, by kernel_rfl⟩
theorem ty202 : TdOk Tryz.prog 202 ⟨.struct [(0, 17), (1, 17), (2, 17), (3, 9)], 4, 40, .agg #[.pointer none, .pointer none, .pointer none, .string ByteArray.empty]⟩ := ⟨by kernel_rfl, by kernel_rfl⟩
theorem ty203 : TdOk Tryz.prog 203 ⟨.array 0 16, 0, 0, .agg #[]⟩ := ⟨by kernel_rfl, by kernel_rfl⟩
theorem ty204 : TdOk Tryz.prog 204 ⟨.struct [(0, 203)], 0, 0, .agg #[]⟩ := ⟨by kernel_rfl, by kernel_rfl⟩
theorem ty205 : TdOk Tryz.prog 205 ⟨.struct [(0, 203)], 0, 0, .agg #[]⟩ := ⟨by kernel_rfl, by kernel_rfl⟩
theorem ty208 : TdOk Tryz.prog 208 ⟨.func, 1, 8, .nilFunc⟩ := ⟨by kernel_rfl, by kernel_rfl⟩
theorem ty211 : TdOk Tryz.prog 211 ⟨.struct [(0, 12), (1, 12), (2, 119), (3, 206), (4, 5), (5, 5), (6, 207), (7, 208), (8, 171), (9, 209), (10, 210)], 11, 48, .agg #[.int .u64 0, .int .u64 0, .int .u32 0, .int .u8 0, .int .u8 0, .int .u8 0, .int .u8 0, .nilFunc, .pointer none, .int .i32 0, .int .i32 0]⟩ := ⟨by kernel_rfl, by kernel_rfl⟩
theorem ty212 : TdOk Tryz.prog 212 ⟨.struct [(0, 12), (1, 12), (2, 119), (3, 206), (4, 5), (5, 5), (6, 207), (7, 208), (8, 171), (9, 209), (10, 210)], 11, 48, .agg #[.int .u64 0, .int .u64 0, .int .u32 0, .int .u8 0, .int .u8 0, .int .u8 0, .int .u8 0, .nilFunc, .pointer none, .int .i32 0, .int .i32 0]⟩ := ⟨by kernel_rfl, by kernel_rfl⟩
def TT : Tab := [(2, ⟨.int .i64, 1, 8, .int .i64 0⟩),
  (3, ⟨.int .i64, 1, 8, .int .i64 0⟩),
  (4, ⟨.bool, 1, 1, .bool false⟩),
  (5, ⟨.int .u8, 1, 1, .int .u8 0⟩),
  (6, ⟨.int .u8, 1, 1, .int .u8 0⟩),
  (12, ⟨.int .u64, 1, 8, .int .u64 0⟩),
  (21, ⟨.int .i32, 1, 4, .int .i32 0⟩),
  (22, ⟨.slice 23, 1, 24, .slice none 0 0⟩),
  (23, ⟨.slice 5, 1, 24, .slice none 0 0⟩),
  (25, ⟨.int .i64, 1, 8, .int .i64 0⟩),
  (45, ⟨.slice 58, 1, 24, .slice none 0 0⟩),
  (63, ⟨.slice 75, 1, 24, .slice none 0 0⟩),
  (66, ⟨.slice 9, 1, 24, .slice none 0 0⟩),
  (74, ⟨.int .u64, 1, 8, .int .u64 0⟩),
  (78, ⟨.slice 3, 1, 24, .slice none 0 0⟩),
  (88, ⟨.slice 95, 1, 24, .slice none 0 0⟩),
  (119, ⟨.int .u32, 1, 4, .int .u32 0⟩),
  (121, ⟨.int .u64, 1, 8, .int .u64 0⟩),
  (126, ⟨.slice 133, 1, 24, .slice none 0 0⟩),
  (173, ⟨.int .i64, 1, 8, .int .i64 0⟩),
  (188, ⟨.int .u64, 1, 8, .int .u64 0⟩),
  (206, ⟨.int .u8, 1, 1, .int .u8 0⟩),
  (207, ⟨.int .u8, 1, 1, .int .u8 0⟩),
  (209, ⟨.int .i32, 1, 4, .int .i32 0⟩),
  (210, ⟨.int .i32, 1, 4, .int .i32 0⟩),
  (1, ⟨.func, 1, 8, .nilFunc⟩),
  (7, ⟨.struct [(0, 2), (1, 3), (2, 4), (3, 6)], 4, 24, .agg #[.int .i64 0, .int .i64 0, .bool false, .int .u8 0]⟩),
  (8, ⟨.struct [(0, 2), (1, 3), (2, 4), (3, 6)], 4, 24, .agg #[.int .i64 0, .int .i64 0, .bool false, .int .u8 0]⟩),
  (9, ⟨.str, 1, 16, .string ByteArray.empty⟩),
  (10, ⟨.str, 1, 16, .string ByteArray.empty⟩),
  (11, ⟨.str, 1, 16, .string ByteArray.empty⟩),
  (13, ⟨.struct [(0, 9), (1, 12)], 2, 24, .agg #[.string ByteArray.empty, .int .u64 0]⟩),
  (14, ⟨.struct [(0, 9), (1, 12)], 2, 24, .agg #[.string ByteArray.empty, .int .u64 0]⟩),
  (15, ⟨.ptr 202, 1, 8, .pointer none⟩),
  (16, ⟨.ptr 205, 1, 8, .pointer none⟩),
  (17, ⟨.ptr 212, 1, 8, .pointer none⟩),
  (18, ⟨.struct [(0, 17)], 1, 8, .agg #[.pointer none]⟩),
  (19, ⟨.struct [(0, 17)], 1, 8, .agg #[.pointer none]⟩),
  (20, ⟨.iface, 1, 16, .nilIface⟩),
  (24, ⟨.ptr 62, 1, 8, .pointer none⟩),
  (27, ⟨.func, 1, 8, .nilFunc⟩),
  (28, ⟨.ptr 65, 1, 8, .pointer none⟩),
  (30, ⟨.func, 1, 8, .nilFunc⟩),
  (32, ⟨.func, 1, 8, .nilFunc⟩),
  (33, ⟨.func, 1, 8, .nilFunc⟩),
  (34, ⟨.func, 1, 8, .nilFunc⟩),
  (36, ⟨.func, 1, 8, .nilFunc⟩),
  (38, ⟨.func, 1, 8, .nilFunc⟩),
  (39, ⟨.func, 1, 8, .nilFunc⟩),
  (40, ⟨.func, 1, 8, .nilFunc⟩),
  (41, ⟨.func, 1, 8, .nilFunc⟩),
  (42, ⟨.func, 1, 8, .nilFunc⟩),
  (43, ⟨.func, 1, 8, .nilFunc⟩),
  (44, ⟨.func, 1, 8, .nilFunc⟩),
  (46, ⟨.func, 1, 8, .nilFunc⟩),
  (47, ⟨.ptr 90, 1, 8, .pointer none⟩),
  (49, ⟨.func, 1, 8, .nilFunc⟩),
  (50, ⟨.func, 1, 8, .nilFunc⟩),
  (51, ⟨.func, 1, 8, .nilFunc⟩),
  (52, ⟨.ptr 55, 1, 8, .pointer none⟩),
  (53, ⟨.ptr 128, 1, 8, .pointer none⟩),
  (54, ⟨.struct [(0, 24), (1, 47), (2, 28), (3, 53)], 4, 32, .agg #[.pointer none, .pointer none, .pointer none, .pointer none]⟩),
  (55, ⟨.struct [(0, 24), (1, 47), (2, 28), (3, 53)], 4, 32, .agg #[.pointer none, .pointer none, .pointer none, .pointer none]⟩),
  (56, ⟨.func, 1, 8, .nilFunc⟩),
  (57, ⟨.struct [(0, 3), (1, 3), (2, 3), (3, 23), (4, 5)], 5, 56, .agg #[.int .i64 0, .int .i64 0, .int .i64 0, .slice none 0 0, .int .u8 0]⟩),
  (58, ⟨.struct [(0, 3), (1, 3), (2, 3), (3, 23), (4, 5)], 5, 56, .agg #[.int .i64 0, .int .i64 0, .int .i64 0, .slice none 0 0, .int .u8 0]⟩),
  (59, ⟨.func, 1, 8, .nilFunc⟩),
  (60, ⟨.map 9 86, 1, 8, .map none⟩),
  (61, ⟨.struct [(0, 3), (1, 3), (2, 60)], 3, 24, .agg #[.int .i64 0, .int .i64 0, .map none]⟩),
  (62, ⟨.struct [(0, 3), (1, 3), (2, 60)], 3, 24, .agg #[.int .i64 0, .int .i64 0, .map none]⟩),
  (64, ⟨.struct [(0, 24), (1, 9), (2, 63), (3, 3)], 4, 56, .agg #[.pointer none, .string ByteArray.empty, .slice none 0 0, .int .i64 0]⟩),
  (65, ⟨.struct [(0, 24), (1, 9), (2, 63), (3, 3)], 4, 56, .agg #[.pointer none, .string ByteArray.empty, .slice none 0 0, .int .i64 0]⟩),
  (67, ⟨.func, 1, 8, .nilFunc⟩),
  (69, ⟨.func, 1, 8, .nilFunc⟩),
  (70, ⟨.func, 1, 8, .nilFunc⟩),
  (71, ⟨.func, 1, 8, .nilFunc⟩),
  (72, ⟨.func, 1, 8, .nilFunc⟩),
  (73, ⟨.func, 1, 8, .nilFunc⟩),
  (75, ⟨.ptr 80, 1, 8, .pointer none⟩),
  (76, ⟨.func, 1, 8, .nilFunc⟩),
  (77, ⟨.func, 1, 8, .nilFunc⟩),
  (79, ⟨.struct [(0, 3), (1, 22), (2, 78), (3, 4)], 4, 64, .agg #[.int .i64 0, .slice none 0 0, .slice none 0 0, .bool false]⟩),
  (80, ⟨.struct [(0, 3), (1, 22), (2, 78), (3, 4)], 4, 64, .agg #[.int .i64 0, .slice none 0 0, .slice none 0 0, .bool false]⟩),
  (81, ⟨.func, 1, 8, .nilFunc⟩),
  (82, ⟨.func, 1, 8, .nilFunc⟩),
  (83, ⟨.func, 1, 8, .nilFunc⟩),
  (84, ⟨.func, 1, 8, .nilFunc⟩),
  (85, ⟨.struct [(0, 23), (1, 3)], 2, 32, .agg #[.slice none 0 0, .int .i64 0]⟩),
  (86, ⟨.struct [(0, 23), (1, 3)], 2, 32, .agg #[.slice none 0 0, .int .i64 0]⟩),
  (87, ⟨.func, 1, 8, .nilFunc⟩),
  (89, ⟨.struct [(0, 3), (1, 88)], 2, 32, .agg #[.int .i64 0, .slice none 0 0]⟩),
  (90, ⟨.struct [(0, 3), (1, 88)], 2, 32, .agg #[.int .i64 0, .slice none 0 0]⟩),
  (91, ⟨.func, 1, 8, .nilFunc⟩),
  (93, ⟨.func, 1, 8, .nilFunc⟩),
  (94, ⟨.struct [(0, 9), (1, 23), (2, 3)], 3, 48, .agg #[.string ByteArray.empty, .slice none 0 0, .int .i64 0]⟩),
  (95, ⟨.struct [(0, 9), (1, 23), (2, 3)], 3, 48, .agg #[.string ByteArray.empty, .slice none 0 0, .int .i64 0]⟩),
  (97, ⟨.func, 1, 8, .nilFunc⟩),
  (98, ⟨.func, 1, 8, .nilFunc⟩),
  (99, ⟨.func, 1, 8, .nilFunc⟩),
  (101, ⟨.func, 1, 8, .nilFunc⟩),
  (102, ⟨.func, 1, 8, .nilFunc⟩),
  (103, ⟨.func, 1, 8, .nilFunc⟩),
  (104, ⟨.func, 1, 8, .nilFunc⟩),
  (105, ⟨.func, 1, 8, .nilFunc⟩),
  (106, ⟨.func, 1, 8, .nilFunc⟩),
  (107, ⟨.func, 1, 8, .nilFunc⟩),
  (108, ⟨.func, 1, 8, .nilFunc⟩),
  (109, ⟨.func, 1, 8, .nilFunc⟩),
  (110, ⟨.func, 1, 8, .nilFunc⟩),
  (112, ⟨.func, 1, 8, .nilFunc⟩),
  (113, ⟨.func, 1, 8, .nilFunc⟩),
  (115, ⟨.func, 1, 8, .nilFunc⟩),
  (117, ⟨.func, 1, 8, .nilFunc⟩),
  (118, ⟨.func, 1, 8, .nilFunc⟩),
  (120, ⟨.func, 1, 8, .nilFunc⟩),
  (122, ⟨.func, 1, 8, .nilFunc⟩),
  (123, ⟨.func, 1, 8, .nilFunc⟩),
  (124, ⟨.func, 1, 8, .nilFunc⟩),
  (125, ⟨.func, 1, 8, .nilFunc⟩),
  (127, ⟨.struct [(0, 47), (1, 9), (2, 126), (3, 3), (4, 78)], 5, 80, .agg #[.pointer none, .string ByteArray.empty, .slice none 0 0, .int .i64 0, .slice none 0 0]⟩),
  (128, ⟨.struct [(0, 47), (1, 9), (2, 126), (3, 3), (4, 78)], 5, 80, .agg #[.pointer none, .string ByteArray.empty, .slice none 0 0, .int .i64 0, .slice none 0 0]⟩),
  (129, ⟨.func, 1, 8, .nilFunc⟩),
  (130, ⟨.func, 1, 8, .nilFunc⟩),
  (131, ⟨.func, 1, 8, .nilFunc⟩),
  (132, ⟨.struct [(0, 3), (1, 22)], 2, 32, .agg #[.int .i64 0, .slice none 0 0]⟩),
  (133, ⟨.struct [(0, 3), (1, 22)], 2, 32, .agg #[.int .i64 0, .slice none 0 0]⟩),
  (135, ⟨.func, 1, 8, .nilFunc⟩),
  (136, ⟨.func, 1, 8, .nilFunc⟩),
  (137, ⟨.func, 1, 8, .nilFunc⟩),
  (138, ⟨.func, 1, 8, .nilFunc⟩),
  (140, ⟨.func, 1, 8, .nilFunc⟩),
  (141, ⟨.func, 1, 8, .nilFunc⟩),
  (142, ⟨.array 16 119, 16, 64, .agg #[.int .u32 0, .int .u32 0, .int .u32 0, .int .u32 0, .int .u32 0, .int .u32 0, .int .u32 0, .int .u32 0, .int .u32 0, .int .u32 0, .int .u32 0, .int .u32 0, .int .u32 0, .int .u32 0, .int .u32 0, .int .u32 0]⟩),
  (143, ⟨.func, 1, 8, .nilFunc⟩),
  (145, ⟨.func, 1, 8, .nilFunc⟩),
  (146, ⟨.func, 1, 8, .nilFunc⟩),
  (147, ⟨.ptr 149, 1, 8, .pointer none⟩),
  (148, ⟨.struct [(0, 147), (1, 23)], 2, 32, .agg #[.pointer none, .slice none 0 0]⟩),
  (149, ⟨.struct [(0, 147), (1, 23)], 2, 32, .agg #[.pointer none, .slice none 0 0]⟩),
  (150, ⟨.iface, 1, 16, .nilIface⟩),
  (151, ⟨.iface, 1, 16, .nilIface⟩),
  (153, ⟨.func, 1, 8, .nilFunc⟩),
  (154, ⟨.func, 1, 8, .nilFunc⟩),
  (156, ⟨.func, 1, 8, .nilFunc⟩),
  (158, ⟨.func, 1, 8, .nilFunc⟩),
  (159, ⟨.func, 1, 8, .nilFunc⟩),
  (160, ⟨.func, 1, 8, .nilFunc⟩),
  (161, ⟨.func, 1, 8, .nilFunc⟩),
  (162, ⟨.func, 1, 8, .nilFunc⟩),
  (164, ⟨.func, 1, 8, .nilFunc⟩),
  (165, ⟨.func, 1, 8, .nilFunc⟩),
  (166, ⟨.func, 1, 8, .nilFunc⟩),
  (168, ⟨.func, 1, 8, .nilFunc⟩),
  (170, ⟨.func, 1, 8, .nilFunc⟩),
  (171, ⟨.ptr 5, 1, 8, .pointer none⟩),
  (172, ⟨.func, 1, 8, .nilFunc⟩),
  (175, ⟨.func, 1, 8, .nilFunc⟩),
  (176, ⟨.func, 1, 8, .nilFunc⟩),
  (177, ⟨.func, 1, 8, .nilFunc⟩),
  (178, ⟨.func, 1, 8, .nilFunc⟩),
  (179, ⟨.func, 1, 8, .nilFunc⟩),
  (180, ⟨.func, 1, 8, .nilFunc⟩),
  (181, ⟨.array 24 5, 24, 24, .agg #[.int .u8 0, .int .u8 0, .int .u8 0, .int .u8 0, .int .u8 0, .int .u8 0, .int .u8 0, .int .u8 0, .int .u8 0, .int .u8 0, .int .u8 0, .int .u8 0, .int .u8 0, .int .u8 0, .int .u8 0, .int .u8 0, .int .u8 0, .int .u8 0, .int .u8 0, .int .u8 0, .int .u8 0, .int .u8 0, .int .u8 0, .int .u8 0]⟩),
  (182, ⟨.func, 1, 8, .nilFunc⟩),
  (184, ⟨.func, 1, 8, .nilFunc⟩),
  (186, ⟨.func, 1, 8, .nilFunc⟩),
  (187, ⟨.func, 1, 8, .nilFunc⟩),
  (189, ⟨.func, 1, 8, .nilFunc⟩),
  (190, ⟨.func, 1, 8, .nilFunc⟩),
  (191, ⟨.func, 1, 8, .nilFunc⟩),
  (192, ⟨.ptr 3, 1, 8, .pointer none⟩),
  (193, ⟨.func, 1, 8, .nilFunc⟩),
  (194, ⟨.func, 1, 8, .nilFunc⟩),
  (195, ⟨.array 20 74, 20, 160, .agg #[.int .u64 0, .int .u64 0, .int .u64 0, .int .u64 0, .int .u64 0, .int .u64 0, .int .u64 0, .int .u64 0, .int .u64 0, .int .u64 0, .int .u64 0, .int .u64 0, .int .u64 0, .int .u64 0, .int .u64 0, .int .u64 0, .int .u64 0, .int .u64 0, .int .u64 0, .int .u64 0]⟩),
  (196, ⟨.array 65 5, 65, 65, .agg #[.int .u8 0, .int .u8 0, .int .u8 0, .int .u8 0, .int .u8 0, .int .u8 0, .int .u8 0, .int .u8 0, .int .u8 0, .int .u8 0, .int .u8 0, .int .u8 0, .int .u8 0, .int .u8 0, .int .u8 0, .int .u8 0, .int .u8 0, .int .u8 0, .int .u8 0, .int .u8 0, .int .u8 0, .int .u8 0, .int .u8 0, .int .u8 0, .int .u8 0, .int .u8 0, .int .u8 0, .int .u8 0, .int .u8 0, .int .u8 0, .int .u8 0, .int .u8 0, .int .u8 0, .int .u8 0, .int .u8 0, .int .u8 0, .int .u8 0, .int .u8 0, .int .u8 0, .int .u8 0, .int .u8 0, .int .u8 0, .int .u8 0, .int .u8 0, .int .u8 0, .int .u8 0, .int .u8 0, .int .u8 0, .int .u8 0, .int .u8 0, .int .u8 0, .int .u8 0, .int .u8 0, .int .u8 0, .int .u8 0, .int .u8 0, .int .u8 0, .int .u8 0, .int .u8 0, .int .u8 0, .int .u8 0, .int .u8 0, .int .u8 0, .int .u8 0, .int .u8 0]⟩),
  (197, ⟨.ptr 188, 1, 8, .pointer none⟩),
  (198, ⟨.func, 1, 8, .nilFunc⟩),
  (199, ⟨.array 32 5, 32, 32, .agg #[.int .u8 0, .int .u8 0, .int .u8 0, .int .u8 0, .int .u8 0, .int .u8 0, .int .u8 0, .int .u8 0, .int .u8 0, .int .u8 0, .int .u8 0, .int .u8 0, .int .u8 0, .int .u8 0, .int .u8 0, .int .u8 0, .int .u8 0, .int .u8 0, .int .u8 0, .int .u8 0, .int .u8 0, .int .u8 0, .int .u8 0, .int .u8 0, .int .u8 0, .int .u8 0, .int .u8 0, .int .u8 0, .int .u8 0, .int .u8 0, .int .u8 0, .int .u8 0]⟩),
  (200, ⟨.array 64 5, 64, 64, .agg #[.int .u8 0, .int .u8 0, .int .u8 0, .int .u8 0, .int .u8 0, .int .u8 0, .int .u8 0, .int .u8 0, .int .u8 0, .int .u8 0, .int .u8 0, .int .u8 0, .int .u8 0, .int .u8 0, .int .u8 0, .int .u8 0, .int .u8 0, .int .u8 0, .int .u8 0, .int .u8 0, .int .u8 0, .int .u8 0, .int .u8 0, .int .u8 0, .int .u8 0, .int .u8 0, .int .u8 0, .int .u8 0, .int .u8 0, .int .u8 0, .int .u8 0, .int .u8 0, .int .u8 0, .int .u8 0, .int .u8 0, .int .u8 0, .int .u8 0, .int .u8 0, .int .u8 0, .int .u8 0, .int .u8 0, .int .u8 0, .int .u8 0, .int .u8 0, .int .u8 0, .int .u8 0, .int .u8 0, .int .u8 0, .int .u8 0, .int .u8 0, .int .u8 0, .int .u8 0, .int .u8 0, .int .u8 0, .int .u8 0, .int .u8 0, .int .u8 0, .int .u8 0, .int .u8 0, .int .u8 0, .int .u8 0, .int .u8 0, .int .u8 0, .int .u8 0]⟩),
  (201, ⟨.struct [(0, 17), (1, 17), (2, 17), (3, 9)], 4, 40, .agg #[.pointer none, .pointer none, .pointer none, .string ByteArray.empty]⟩),
  (202, ⟨.struct [(0, 17), (1, 17), (2, 17), (3, 9)], 4, 40, .agg #[.pointer none, .pointer none, .pointer none, .string ByteArray.empty]⟩),
  (203, ⟨.array 0 16, 0, 0, .agg #[]⟩),
  (204, ⟨.struct [(0, 203)], 0, 0, .agg #[]⟩),
  (205, ⟨.struct [(0, 203)], 0, 0, .agg #[]⟩),
  (208, ⟨.func, 1, 8, .nilFunc⟩),
  (211, ⟨.struct [(0, 12), (1, 12), (2, 119), (3, 206), (4, 5), (5, 5), (6, 207), (7, 208), (8, 171), (9, 209), (10, 210)], 11, 48, .agg #[.int .u64 0, .int .u64 0, .int .u32 0, .int .u8 0, .int .u8 0, .int .u8 0, .int .u8 0, .nilFunc, .pointer none, .int .i32 0, .int .i32 0]⟩),
  (212, ⟨.struct [(0, 12), (1, 12), (2, 119), (3, 206), (4, 5), (5, 5), (6, 207), (7, 208), (8, 171), (9, 209), (10, 210)], 11, 48, .agg #[.int .u64 0, .int .u64 0, .int .u32 0, .int .u8 0, .int .u8 0, .int .u8 0, .int .u8 0, .nilFunc, .pointer none, .int .i32 0, .int .i32 0]⟩)]
theorem ttOk : TabOk Tryz.prog TT := tabOk_cons ty2 <| tabOk_cons ty3 <| tabOk_cons ty4 <| tabOk_cons ty5 <| tabOk_cons ty6 <| tabOk_cons ty12 <| tabOk_cons ty21 <| tabOk_cons ty22 <| tabOk_cons ty23 <| tabOk_cons ty25 <| tabOk_cons ty45 <| tabOk_cons ty63 <| tabOk_cons ty66 <| tabOk_cons ty74 <| tabOk_cons ty78 <| tabOk_cons ty88 <| tabOk_cons ty119 <| tabOk_cons ty121 <| tabOk_cons ty126 <| tabOk_cons ty173 <| tabOk_cons ty188 <| tabOk_cons ty206 <| tabOk_cons ty207 <| tabOk_cons ty209 <| tabOk_cons ty210 <| tabOk_cons ty1 <| tabOk_cons ty7 <| tabOk_cons ty8 <| tabOk_cons ty9 <| tabOk_cons ty10 <| tabOk_cons ty11 <| tabOk_cons ty13 <| tabOk_cons ty14 <| tabOk_cons ty15 <| tabOk_cons ty16 <| tabOk_cons ty17 <| tabOk_cons ty18 <| tabOk_cons ty19 <| tabOk_cons ty20 <| tabOk_cons ty24 <| tabOk_cons ty27 <| tabOk_cons ty28 <| tabOk_cons ty30 <| tabOk_cons ty32 <| tabOk_cons ty33 <| tabOk_cons ty34 <| tabOk_cons ty36 <| tabOk_cons ty38 <| tabOk_cons ty39 <| tabOk_cons ty40 <| tabOk_cons ty41 <| tabOk_cons ty42 <| tabOk_cons ty43 <| tabOk_cons ty44 <| tabOk_cons ty46 <| tabOk_cons ty47 <| tabOk_cons ty49 <| tabOk_cons ty50 <| tabOk_cons ty51 <| tabOk_cons ty52 <| tabOk_cons ty53 <| tabOk_cons ty54 <| tabOk_cons ty55 <| tabOk_cons ty56 <| tabOk_cons ty57 <| tabOk_cons ty58 <| tabOk_cons ty59 <| tabOk_cons ty60 <| tabOk_cons ty61 <| tabOk_cons ty62 <| tabOk_cons ty64 <| tabOk_cons ty65 <| tabOk_cons ty67 <| tabOk_cons ty69 <| tabOk_cons ty70 <| tabOk_cons ty71 <| tabOk_cons ty72 <| tabOk_cons ty73 <| tabOk_cons ty75 <| tabOk_cons ty76 <| tabOk_cons ty77 <| tabOk_cons ty79 <| tabOk_cons ty80 <| tabOk_cons ty81 <| tabOk_cons ty82 <| tabOk_cons ty83 <| tabOk_cons ty84 <| tabOk_cons ty85 <| tabOk_cons ty86 <| tabOk_cons ty87 <| tabOk_cons ty89 <| tabOk_cons ty90 <| tabOk_cons ty91 <| tabOk_cons ty93 <| tabOk_cons ty94 <| tabOk_cons ty95 <| tabOk_cons ty97 <| tabOk_cons ty98 <| tabOk_cons ty99 <| tabOk_cons ty101 <| tabOk_cons ty102 <| tabOk_cons ty103 <| tabOk_cons ty104 <| tabOk_cons ty105 <| tabOk_cons ty106 <| tabOk_cons ty107 <| tabOk_cons ty108 <| tabOk_cons ty109 <| tabOk_cons ty110 <| tabOk_cons ty112 <| tabOk_cons ty113 <| tabOk_cons ty115 <| tabOk_cons ty117 <| tabOk_cons ty118 <| tabOk_cons ty120 <| tabOk_cons ty122 <| tabOk_cons ty123 <| tabOk_cons ty124 <| tabOk_cons ty125 <| tabOk_cons ty127 <| tabOk_cons ty128 <| tabOk_cons ty129 <| tabOk_cons ty130 <| tabOk_cons ty131 <| tabOk_cons ty132 <| tabOk_cons ty133 <| tabOk_cons ty135 <| tabOk_cons ty136 <| tabOk_cons ty137 <| tabOk_cons ty138 <| tabOk_cons ty140 <| tabOk_cons ty141 <| tabOk_cons ty142 <| tabOk_cons ty143 <| tabOk_cons ty145 <| tabOk_cons ty146 <| tabOk_cons ty147 <| tabOk_cons ty148 <| tabOk_cons ty149 <| tabOk_cons ty150 <| tabOk_cons ty151 <| tabOk_cons ty153 <| tabOk_cons ty154 <| tabOk_cons ty156 <| tabOk_cons ty158 <| tabOk_cons ty159 <| tabOk_cons ty160 <| tabOk_cons ty161 <| tabOk_cons ty162 <| tabOk_cons ty164 <| tabOk_cons ty165 <| tabOk_cons ty166 <| tabOk_cons ty168 <| tabOk_cons ty170 <| tabOk_cons ty171 <| tabOk_cons ty172 <| tabOk_cons ty175 <| tabOk_cons ty176 <| tabOk_cons ty177 <| tabOk_cons ty178 <| tabOk_cons ty179 <| tabOk_cons ty180 <| tabOk_cons ty181 <| tabOk_cons ty182 <| tabOk_cons ty184 <| tabOk_cons ty186 <| tabOk_cons ty187 <| tabOk_cons ty189 <| tabOk_cons ty190 <| tabOk_cons ty191 <| tabOk_cons ty192 <| tabOk_cons ty193 <| tabOk_cons ty194 <| tabOk_cons ty195 <| tabOk_cons ty196 <| tabOk_cons ty197 <| tabOk_cons ty198 <| tabOk_cons ty199 <| tabOk_cons ty200 <| tabOk_cons ty201 <| tabOk_cons ty202 <| tabOk_cons ty203 <| tabOk_cons ty204 <| tabOk_cons ty205 <| tabOk_cons ty208 <| tabOk_cons ty211 <| tabOk_cons ty212 <| tabOk_nil
theorem tl2 : look TT 2 = some ⟨.int .i64, 1, 8, .int .i64 0⟩ := rfl
theorem tl3 : look TT 3 = some ⟨.int .i64, 1, 8, .int .i64 0⟩ := rfl
theorem tl4 : look TT 4 = some ⟨.bool, 1, 1, .bool false⟩ := rfl
theorem tl5 : look TT 5 = some ⟨.int .u8, 1, 1, .int .u8 0⟩ := rfl
theorem tl6 : look TT 6 = some ⟨.int .u8, 1, 1, .int .u8 0⟩ := rfl
theorem tl12 : look TT 12 = some ⟨.int .u64, 1, 8, .int .u64 0⟩ := rfl
theorem tl21 : look TT 21 = some ⟨.int .i32, 1, 4, .int .i32 0⟩ := rfl
theorem tl22 : look TT 22 = some ⟨.slice 23, 1, 24, .slice none 0 0⟩ := rfl
theorem tl23 : look TT 23 = some ⟨.slice 5, 1, 24, .slice none 0 0⟩ := rfl
theorem tl25 : look TT 25 = some ⟨.int .i64, 1, 8, .int .i64 0⟩ := rfl
theorem tl45 : look TT 45 = some ⟨.slice 58, 1, 24, .slice none 0 0⟩ := rfl
theorem tl63 : look TT 63 = some ⟨.slice 75, 1, 24, .slice none 0 0⟩ := rfl
theorem tl66 : look TT 66 = some ⟨.slice 9, 1, 24, .slice none 0 0⟩ := rfl
theorem tl74 : look TT 74 = some ⟨.int .u64, 1, 8, .int .u64 0⟩ := rfl
theorem tl78 : look TT 78 = some ⟨.slice 3, 1, 24, .slice none 0 0⟩ := rfl
theorem tl88 : look TT 88 = some ⟨.slice 95, 1, 24, .slice none 0 0⟩ := rfl
theorem tl119 : look TT 119 = some ⟨.int .u32, 1, 4, .int .u32 0⟩ := rfl
theorem tl121 : look TT 121 = some ⟨.int .u64, 1, 8, .int .u64 0⟩ := rfl
theorem tl126 : look TT 126 = some ⟨.slice 133, 1, 24, .slice none 0 0⟩ := rfl
theorem tl173 : look TT 173 = some ⟨.int .i64, 1, 8, .int .i64 0⟩ := rfl
theorem tl188 : look TT 188 = some ⟨.int .u64, 1, 8, .int .u64 0⟩ := rfl
theorem tl206 : look TT 206 = some ⟨.int .u8, 1, 1, .int .u8 0⟩ := rfl
theorem tl207 : look TT 207 = some ⟨.int .u8, 1, 1, .int .u8 0⟩ := rfl
theorem tl209 : look TT 209 = some ⟨.int .i32, 1, 4, .int .i32 0⟩ := rfl
theorem tl210 : look TT 210 = some ⟨.int .i32, 1, 4, .int .i32 0⟩ := rfl
theorem tl1 : look TT 1 = some ⟨.func, 1, 8, .nilFunc⟩ := rfl
theorem tl7 : look TT 7 = some ⟨.struct [(0, 2), (1, 3), (2, 4), (3, 6)], 4, 24, .agg #[.int .i64 0, .int .i64 0, .bool false, .int .u8 0]⟩ := rfl
theorem tl8 : look TT 8 = some ⟨.struct [(0, 2), (1, 3), (2, 4), (3, 6)], 4, 24, .agg #[.int .i64 0, .int .i64 0, .bool false, .int .u8 0]⟩ := rfl
theorem tl9 : look TT 9 = some ⟨.str, 1, 16, .string ByteArray.empty⟩ := rfl
theorem tl10 : look TT 10 = some ⟨.str, 1, 16, .string ByteArray.empty⟩ := rfl
theorem tl11 : look TT 11 = some ⟨.str, 1, 16, .string ByteArray.empty⟩ := rfl
theorem tl13 : look TT 13 = some ⟨.struct [(0, 9), (1, 12)], 2, 24, .agg #[.string ByteArray.empty, .int .u64 0]⟩ := rfl
theorem tl14 : look TT 14 = some ⟨.struct [(0, 9), (1, 12)], 2, 24, .agg #[.string ByteArray.empty, .int .u64 0]⟩ := rfl
theorem tl15 : look TT 15 = some ⟨.ptr 202, 1, 8, .pointer none⟩ := rfl
theorem tl16 : look TT 16 = some ⟨.ptr 205, 1, 8, .pointer none⟩ := rfl
theorem tl17 : look TT 17 = some ⟨.ptr 212, 1, 8, .pointer none⟩ := rfl
theorem tl18 : look TT 18 = some ⟨.struct [(0, 17)], 1, 8, .agg #[.pointer none]⟩ := rfl
theorem tl19 : look TT 19 = some ⟨.struct [(0, 17)], 1, 8, .agg #[.pointer none]⟩ := rfl
theorem tl20 : look TT 20 = some ⟨.iface, 1, 16, .nilIface⟩ := rfl
theorem tl24 : look TT 24 = some ⟨.ptr 62, 1, 8, .pointer none⟩ := rfl
theorem tl27 : look TT 27 = some ⟨.func, 1, 8, .nilFunc⟩ := rfl
theorem tl28 : look TT 28 = some ⟨.ptr 65, 1, 8, .pointer none⟩ := rfl
theorem tl30 : look TT 30 = some ⟨.func, 1, 8, .nilFunc⟩ := rfl
theorem tl32 : look TT 32 = some ⟨.func, 1, 8, .nilFunc⟩ := rfl
theorem tl33 : look TT 33 = some ⟨.func, 1, 8, .nilFunc⟩ := rfl
theorem tl34 : look TT 34 = some ⟨.func, 1, 8, .nilFunc⟩ := rfl
theorem tl36 : look TT 36 = some ⟨.func, 1, 8, .nilFunc⟩ := rfl
theorem tl38 : look TT 38 = some ⟨.func, 1, 8, .nilFunc⟩ := rfl
theorem tl39 : look TT 39 = some ⟨.func, 1, 8, .nilFunc⟩ := rfl
theorem tl40 : look TT 40 = some ⟨.func, 1, 8, .nilFunc⟩ := rfl
theorem tl41 : look TT 41 = some ⟨.func, 1, 8, .nilFunc⟩ := rfl
theorem tl42 : look TT 42 = some ⟨.func, 1, 8, .nilFunc⟩ := rfl
theorem tl43 : look TT 43 = some ⟨.func, 1, 8, .nilFunc⟩ := rfl
theorem tl44 : look TT 44 = some ⟨.func, 1, 8, .nilFunc⟩ := rfl
theorem tl46 : look TT 46 = some ⟨.func, 1, 8, .nilFunc⟩ := rfl
theorem tl47 : look TT 47 = some ⟨.ptr 90, 1, 8, .pointer none⟩ := rfl
theorem tl49 : look TT 49 = some ⟨.func, 1, 8, .nilFunc⟩ := rfl
theorem tl50 : look TT 50 = some ⟨.func, 1, 8, .nilFunc⟩ := rfl
theorem tl51 : look TT 51 = some ⟨.func, 1, 8, .nilFunc⟩ := rfl
theorem tl52 : look TT 52 = some ⟨.ptr 55, 1, 8, .pointer none⟩ := rfl
theorem tl53 : look TT 53 = some ⟨.ptr 128, 1, 8, .pointer none⟩ := rfl
theorem tl54 : look TT 54 = some ⟨.struct [(0, 24), (1, 47), (2, 28), (3, 53)], 4, 32, .agg #[.pointer none, .pointer none, .pointer none, .pointer none]⟩ := rfl
theorem tl55 : look TT 55 = some ⟨.struct [(0, 24), (1, 47), (2, 28), (3, 53)], 4, 32, .agg #[.pointer none, .pointer none, .pointer none, .pointer none]⟩ := rfl
theorem tl56 : look TT 56 = some ⟨.func, 1, 8, .nilFunc⟩ := rfl
theorem tl57 : look TT 57 = some ⟨.struct [(0, 3), (1, 3), (2, 3), (3, 23), (4, 5)], 5, 56, .agg #[.int .i64 0, .int .i64 0, .int .i64 0, .slice none 0 0, .int .u8 0]⟩ := rfl
theorem tl58 : look TT 58 = some ⟨.struct [(0, 3), (1, 3), (2, 3), (3, 23), (4, 5)], 5, 56, .agg #[.int .i64 0, .int .i64 0, .int .i64 0, .slice none 0 0, .int .u8 0]⟩ := rfl
theorem tl59 : look TT 59 = some ⟨.func, 1, 8, .nilFunc⟩ := rfl
theorem tl60 : look TT 60 = some ⟨.map 9 86, 1, 8, .map none⟩ := rfl
theorem tl61 : look TT 61 = some ⟨.struct [(0, 3), (1, 3), (2, 60)], 3, 24, .agg #[.int .i64 0, .int .i64 0, .map none]⟩ := rfl
theorem tl62 : look TT 62 = some ⟨.struct [(0, 3), (1, 3), (2, 60)], 3, 24, .agg #[.int .i64 0, .int .i64 0, .map none]⟩ := rfl
theorem tl64 : look TT 64 = some ⟨.struct [(0, 24), (1, 9), (2, 63), (3, 3)], 4, 56, .agg #[.pointer none, .string ByteArray.empty, .slice none 0 0, .int .i64 0]⟩ := rfl
theorem tl65 : look TT 65 = some ⟨.struct [(0, 24), (1, 9), (2, 63), (3, 3)], 4, 56, .agg #[.pointer none, .string ByteArray.empty, .slice none 0 0, .int .i64 0]⟩ := rfl
theorem tl67 : look TT 67 = some ⟨.func, 1, 8, .nilFunc⟩ := rfl
theorem tl69 : look TT 69 = some ⟨.func, 1, 8, .nilFunc⟩ := rfl
theorem tl70 : look TT 70 = some ⟨.func, 1, 8, .nilFunc⟩ := rfl
theorem tl71 : look TT 71 = some ⟨.func, 1, 8, .nilFunc⟩ := rfl
theorem tl72 : look TT 72 = some ⟨.func, 1, 8, .nilFunc⟩ := rfl
theorem tl73 : look TT 73 = some ⟨.func, 1, 8, .nilFunc⟩ := rfl
theorem tl75 : look TT 75 = some ⟨.ptr 80, 1, 8, .pointer none⟩ := rfl
theorem tl76 : look TT 76 = some ⟨.func, 1, 8, .nilFunc⟩ := rfl
theorem tl77 : look TT 77 = some ⟨.func, 1, 8, .nilFunc⟩ := rfl
theorem tl79 : look TT 79 = some ⟨.struct [(0, 3), (1, 22), (2, 78), (3, 4)], 4, 64, .agg #[.int .i64 0, .slice none 0 0, .slice none 0 0, .bool false]⟩ := rfl
theorem tl80 : look TT 80 = some ⟨.struct [(0, 3), (1, 22), (2, 78), (3, 4)], 4, 64, .agg #[.int .i64 0, .slice none 0 0, .slice none 0 0, .bool false]⟩ := rfl
theorem tl81 : look TT 81 = some ⟨.func, 1, 8, .nilFunc⟩ := rfl
theorem tl82 : look TT 82 = some ⟨.func, 1, 8, .nilFunc⟩ := rfl
theorem tl83 : look TT 83 = some ⟨.func, 1, 8, .nilFunc⟩ := rfl
theorem tl84 : look TT 84 = some ⟨.func, 1, 8, .nilFunc⟩ := rfl
theorem tl85 : look TT 85 = some ⟨.struct [(0, 23), (1, 3)], 2, 32, .agg #[.slice none 0 0, .int .i64 0]⟩ := rfl
theorem tl86 : look TT 86 = some ⟨.struct [(0, 23), (1, 3)], 2, 32, .agg #[.slice none 0 0, .int .i64 0]⟩ := rfl
theorem tl87 : look TT 87 = some ⟨.func, 1, 8, .nilFunc⟩ := rfl
theorem tl89 : look TT 89 = some ⟨.struct [(0, 3), (1, 88)], 2, 32, .agg #[.int .i64 0, .slice none 0 0]⟩ := rfl
theorem tl90 : look TT 90 = some ⟨.struct [(0, 3), (1, 88)], 2, 32, .agg #[.int .i64 0, .slice none 0 0]⟩ := rfl
theorem tl91 : look TT 91 = some ⟨.func, 1, 8, .nilFunc⟩ := rfl
theorem tl93 : look TT 93 = some ⟨.func, 1, 8, .nilFunc⟩ := rfl
theorem tl94 : look TT 94 = some ⟨.struct [(0, 9), (1, 23), (2, 3)], 3, 48, .agg #[.string ByteArray.empty, .slice none 0 0, .int .i64 0]⟩ := rfl
theorem tl95 : look TT 95 = some ⟨.struct [(0, 9), (1, 23), (2, 3)], 3, 48, .agg #[.string ByteArray.empty, .slice none 0 0, .int .i64 0]⟩ := rfl
theorem tl97 : look TT 97 = some ⟨.func, 1, 8, .nilFunc⟩ := rfl
theorem tl98 : look TT 98 = some ⟨.func, 1, 8, .nilFunc⟩ := rfl
theorem tl99 : look TT 99 = some ⟨.func, 1, 8, .nilFunc⟩ := rfl
theorem tl101 : look TT 101 = some ⟨.func, 1, 8, .nilFunc⟩ := rfl
theorem tl102 : look TT 102 = some ⟨.func, 1, 8, .nilFunc⟩ := rfl
theorem tl103 : look TT 103 = some ⟨.func, 1, 8, .nilFunc⟩ := rfl
theorem tl104 : look TT 104 = some ⟨.func, 1, 8, .nilFunc⟩ := rfl
theorem tl105 : look TT 105 = some ⟨.func, 1, 8, .nilFunc⟩ := rfl
theorem tl106 : look TT 106 = some ⟨.func, 1, 8, .nilFunc⟩ := rfl
theorem tl107 : look TT 107 = some ⟨.func, 1, 8, .nilFunc⟩ := rfl
theorem tl108 : look TT 108 = some ⟨.func, 1, 8, .nilFunc⟩ := rfl
theorem tl109 : look TT 109 = some ⟨.func, 1, 8, .nilFunc⟩ := rfl
theorem tl110 : look TT 110 = some ⟨.func, 1, 8, .nilFunc⟩ := rfl
theorem tl112 : look TT 112 = some ⟨.func, 1, 8, .nilFunc⟩ := rfl
theorem tl113 : look TT 113 = some ⟨.func, 1, 8, .nilFunc⟩ := rfl
theorem tl115 : look TT 115 = some ⟨.func, 1, 8, .nilFunc⟩ := rfl
theorem tl117 : look TT 117 = some ⟨.func, 1, 8, .nilFunc⟩ := rfl
theorem tl118 : look TT 118 = some ⟨.func, 1, 8, .nilFunc⟩ := rfl
theorem tl120 : look TT 120 = some ⟨.func, 1, 8, .nilFunc⟩ := rfl
theorem tl122 : look TT 122 = some ⟨.func, 1, 8, .nilFunc⟩ := rfl
theorem tl123 : look TT 123 = some ⟨.func, 1, 8, .nilFunc⟩ := rfl
theorem tl124 : look TT 124 = some ⟨.func, 1, 8, .nilFunc⟩ := rfl
theorem tl125 : look TT 125 = some ⟨.func, 1, 8, .nilFunc⟩ := rfl
theorem tl127 : look TT 127 = some ⟨.struct [(0, 47), (1, 9), (2, 126), (3, 3), (4, 78)], 5, 80, .agg #[.pointer none, .string ByteArray.empty, .slice none 0 0, .int .i64 0, .slice none 0 0]⟩ := rfl
theorem tl128 : look TT 128 = some ⟨.struct [(0, 47), (1, 9), (2, 126), (3, 3), (4, 78)], 5, 80, .agg #[.pointer none, .string ByteArray.empty, .slice none 0 0, .int .i64 0, .slice none 0 0]⟩ := rfl
theorem tl129 : look TT 129 = some ⟨.func, 1, 8, .nilFunc⟩ := rfl
theorem tl130 : look TT 130 = some ⟨.func, 1, 8, .nilFunc⟩ := rfl
theorem tl131 : look TT 131 = some ⟨.func, 1, 8, .nilFunc⟩ := rfl
theorem tl132 : look TT 132 = some ⟨.struct [(0, 3), (1, 22)], 2, 32, .agg #[.int .i64 0, .slice none 0 0]⟩ := rfl
theorem tl133 : look TT 133 = some ⟨.struct [(0, 3), (1, 22)], 2, 32, .agg #[.int .i64 0, .slice none 0 0]⟩ := rfl
theorem tl135 : look TT 135 = some ⟨.func, 1, 8, .nilFunc⟩ := rfl
theorem tl136 : look TT 136 = some ⟨.func, 1, 8, .nilFunc⟩ := rfl
theorem tl137 : look TT 137 = some ⟨.func, 1, 8, .nilFunc⟩ := rfl
theorem tl138 : look TT 138 = some ⟨.func, 1, 8, .nilFunc⟩ := rfl
theorem tl140 : look TT 140 = some ⟨.func, 1, 8, .nilFunc⟩ := rfl
theorem tl141 : look TT 141 = some ⟨.func, 1, 8, .nilFunc⟩ := rfl
theorem tl142 : look TT 142 = some ⟨.array 16 119, 16, 64, .agg #[.int .u32 0, .int .u32 0, .int .u32 0, .int .u32 0, .int .u32 0, .int .u32 0, .int .u32 0, .int .u32 0, .int .u32 0, .int .u32 0, .int .u32 0, .int .u32 0, .int .u32 0, .int .u32 0, .int .u32 0, .int .u32 0]⟩ := rfl
theorem tl143 : look TT 143 = some ⟨.func, 1, 8, .nilFunc⟩ := rfl
theorem tl145 : look TT 145 = some ⟨.func, 1, 8, .nilFunc⟩ := rfl
theorem tl146 : look TT 146 = some ⟨.func, 1, 8, .nilFunc⟩ := rfl
theorem tl147 : look TT 147 = some ⟨.ptr 149, 1, 8, .pointer none⟩ := rfl
theorem tl148 : look TT 148 = some ⟨.struct [(0, 147), (1, 23)], 2, 32, .agg #[.pointer none, .slice none 0 0]⟩ := rfl
theorem tl149 : look TT 149 = some ⟨.struct [(0, 147), (1, 23)], 2, 32, .agg #[.pointer none, .slice none 0 0]⟩ := rfl
theorem tl150 : look TT 150 = some ⟨.iface, 1, 16, .nilIface⟩ := rfl
theorem tl151 : look TT 151 = some ⟨.iface, 1, 16, .nilIface⟩ := rfl
theorem tl153 : look TT 153 = some ⟨.func, 1, 8, .nilFunc⟩ := rfl
theorem tl154 : look TT 154 = some ⟨.func, 1, 8, .nilFunc⟩ := rfl
theorem tl156 : look TT 156 = some ⟨.func, 1, 8, .nilFunc⟩ := rfl
theorem tl158 : look TT 158 = some ⟨.func, 1, 8, .nilFunc⟩ := rfl
theorem tl159 : look TT 159 = some ⟨.func, 1, 8, .nilFunc⟩ := rfl
theorem tl160 : look TT 160 = some ⟨.func, 1, 8, .nilFunc⟩ := rfl
theorem tl161 : look TT 161 = some ⟨.func, 1, 8, .nilFunc⟩ := rfl
theorem tl162 : look TT 162 = some ⟨.func, 1, 8, .nilFunc⟩ := rfl
theorem tl164 : look TT 164 = some ⟨.func, 1, 8, .nilFunc⟩ := rfl
theorem tl165 : look TT 165 = some ⟨.func, 1, 8, .nilFunc⟩ := rfl
theorem tl166 : look TT 166 = some ⟨.func, 1, 8, .nilFunc⟩ := rfl
theorem tl168 : look TT 168 = some ⟨.func, 1, 8, .nilFunc⟩ := rfl
theorem tl170 : look TT 170 = some ⟨.func, 1, 8, .nilFunc⟩ := rfl
theorem tl171 : look TT 171 = some ⟨.ptr 5, 1, 8, .pointer none⟩ := rfl
theorem tl172 : look TT 172 = some ⟨.func, 1, 8, .nilFunc⟩ := rfl
theorem tl175 : look TT 175 = some ⟨.func, 1, 8, .nilFunc⟩ := rfl
theorem tl176 : look TT 176 = some ⟨.func, 1, 8, .nilFunc⟩ := rfl
theorem tl177 : look TT 177 = some ⟨.func, 1, 8, .nilFunc⟩ := rfl
theorem tl178 : look TT 178 = some ⟨.func, 1, 8, .nilFunc⟩ := rfl
theorem tl179 : look TT 179 = some ⟨.func, 1, 8, .nilFunc⟩ := rfl
theorem tl180 : look TT 180 = some ⟨.func, 1, 8, .nilFunc⟩ := rfl
theorem tl181 : look TT 181 = some ⟨.array 24 5, 24, 24, .agg #[.int .u8 0, .int .u8 0, .int .u8 0, .int .u8 0, .int .u8 0, .int .u8 0, .int .u8 0, .int .u8 0, .int .u8 0, .int .u8 0, .int .u8 0, .int .u8 0, .int .u8 0, .int .u8 0, .int .u8 0, .int .u8 0, .int .u8 0, .int .u8 0, .int .u8 0, .int .u8 0, .int .u8 0, .int .u8 0, .int .u8 0, .int .u8 0]⟩ := rfl
theorem tl182 : look TT 182 = some ⟨.func, 1, 8, .nilFunc⟩ := rfl
theorem tl184 : look TT 184 = some ⟨.func, 1, 8, .nilFunc⟩ := rfl
theorem tl186 : look TT 186 = some ⟨.func, 1, 8, .nilFunc⟩ := rfl
theorem tl187 : look TT 187 = some ⟨.func, 1, 8, .nilFunc⟩ := rfl
theorem tl189 : look TT 189 = some ⟨.func, 1, 8, .nilFunc⟩ := rfl
theorem tl190 : look TT 190 = some ⟨.func, 1, 8, .nilFunc⟩ := rfl
theorem tl191 : look TT 191 = some ⟨.func, 1, 8, .nilFunc⟩ := rfl
theorem tl192 : look TT 192 = some ⟨.ptr 3, 1, 8, .pointer none⟩ := rfl
theorem tl193 : look TT 193 = some ⟨.func, 1, 8, .nilFunc⟩ := rfl
theorem tl194 : look TT 194 = some ⟨.func, 1, 8, .nilFunc⟩ := rfl
theorem tl195 : look TT 195 = some ⟨.array 20 74, 20, 160, .agg #[.int .u64 0, .int .u64 0, .int .u64 0, .int .u64 0, .int .u64 0, .int .u64 0, .int .u64 0, .int .u64 0, .int .u64 0, .int .u64 0, .int .u64 0, .int .u64 0, .int .u64 0, .int .u64 0, .int .u64 0, .int .u64 0, .int .u64 0, .int .u64 0, .int .u64 0, .int .u64 0]⟩ := rfl
theorem tl196 : look TT 196 = some ⟨.array 65 5, 65, 65, .agg #[.int .u8 0, .int .u8 0, .int .u8 0, .int .u8 0, .int .u8 0, .int .u8 0, .int .u8 0, .int .u8 0, .int .u8 0, .int .u8 0, .int .u8 0, .int .u8 0, .int .u8 0, .int .u8 0, .int .u8 0, .int .u8 0, .int .u8 0, .int .u8 0, .int .u8 0, .int .u8 0, .int .u8 0, .int .u8 0, .int .u8 0, .int .u8 0, .int .u8 0, .int .u8 0, .int .u8 0, .int .u8 0, .int .u8 0, .int .u8 0, .int .u8 0, .int .u8 0, .int .u8 0, .int .u8 0, .int .u8 0, .int .u8 0, .int .u8 0, .int .u8 0, .int .u8 0, .int .u8 0, .int .u8 0, .int .u8 0, .int .u8 0, .int .u8 0, .int .u8 0, .int .u8 0, .int .u8 0, .int .u8 0, .int .u8 0, .int .u8 0, .int .u8 0, .int .u8 0, .int .u8 0, .int .u8 0, .int .u8 0, .int .u8 0, .int .u8 0, .int .u8 0, .int .u8 0, .int .u8 0, .int .u8 0, .int .u8 0, .int .u8 0, .int .u8 0, .int .u8 0]⟩ := rfl
theorem tl197 : look TT 197 = some ⟨.ptr 188, 1, 8, .pointer none⟩ := rfl
theorem tl198 : look TT 198 = some ⟨.func, 1, 8, .nilFunc⟩ := rfl
theorem tl199 : look TT 199 = some ⟨.array 32 5, 32, 32, .agg #[.int .u8 0, .int .u8 0, .int .u8 0, .int .u8 0, .int .u8 0, .int .u8 0, .int .u8 0, .int .u8 0, .int .u8 0, .int .u8 0, .int .u8 0, .int .u8 0, .int .u8 0, .int .u8 0, .int .u8 0, .int .u8 0, .int .u8 0, .int .u8 0, .int .u8 0, .int .u8 0, .int .u8 0, .int .u8 0, .int .u8 0, .int .u8 0, .int .u8 0, .int .u8 0, .int .u8 0, .int .u8 0, .int .u8 0, .int .u8 0, .int .u8 0, .int .u8 0]⟩ := rfl
theorem tl200 : look TT 200 = some ⟨.array 64 5, 64, 64, .agg #[.int .u8 0, .int .u8 0, .int .u8 0, .int .u8 0, .int .u8 0, .int .u8 0, .int .u8 0, .int .u8 0, .int .u8 0, .int .u8 0, .int .u8 0, .int .u8 0, .int .u8 0, .int .u8 0, .int .u8 0, .int .u8 0, .int .u8 0, .int .u8 0, .int .u8 0, .int .u8 0, .int .u8 0, .int .u8 0, .int .u8 0, .int .u8 0, .int .u8 0, .int .u8 0, .int .u8 0, .int .u8 0, .int .u8 0, .int .u8 0, .int .u8 0, .int .u8 0, .int .u8 0, .int .u8 0, .int .u8 0, .int .u8 0, .int .u8 0, .int .u8 0, .int .u8 0, .int .u8 0, .int .u8 0, .int .u8 0, .int .u8 0, .int .u8 0, .int .u8 0, .int .u8 0, .int .u8 0, .int .u8 0, .int .u8 0, .int .u8 0, .int .u8 0, .int .u8 0, .int .u8 0, .int .u8 0, .int .u8 0, .int .u8 0, .int .u8 0, .int .u8 0, .int .u8 0, .int .u8 0, .int .u8 0, .int .u8 0, .int .u8 0, .int .u8 0]⟩ := rfl
theorem tl201 : look TT 201 = some ⟨.struct [(0, 17), (1, 17), (2, 17), (3, 9)], 4, 40, .agg #[.pointer none, .pointer none, .pointer none, .string ByteArray.empty]⟩ := rfl
theorem tl202 : look TT 202 = some ⟨.struct [(0, 17), (1, 17), (2, 17), (3, 9)], 4, 40, .agg #[.pointer none, .pointer none, .pointer none, .string ByteArray.empty]⟩ := rfl
theorem tl203 : look TT 203 = some ⟨.array 0 16, 0, 0, .agg #[]⟩ := rfl
theorem tl204 : look TT 204 = some ⟨.struct [(0, 203)], 0, 0, .agg #[]⟩ := rfl
theorem tl205 : look TT 205 = some ⟨.struct [(0, 203)], 0, 0, .agg #[]⟩ := rfl
theorem tl208 : look TT 208 = some ⟨.func, 1, 8, .nilFunc⟩ := rfl
theorem tl211 : look TT 211 = some ⟨.struct [(0, 12), (1, 12), (2, 119), (3, 206), (4, 5), (5, 5), (6, 207), (7, 208), (8, 171), (9, 209), (10, 210)], 11, 48, .agg #[.int .u64 0, .int .u64 0, .int .u32 0, .int .u8 0, .int .u8 0, .int .u8 0, .int .u8 0, .nilFunc, .pointer none, .int .i32 0, .int .i32 0]⟩ := rfl
theorem tl212 : look TT 212 = some ⟨.struct [(0, 12), (1, 12), (2, 119), (3, 206), (4, 5), (5, 5), (6, 207), (7, 208), (8, 171), (9, 209), (10, 210)], 11, 48, .agg #[.int .u64 0, .int .u64 0, .int .u32 0, .int .u8 0, .int .u8 0, .int .u8 0, .int .u8 0, .nilFunc, .pointer none, .int .i32 0, .int .i32 0]⟩ := rfl
theorem mixed : Tryz.prog.follows .mixedOrders = true := by kernel_rfl
end Go.Proofs.YtjafamiaahabgaaGreatDoor
