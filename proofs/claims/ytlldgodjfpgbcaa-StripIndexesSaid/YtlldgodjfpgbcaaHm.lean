/- Maps in blocks of their own, over the layer. Nothing is claimed here. -/
import Derived.Test.YtlldgodjfpgbcaaHc
import Derived.Maps.RangeRun
import Derived.Maps.Keyed
import Derived.DeepKeys5
namespace Go.Proofs.Ytlldgodjfpgbcaa
open Go.RowKit Go.MapKept
open Go.Maps (Keyed)
open Go.ChangeMaps (setBlock)
set_option linter.unusedVariables false
set_option linter.unusedSimpArgs false

def Good (P : Program) (k : TypeId) (v : Value) : Prop := ∃ l, keyOf P k v = some l
def kv (e : MapEntry) : Value × Value := (e.key, e.val)
def kvs (es : Array MapEntry) : List (Value × Value) := es.toList.map kv

/-! ### Keys that are structs -/
def lenL : List Value → Nat
  | [] => 0
  | _ :: l => lenL l + 1
theorem lenL_eq : ∀ l : List Value, lenL l = l.length
  | [] => rfl
  | _ :: l => by simp [lenL, lenL_eq l]
def tkL : List Value → Nat → List Value
  | _, 0 => []
  | [], _ + 1 => []
  | c :: cs, n + 1 => c :: tkL cs n
def dpL : List Value → Nat → List Value
  | cs, 0 => cs
  | [], _ + 1 => []
  | _ :: cs, n + 1 => dpL cs n
theorem tkL_eq : ∀ (cs : List Value) (n : Nat), tkL cs n = cs.take n
  | _, 0 => by simp [tkL]
  | [], _ + 1 => by simp [tkL]
  | c :: cs, n + 1 => by simp [tkL, tkL_eq cs n]
theorem dpL_eq : ∀ (cs : List Value) (n : Nat), dpL cs n = cs.drop n
  | _, 0 => by simp [dpL]
  | [], _ + 1 => by simp [dpL]
  | c :: cs, n + 1 => by simp [dpL, dpL_eq cs n]

def allF {α : Type} (p : α → Prop) : List α → Prop
  | [] => True
  | x :: xs => p x ∧ allF p xs
theorem allF_mem {α : Type} {p : α → Prop} : ∀ {l : List α}, allF p l → ∀ x ∈ l, p x
  | y :: l, h, x, hx => by
    rcases List.mem_cons.1 hx with rfl | hx
    · exact h.1
    · exact allF_mem h.2 x hx
/-- cells that are a key's of a type of the table -/
def goodL (T : Tab) : Nat → TypeId → List Value → Prop
  | 0 => fun _ _ => False
  | d + 1 => fun t cs => match look T t with
    | some ⟨sh, sz, _, _⟩ => match sh, cs with
      | .bool, [.bool _] => True
      | .int q, [.int q' n] => whenT (ikEq q' q) ((Lit.int q n).wf = true)
      | .str, [.string s] => s.size ≤ maxLen
      | .struct fs, cs => Nat.beq (lenL cs) sz = true ∧ allF (fun f => match look T f.2 with
        | some ⟨_, sz, _, _⟩ => goodL T d f.2 (tkL (dpL cs f.1) sz)
        | none => False) fs
      | _, _ => False
    | none => False

theorem mapM_some {α β : Type} {f : α → Option β} : ∀ {l : List α}, (∀ x ∈ l, ∃ y, f x = some y) → ∃ ys, l.mapM f = some ys
  | [], _ => ⟨[], by simp⟩
  | x :: l, h => by
    obtain ⟨y, hy⟩ := h x (by simp)
    obtain ⟨ys, hys⟩ := mapM_some (l := l) fun z hz => h z (by simp [hz])
    exact ⟨y :: ys, by simp [List.mapM_cons, hy, hys]⟩

section
variable {P : Program} {T : Tab} (hT : TabOk P T)
include hT
theorem cellsOf_td {t : TypeId} {d : Td} (h : look T t = some d) : P.cellsOf t = d.size := by
  obtain ⟨i, hi, _, hs, _⟩ := (hT _ _ h).inf
  simp [Program.cellsOf, hi, hs]
theorem goodF_mem {d : Nat} {fs : List (Nat × TypeId)} {cs : List Value} (h : allF (fun f => match look T f.2 with
        | some ⟨_, sz, _, _⟩ => goodL T d f.2 (tkL (dpL cs f.1) sz)
        | none => False) fs) : ∀ f ∈ fs, goodL T d f.2 ((cs.drop f.1).take (P.cellsOf f.2)) := by
  intro f hf
  have h1 := allF_mem h f hf
  split at h1
  · rename_i sz _ _ hl
    rw [tkL_eq, dpL_eq] at h1
    rw [cellsOf_td hT hl]
    exact h1
  · exact h1.elim
theorem goodL_lits : ∀ (d : Nat) (t : TypeId) (cs : List Value), goodL T d t cs → ∀ D, P.keyTypeAt D t = true → d ≤ D → ∃ l, P.keyLits D t cs = some l
  | 0, _, _, h, _, _, _ => h.elim
  | d + 1, t, cs, h, 0, _, hd => by omega
  | d + 1, t, cs, h, D + 1, hk, hd => by
    unfold goodL at h
    split at h
    case h_2 => exact h.elim
    rename_i sh sz _ _ hl
    obtain ⟨u, hu, hs⟩ := shOf_cases hT hl
    split at h
    · cases u <;> simp only [shOf, reduceCtorEq] at hs
      rename_i b
      exact ⟨[.bool b], by simp only [Program.keyLits, hu]⟩
    · rename_i q q' n
      cases u <;> simp only [shOf, reduceCtorEq, Sh.int.injEq] at hs
      subst hs
      obtain ⟨h1, h2⟩ := whenT_out h
      have hq := ikEq_eq h1
      exact ⟨_, by simp only [Program.keyLits, hu]; rw [if_pos ⟨hq, h2⟩]⟩
    · cases u <;> simp only [shOf, reduceCtorEq] at hs
      exact ⟨_, by simp only [Program.keyLits, hu]; rw [if_pos h]⟩
    · rename_i fs
      cases u <;> simp only [shOf, reduceCtorEq, Sh.struct.injEq] at hs
      rename_i fields
      obtain ⟨h1, h2⟩ := h
      have hlen := Nat.eq_of_beq_eq_true h1
      rw [lenL_eq] at hlen
      have hcell : cs.length = P.cellsOf t := by rw [cellsOf_td hT hl]; exact hlen
      have hkt : ∀ f ∈ fields.toList, (f.name != "_") = true ∧ P.keyTypeAt D f.type = true := by
        have := hk
        simp only [Program.keyTypeAt, hu, Bool.and_eq_true] at this
        have h3 := this.1.1
        rw [← Array.all_toList, List.all_eq_true] at h3
        intro f hf
        simpa using h3 f hf
      obtain ⟨ls, hls⟩ := mapM_some (l := fields.toList) (f := fun f => P.keyLits D f.type ((cs.drop f.offset).take (P.cellsOf f.type))) fun f hf =>
        goodL_lits d f.type _ (goodF_mem hT h2 (f.offset, f.type) (by rw [← hs]; exact List.mem_map_of_mem (f := fun f : Field => (f.offset, f.type)) hf)) D (hkt f hf).2 (by omega)
      have hn : fields.all (·.name != "_") = true := by
        rw [← Array.all_toList, List.all_eq_true]
        exact fun f hf => (hkt f hf).1
      cases cs with
      | nil => exact ⟨ls.flatten, by simp only [Program.keyLits, hu]; rw [if_pos ⟨hcell, hn⟩, hls]; rfl⟩
      | cons c cs =>
        refine ⟨ls.flatten, ?_⟩
        simp only [Program.keyLits, hu]
        rw [if_pos ⟨hcell, hn⟩, hls]; rfl
    · exact h.elim
/-- a struct whose cells are a key's -/
theorem good_struct {t : TypeId} {fs : List (Nat × TypeId)} {s b : Nat} {z : Value} (d : Nat) (ht : look T t = some ⟨.struct fs, s, b, z⟩) (hk : P.keyType t = true) (hd : d ≤ P.types.size + 1) {cs : List Value} (h : goodL T d t cs) : Good P t (.agg cs.toArray) := by
  obtain ⟨l, hl⟩ := goodL_lits hT d t cs h _ hk hd
  obtain ⟨u, hu, hs⟩ := shOf_cases hT ht
  cases u <;> simp only [shOf, reduceCtorEq] at hs
  have hlen : cs.length = P.cellsOf t := by
    cases d with
    | zero => exact h.elim
    | succ d =>
      unfold goodL at h
      simp only [ht] at h
      rw [cellsOf_td hT ht]
      have := Nat.eq_of_beq_eq_true h.1
      rwa [lenL_eq] at this
  refine ⟨.string (keyBytes l), ?_⟩
  simp only [keyOf, hu, hk, Value.formed, List.size_toArray, hlen, beq_self_eq_true, Bool.and_self, if_true, Value.cells, hl, Option.map_some]
omit hT in
theorem good_int {t : TypeId} {q : IntKind} {n : Int} (ht : P.underlying t = some (.int q)) (h : (Lit.int q n).wf = true) : Good P t (.int q n) := ⟨.int q n, by simp [keyOf, mapKey, ht, h]⟩
omit hT in
theorem good_str {t : TypeId} {s : ByteArray} (ht : P.underlying t = some .string) (h : s.size ≤ maxLen) : Good P t (.string s) := ⟨_, by simp only [keyOf, mapKey, ht]; rw [if_pos h]⟩
omit hT in
/-- two structs that are keys are compared -/
theorem Eg.key {t : TypeId} {a b : Array Value} {K : Bool → Prop} (L : WideMaps.KeyLaw P t) (hm : P.types.size + 1 ≤ 10000) (hk : P.keyType t = true) (hwide : (match P.underlying t with | some (.array _ _) | some (.struct _) => true | _ => false) = true) (hg : P.eqGuardType P.depth t = false)
    (ha : Good P t (.agg a)) (hb : Good P t (.agg b)) (h : ∀ r : Bool, (r = true ↔ Value.agg a = .agg b) → K r) : Eg P t a b K := by
  obtain ⟨la, ha⟩ := ha
  obtain ⟨lb, hb⟩ := hb
  obtain ⟨r0, h0, h1⟩ := run_equal_deep (P := P) default hm hk hwide ha hb
  have hr : r0 = true ↔ Value.agg a = .agg b := by
    rw [h1]
    exact ⟨fun e => L.inj ha (e ▸ hb), fun e => by rw [e, hb] at ha; injection ha with ha; exact ha.symm⟩
  refine Eg.mk r0 (fun w => ?_) hg (h r0 hr)
  obtain ⟨r', h0', h1'⟩ := run_equal_deep (P := P) w hm hk hwide ha hb
  have : r' = r0 := by
    cases r' <;> cases r0 <;> simp_all
  rw [← this]; exact h0'
end

/-- block b is a map with these entries -/
structure Mp (P : Program) (k : TypeId) (w : World) (b : Nat) (l : List (Value × Value)) : Prop where
  of : ∃ es clock, w.heap[b]? = some (.map es clock) ∧ Stamped es clock ∧ kvs es = l
  good : ∀ p ∈ l, Good P k p.1

/-- the entries behind a store -/
inductive Put (l : List (Value × Value)) (x v : Value) : List (Value × Value) → Prop
  | new (h : ∀ p ∈ l, p.1 ≠ x) : Put l x v (l ++ [(x, v)])
  | old (A B : List (Value × Value)) (u : Value) (h : l = A ++ (x, u) :: B) : Put l x v (A ++ (x, v) :: B)
/-- what a look gives -/
inductive Got (l : List (Value × Value)) (x z : Value) : Value → Bool → Prop
  | yes (u : Value) (h : (x, u) ∈ l) : Got l x z u true
  | no (h : ∀ p ∈ l, p.1 ≠ x) : Got l x z z false
/-- the entries behind a delete -/
inductive Gone (l : List (Value × Value)) (x : Value) : List (Value × Value) → Prop
  | no (h : ∀ p ∈ l, p.1 ≠ x) : Gone l x l
  | yes (A B : List (Value × Value)) (u : Value) (h : l = A ++ (x, u) :: B) : Gone l x (A ++ B)

theorem Mp.keep {P : Program} {k : TypeId} {w w' : World} {b : Nat} {l : List (Value × Value)} (h : Mp P k w b l) (hb : w'.heap[b]? = w.heap[b]?) : Mp P k w' b l := by
  obtain ⟨⟨es, c, h1, h2, h3⟩, h4⟩ := h
  exact ⟨⟨es, c, hb.trans h1, h2, h3⟩, h4⟩
theorem Mp.lt {P : Program} {k : TypeId} {w : World} {b : Nat} {l : List (Value × Value)} (h : Mp P k w b l) : b < w.heap.size := by
  obtain ⟨⟨es, c, h1, h2, h3⟩, h4⟩ := h
  exact (Array.getElem?_eq_some_iff.1 h1).1
theorem Mp.grown {P : Program} {k : TypeId} {w w' : World} {b : Nat} {l : List (Value × Value)} {row : Option Nat} (h : Mp P k w b l) (hg : w.grownBy w' row) (hr : some b ≠ row) : Mp P k w' b l := h.keep (hg.block b h.lt hr)
theorem Mp.below {P : Program} {k : TypeId} {w w' : World} {b B : Nat} {l : List (Value × Value)} (h : Mp P k w b l) (hb : Below B w w') (hB : b < B) : Mp P k w' b l := h.keep (hb.block b hB)
theorem Mp.apart {P : Program} {k : TypeId} {w : World} {b : Nat} {l : List (Value × Value)} (h : Mp P k w b l) : (l.map (·.1)).Nodup := by
  obtain ⟨⟨es, c, h1, h2, rfl⟩, h4⟩ := h
  have := h2.2.2
  simpa [kvs, kv, Function.comp_def] using this

theorem Nw.map {P : Program} {k : TypeId} {w : World} {K : Nat → World → Prop} (h : ∀ b w', b = w.heap.size → Mp P k w' b [] → w.grownBy w' none → b < w'.heap.size → K b w') : Nw w (.map #[] 0) K :=
  Nw.mk (h _ _ rfl ⟨⟨#[], 0, heap_alloc_new w _, stamped_empty 0, rfl⟩, by simp⟩ (World.grownBy_alloc w _ none) (by simp))

theorem setB_other (w : World) (b : Nat) (o : Obj) {i : Nat} (h : i ≠ b) : (setBlock w b o).heap[i]? = w.heap[i]? := by
  simp only [setBlock]
  rw [Array.getElem?_setIfInBounds_ne (Ne.symm h)]
theorem setB_same (w : World) (b : Nat) (o : Obj) {o' : Obj} (h : w.heap[b]? = some o') : (setBlock w b o).heap[b]? = some o := by
  have := (Array.getElem?_eq_some_iff.1 h).1
  simp [setBlock, this]
theorem grownBy_setBlock (w : World) (b : Nat) (o : Obj) : w.grownBy (setBlock w b o) (some b) :=
  ⟨rfl, rfl, rfl, by simp [setBlock], fun i _ hi => setB_other _ _ _ (fun e => hi (by rw [e]))⟩

section
variable {P : Program} {T : Tab} (hT : TabOk P T) {k : TypeId} (hK : Keyed P k)
include hT

theorem und_map {t e : TypeId} {s b : Nat} {z : Value} (ht : look T t = some ⟨.map k e, s, b, z⟩) : P.underlying t = some (.map k e) := by
  obtain ⟨u, hu, hs⟩ := shOf_cases hT ht
  cases u <;> simp only [shOf, reduceCtorEq, Sh.map.injEq] at hs
  obtain ⟨rfl, rfl⟩ := hs
  exact hu

include hK
omit hT in
theorem Mp.find {w : World} {b : Nat} {l : List (Value × Value)} {es : Array MapEntry} (hg : ∀ p ∈ l, Good P k p.1) (he : kvs es = l) {x : Value} (hx : Good P k x) :
    ((Instr.findKey k x es.toList).run P w = .ok none w ∧ ∀ p ∈ l, p.1 ≠ x) ∨ ∃ j e, (Instr.findKey k x es.toList).run P w = .ok (some (j, e.val)) w ∧ es.toList[j]? = some e ∧ e.key = x := by
  obtain ⟨lx, hlx⟩ := hx
  rcases hK.find w hlx es.toList (fun e he' => hg (kv e) (by rw [← he]; exact List.mem_map_of_mem he')) with ⟨h1, h2⟩ | h
  · refine .inl ⟨h1, fun p hp => ?_⟩
    rw [← he] at hp
    obtain ⟨e, he', rfl⟩ := List.mem_map.1 hp
    exact h2 e he'
  · exact .inr h

theorem Rv.lookOk {w : World} {K : Value → World → Prop} {t e : TypeId} {s b' : Nat} {z : Value} {de : Td} {b : Nat} {l : List (Value × Value)} (ht : look T t = some ⟨.map k e, s, b', z⟩) (he : look T e = some de)
    (h : Mp P k w b l) {x : Value} (hx : Good P k x) (hk : ∀ u ok, Got l x de.zero u ok → K (.tuple #[u, .bool ok]) w) : Rv P (Instr.lookup t (.map (some b)) x true) w K := by
  have hu := und_map hT ht
  have hz := (hT _ _ he).run_zero w
  obtain ⟨⟨es, c, h1, h2, h3⟩, h4⟩ := h
  obtain ⟨lx, hlx⟩ := hx
  rcases Mp.find hK (w := w) (b := b) h4 h3 ⟨lx, hlx⟩ with ⟨q1, q2⟩ | ⟨j, e0, q1, q2, q3⟩
  · refine Rv.mk (w' := w) ?_ (hk _ _ (.no q2))
    simp [Instr.lookup, run_underlying hu, MapKept.run_getObj_map h1, hK.check w _ hlx, q1, hz]
  · refine Rv.mk (w' := w) (v := .tuple #[e0.val, .bool true]) ?_ (hk _ _ (.yes _ ?_))
    · simp [Instr.lookup, run_underlying hu, MapKept.run_getObj_map h1, hK.check w _ hlx, q1]
    · rw [← h3, ← q3]
      exact List.mem_map_of_mem (f := kv) (List.mem_of_getElem? q2)
theorem Rv.seek {w : World} {K : Value → World → Prop} {t e : TypeId} {s b' : Nat} {z : Value} {de : Td} {b : Nat} {l : List (Value × Value)} (ht : look T t = some ⟨.map k e, s, b', z⟩) (he : look T e = some de)
    (h : Mp P k w b l) {x : Value} (hx : Good P k x) (hk : ∀ u ok, Got l x de.zero u ok → K u w) : Rv P (Instr.lookup t (.map (some b)) x false) w K := by
  have hu := und_map hT ht
  have hz := (hT _ _ he).run_zero w
  obtain ⟨⟨es, c, h1, h2, h3⟩, h4⟩ := h
  obtain ⟨lx, hlx⟩ := hx
  rcases Mp.find hK (w := w) (b := b) h4 h3 ⟨lx, hlx⟩ with ⟨q1, q2⟩ | ⟨j, e0, q1, q2, q3⟩
  · refine Rv.mk (w' := w) ?_ (hk _ _ (.no q2))
    simp [Instr.lookup, run_underlying hu, MapKept.run_getObj_map h1, hK.check w _ hlx, q1, hz]
  · refine Rv.mk (w' := w) (v := e0.val) ?_ (hk _ _ (.yes _ ?_))
    · simp [Instr.lookup, run_underlying hu, MapKept.run_getObj_map h1, hK.check w _ hlx, q1]
    · rw [← h3, ← q3]
      exact List.mem_map_of_mem (f := kv) (List.mem_of_getElem? q2)
/-- a look into no map -/
theorem Rv.lookOkN {w : World} {K : Value → World → Prop} {t e : TypeId} {s b' : Nat} {z : Value} {de : Td} (ht : look T t = some ⟨.map k e, s, b', z⟩) (he : look T e = some de) {x : Value} (hx : Good P k x)
    (hk : K (.tuple #[de.zero, .bool false]) w) : Rv P (Instr.lookup t (.map none) x true) w K := by
  have hu := und_map hT ht
  have hz := (hT _ _ he).run_zero w
  obtain ⟨lx, hlx⟩ := hx
  rcases hK.find w hlx [] (by simp) with ⟨q1, q2⟩ | ⟨j, e0, q1, q2, q3⟩
  · refine Rv.mk (w' := w) ?_ hk
    simp [Instr.lookup, run_underlying hu, hK.check w _ hlx, q1, hz]
  · simp at q2
theorem Rv.lookN {w : World} {K : Value → World → Prop} {t e : TypeId} {s b' : Nat} {z : Value} {de : Td} (ht : look T t = some ⟨.map k e, s, b', z⟩) (he : look T e = some de) {x : Value} (hx : Good P k x)
    (hk : K de.zero w) : Rv P (Instr.lookup t (.map none) x false) w K := by
  have hu := und_map hT ht
  have hz := (hT _ _ he).run_zero w
  obtain ⟨lx, hlx⟩ := hx
  rcases hK.find w hlx [] (by simp) with ⟨q1, q2⟩ | ⟨j, e0, q1, q2, q3⟩
  · refine Rv.mk (w' := w) ?_ hk
    simp [Instr.lookup, run_underlying hu, hK.check w _ hlx, q1, hz]
  · simp at q2

omit hK hT in
theorem kvs_modify {es : Array MapEntry} {j : Nat} {e0 : MapEntry} {x v : Value} (h : es.toList[j]? = some e0) (hx : e0.key = x) :
    ∃ A B, kvs es = A ++ (x, e0.val) :: B ∧ kvs (es.modify j fun e => { e with key := x, val := v }) = A ++ (x, v) :: B ∧ kvs (es.eraseIdxIfInBounds j) = A ++ B := by
  have hjl : j < es.toList.length := (List.getElem?_eq_some_iff.1 h).1
  have hsub : (es.eraseIdxIfInBounds j).toList = es.toList.eraseIdx j := by
    unfold Array.eraseIdxIfInBounds
    rw [dif_pos (by simpa using hjl)]
    simp
  have hd : es.toList.drop j = e0 :: es.toList.drop (j + 1) := by
    rw [List.drop_eq_getElem_cons hjl]
    rw [(List.getElem?_eq_some_iff.1 h).2]
  refine ⟨(es.toList.take j).map kv, (es.toList.drop (j + 1)).map kv, ?_, ?_, ?_⟩
  · unfold kvs
    conv => lhs; rw [← List.take_append_drop j es.toList, hd]
    simp [kv, hx]
  · unfold kvs
    rw [Array.toList_modify, ChangeMaps.modify_eq_set _ _ _ _ h, List.set_eq_take_append_cons_drop, if_pos hjl]
    simp [kv]
  · unfold kvs
    rw [hsub, List.eraseIdx_eq_take_drop_succ]
    simp

theorem Ru.put {w : World} {K : World → Prop} {t e : TypeId} {s b' : Nat} {z : Value} {b : Nat} {l : List (Value × Value)} (ht : look T t = some ⟨.map k e, s, b', z⟩)
    (h : Mp P k w b l) {x v : Value} (hx : Good P k x) (hk : ∀ w' l', Put l x v l' → Mp P k w' b l' → w.grownBy w' (some b) → K w') : Ru P (Instr.mapUpdate t (.map (some b)) x v) w K := by
  have hu := und_map hT ht
  obtain ⟨⟨es, c, h1, h2, h3⟩, h4⟩ := h
  obtain ⟨lx, hlx⟩ := hx
  rcases Mp.find hK (w := w) (b := b) h4 h3 ⟨lx, hlx⟩ with ⟨q1, q2⟩ | ⟨j, e0, q1, q2, q3⟩
  · have hne : ∀ y ∈ es.toList, y.key ≠ x := fun y hy => q2 (kv y) (by rw [← h3]; exact List.mem_map_of_mem hy)
    refine Ru.mk (w' := setBlock w b (.map (es.push ⟨x, v, c⟩) (c + 1))) ?_ (hk _ _ (.new q2) ⟨⟨_, _, setB_same _ _ _ h1, stamped_push h2 hne, by simp [kvs, ← h3, kv]⟩, ?_⟩ (grownBy_setBlock _ _ _))
    · simp [Instr.mapUpdate, run_underlying hu, MapKept.run_getObj_map h1, hK.check w false hlx, q1, MapKept.run_setObj_map _ h1, setBlock]
    · intro p hp
      simp only [List.mem_append, List.mem_singleton] at hp
      rcases hp with hp | rfl
      · exact h4 p hp
      · exact ⟨lx, hlx⟩
  · obtain ⟨A, B, e1, e2, _⟩ := kvs_modify (v := v) q2 q3
    have hj : es[j]? = some e0 := by simpa using q2
    refine Ru.mk (w' := setBlock w b (.map (es.modify j fun e => { e with key := x, val := v }) c)) ?_ (hk _ _ (.old A B e0.val (h3.symm.trans e1)) ⟨⟨_, _, setB_same _ _ _ h1, ?_, e2⟩, ?_⟩ (grownBy_setBlock _ _ _))
    · simp [Instr.mapUpdate, run_underlying hu, MapKept.run_getObj_map h1, hK.check w false hlx, q1, hj, q3, hK.stays w hlx, MapKept.run_setObj_map _ h1, setBlock]
    · refine stamped_modify h2 _ _ (fun _ _ => rfl) (fun e' _ he' => ?_)
      rw [hj] at he'
      cases he'
      exact q3.symm
    · intro p hp
      rw [← h3, e1] at h4
      simp only [List.mem_append, List.mem_cons] at hp h4
      rcases hp with hp | rfl | hp
      · exact h4 p (.inl hp)
      · exact ⟨lx, hlx⟩
      · exact h4 p (.inr (.inr hp))

theorem Rv.gone {w : World} {K : Value → World → Prop} {t e ty kt : TypeId} {s b' : Nat} {z : Value} {b : Nat} {l : List (Value × Value)} (ht : look T t = some ⟨.map k e, s, b', z⟩)
    (h : Mp P k w b l) {x : Value} (hx : Good P k x) (hk : ∀ w' l', Gone l x l' → Mp P k w' b l' → w.grownBy w' (some b) → K (.tuple #[]) w') : Rv P (Builtin.delete_ #[t, kt] ty #[.map (some b), x]) w K := by
  have hu := und_map hT ht
  obtain ⟨⟨es, c, h1, h2, h3⟩, h4⟩ := h
  obtain ⟨lx, hlx⟩ := hx
  rcases Mp.find hK (w := w) (b := b) h4 h3 ⟨lx, hlx⟩ with ⟨q1, q2⟩ | ⟨j, e0, q1, q2, q3⟩
  · refine Rv.mk (w' := setBlock w b (.map es c)) ?_ (hk _ _ (.no q2) ⟨⟨_, _, setB_same _ _ _ h1, h2, h3⟩, h4⟩ (grownBy_setBlock _ _ _))
    simp [Builtin.delete_, run_underlying hu, MapKept.run_getObj_map h1, hK.check w _ hlx, q1, MapKept.run_setObj_map _ h1, setBlock]
  · obtain ⟨A, B, e1, _, e2⟩ := kvs_modify (v := x) q2 q3
    refine Rv.mk (w' := setBlock w b (.map (es.eraseIdxIfInBounds j) c)) ?_ (hk _ _ (.yes A B e0.val (h3.symm.trans e1)) ⟨⟨_, _, setB_same _ _ _ h1, stamped_erase h2 j, e2⟩, ?_⟩ (grownBy_setBlock _ _ _))
    · simp [Builtin.delete_, run_underlying hu, MapKept.run_getObj_map h1, hK.check w _ hlx, q1, MapKept.run_setObj_map _ h1, setBlock]
    · intro p hp
      rw [← h3, e1] at h4
      refine h4 p ?_
      simp only [List.mem_append, List.mem_cons] at hp ⊢
      rcases hp with hp | hp
      · exact .inl hp
      · exact .inr (.inr hp)
omit hK in
theorem Rv.mlen {w : World} {K : Value → World → Prop} {t e ty : TypeId} {s b' : Nat} {z : Value} {b : Nat} {l : List (Value × Value)} (ht : look T t = some ⟨.map k e, s, b', z⟩)
    (h : Mp P k w b l) (hk : K (.int .i64 l.length) w) : Rv P (Builtin.len_ #[t] ty #[.map (some b)]) w K := by
  have hu := und_map hT ht
  obtain ⟨⟨es, c, h1, h2, rfl⟩, h4⟩ := h
  refine Rv.mk (w' := w) (v := .int .i64 (kvs es).length) ?_ hk
  simp [Builtin.len_, run_underlying hu, MapKept.run_getObj_map h1, goInt, kvs]
end

/-! ### A loop over a map -/
/-- block r goes over the map b; these entries are still to come -/
structure It (w : World) (r b : Nat) (l left : List (Value × Value)) : Prop where
  of : ∃ es clock since seen c0, w.heap[b]? = some (.map es clock) ∧ Stamped es clock ∧ kvs es = l ∧ w.heap[r]? = some (.mapIter (some b) since seen c0) ∧ (∀ x ∈ es.toList, x.born < since) ∧ since ≤ c0 ∧ since ≤ clock ∧ left = (leftOf es seen).toList.map kv

theorem It.lt {w : World} {r b : Nat} {l left : List (Value × Value)} (h : It w r b l left) : b < w.heap.size ∧ r < w.heap.size := by
  obtain ⟨es, c, since, seen, c0, h1, h2, h3, h4, h5⟩ := h
  exact ⟨(Array.getElem?_eq_some_iff.1 h1).1, (Array.getElem?_eq_some_iff.1 h4).1⟩
theorem It.keep {w w' : World} {r b : Nat} {l left : List (Value × Value)} (h : It w r b l left) (hb : w'.heap[b]? = w.heap[b]?) (hr : w'.heap[r]? = w.heap[r]?) : It w' r b l left := by
  obtain ⟨es, c, since, seen, c0, h1, h2, h3, h4, h5⟩ := h
  exact ⟨es, c, since, seen, c0, hb.trans h1, h2, h3, hr.trans h4, h5⟩
theorem It.grown {w w' : World} {r b : Nat} {l left : List (Value × Value)} {row : Option Nat} (h : It w r b l left) (hg : w.grownBy w' row) (h1 : some b ≠ row) (h2 : some r ≠ row) : It w' r b l left :=
  h.keep (hg.block b h.lt.1 h1) (hg.block r h.lt.2 h2)
theorem It.below {w w' : World} {r b B : Nat} {l left : List (Value × Value)} (h : It w r b l left) (hb : Below B w w') (h1 : b < B) (h2 : r < B) : It w' r b l left :=
  h.keep (hb.block b h1) (hb.block r h2)
theorem It.map {P : Program} {k : TypeId} {w : World} {r b : Nat} {l left : List (Value × Value)} (h : It w r b l left) (hg : ∀ p ∈ l, Good P k p.1) : Mp P k w b l := by
  obtain ⟨es, c, since, seen, c0, h1, h2, h3, h4, h5⟩ := h
  exact ⟨⟨es, c, h1, h2, h3⟩, hg⟩

section
variable {P : Program} {T : Tab} (hT : TabOk P T) {k : TypeId}
include hT
theorem Rv.range {w : World} {K : Value → World → Prop} {t e : TypeId} {s b' : Nat} {z : Value} {b : Nat} {l : List (Value × Value)} (ht : look T t = some ⟨.map k e, s, b', z⟩) (h : Mp P k w b l)
    (hk : ∀ w', It w' w.heap.size b l l → w.grownBy w' none → K (.pointer (some ⟨w.heap.size, 0, none⟩)) w') : Rv P (Instr.range t (.map (some b))) w K := by
  have hu := und_map hT ht
  obtain ⟨⟨es, c, h1, h2, h3⟩, h4⟩ := h
  have hlt : b < w.heap.size := (Array.getElem?_eq_some_iff.1 h1).1
  refine Rv.mk (w' := w.alloc (.mapIter (some b) c #[] c)) ?_ (hk _ ⟨es, c, c, #[], c, ?_, h2, h3, heap_alloc_new w _, h2.1, Nat.le_refl _, Nat.le_refl _, ?_⟩ (World.grownBy_alloc w _ none))
  · simp [Instr.range, run_underlying hu, MapKept.run_getObj_map h1]
  · rw [Below.heap_alloc w _ b hlt]; exact h1
  · have : leftOf es #[] = es := by unfold leftOf; simp
    rw [this, ← h3]; rfl
/-- over no map -/
theorem Rv.rangeN {w : World} {K : Value → World → Prop} {t e : TypeId} {s b' : Nat} {z : Value} (ht : look T t = some ⟨.map k e, s, b', z⟩)
    (hk : ∀ w', w'.heap[w.heap.size]? = some (.mapIter none 0 #[] 0) → w.grownBy w' none → K (.pointer (some ⟨w.heap.size, 0, none⟩)) w') : Rv P (Instr.range t (.map none)) w K := by
  have hu := und_map hT ht
  refine Rv.mk (w' := w.alloc (.mapIter none 0 #[] 0)) ?_ (hk _ (heap_alloc_new w _) (World.grownBy_alloc w _ none))
  simp [Instr.range, run_underlying hu]
omit hT in
theorem Rv.nextN {w : World} {K : Value → World → Prop} {ty : TypeId} {r : Nat} (h : w.heap[r]? = some (.mapIter none 0 #[] 0)) (hk : K (.tuple #[.bool false]) w) : Rv P (Instr.next (.pointer (some ⟨r, 0, none⟩)) false ty) w K := by
  refine Rv.mk (w' := w) ?_ hk
  simp [Instr.next, getObj, Sem.run, h, Result.andThen]

omit hT in
theorem Rv.next {w : World} {K : Value → World → Prop} {ty : TypeId} {r b : Nat} {l left : List (Value × Value)} (h : It w r b l left)
    (h0 : left = [] → K (.tuple #[.bool false]) w)
    (h1 : ∀ p left' w', p ∈ left → p ∈ l → left'.length < left.length → (∀ q ∈ left, q = p ∨ q ∈ left') → (∀ q ∈ left', q ∈ left ∧ q.1 ≠ p.1) → It w' r b l left' → w.grownBy w' (some r) → K (.tuple #[.bool true, p.1, p.2]) w') :
    Rv P (Instr.next (.pointer (some ⟨r, 0, none⟩)) false ty) w K := by
  obtain ⟨es, c, since, seen, c0, e1, e2, e3, e4, e5, e6, e7, rfl⟩ := h
  rcases run_next_at (P := P) w ty r b since c0 seen es c e4 e1 e5 e6 with ⟨q1, q2⟩ | ⟨e, he, w1, hw1, q2⟩
  · refine Rv.mk q2 (h0 ?_)
    rw [Array.eq_empty_of_size_eq_zero q1]; rfl
  · have hml := mem_left he
    have hr1 : w1.heap[r]? = some (.mapIter (some b) since seen c0) := by rcases hw1 with rfl | rfl <;> exact e4
    have hb1 : w1.heap[b]? = some (.map es c) := by rcases hw1 with rfl | rfl <;> exact e1
    have hne : r ≠ b := fun hh => by subst hh; rw [e4] at e1; cases e1
    refine Rv.mk q2 (h1 (kv e) ((leftOf es (seen.push e.born)).toList.map kv) _ (List.mem_map_of_mem he) ?_ ?_ ?_ ?_ ⟨es, c, since, seen.push e.born, c, ?_, e2, e3, setB_same _ _ _ hr1, e5, e7, e7, rfl⟩ ?_)
    · rw [← e3]; exact List.mem_map_of_mem hml.1
    · have := left_shrinks es seen e he
      simpa using this
    · intro q hq
      obtain ⟨x, hx, rfl⟩ := List.mem_map.1 hq
      by_cases hb : x.born = e.born
      · have hxm := mem_left hx
        left
        have := find_born x es.toList e2.2.1 hxm.1
        have h' := find_born e es.toList e2.2.1 hml.1
        rw [hb, h'] at this
        injection this with this
        rw [this]
      · right
        refine List.mem_map_of_mem ?_
        have hxm := mem_left hx
        unfold leftOf
        simp only [Array.toList_filter, List.mem_filter]
        refine ⟨hxm.1, ?_⟩
        have h2 := hxm.2
        simp only [Array.contains_push, Bool.not_or, Bool.and_eq_true, Bool.not_eq_true', beq_eq_false_iff_ne]
        exact ⟨h2, hb⟩
    · intro q hq
      obtain ⟨x, hx, rfl⟩ := List.mem_map.1 hq
      have hxm := mem_left hx
      have h2 := hxm.2
      simp only [Array.contains_push, Bool.or_eq_false_iff, beq_eq_false_iff_ne] at h2
      refine ⟨List.mem_map_of_mem ?_, ?_⟩
      · unfold leftOf
        simp only [Array.toList_filter, List.mem_filter]
        exact ⟨hxm.1, by simpa using h2.1⟩
      · intro hk
        have hxe : x = e := entry_eq_of_key' e2.2.2 hxm.1 hml.1 hk
        subst hxe
        exact h2.2 rfl
    · rw [setB_other _ _ _ (fun hh => hne hh.symm)]; exact hb1
    · rcases hw1 with rfl | rfl
      · exact grownBy_setBlock _ _ _
      · exact ⟨rfl, rfl, rfl, by simp [setBlock], fun i _ hi => setB_other _ _ _ (fun e => hi (by rw [e]))⟩
where
  entry_eq_of_key' {l : List MapEntry} (h : (l.map (·.key)).Nodup) {x y : MapEntry} (hx : x ∈ l) (hy : y ∈ l) (hk : x.key = y.key) : x = y := by
    induction l with
    | nil => simp at hx
    | cons a l ih =>
      simp only [List.map_cons, List.nodup_cons] at h
      rcases List.mem_cons.1 hx with rfl | hx' <;> rcases List.mem_cons.1 hy with rfl | hy'
      · rfl
      · exact absurd (hk ▸ List.mem_map_of_mem (f := (·.key)) hy') h.1
      · exact absurd (hk ▸ List.mem_map_of_mem (f := (·.key)) hx') h.1
      · exact ih h.2 hx' hy'
end
end Go.Proofs.Ytlldgodjfpgbcaa
