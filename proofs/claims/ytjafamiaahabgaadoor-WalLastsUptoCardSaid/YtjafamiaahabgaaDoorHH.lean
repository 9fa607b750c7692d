/- Slices and bytes over the layer: loads, stores, make, append, copy, rows of rows, literals. Nothing is claimed here. -/
import Derived.Test.YtjafamiaahabgaaDoorVV
import Derived.Laws.AppendOwnNone
import Derived.Laws.CopyOwn
import Derived.Laws.OwnMore
import Derived.Lib.OwnKind
import Derived.Laws.CopyRow
import Derived.Lib.AppendZerosOnto
import Derived.Laws.BytesArg
import Derived.WideShapes
namespace Go.Proofs.YtjafamiaahabgaaDoor
open Go.RowKit
set_option linter.unusedVariables false
set_option linter.unusedSimpArgs false

section
variable {P : Program} {T : Tab} (hT : TabOk P T)
include hT
theorem Ld.one {w : World} {t : TypeId} {a : Addr} {K : Value → Prop} {v : Value} {d : Td} (hl : look T t = some d) (ha : d.sh.agg = false) (hc : w.cell? a = some v) (hk : K v) : Ld P w t a K := by
  refine Ld.mk ?_ hk
  have h1 := (hT _ _ hl).run_agg w
  rw [ha] at h1
  simp only [loadVar, Sem.run_bind, h1, Result.andThen_ok, Bool.false_eq_true, if_false, run_load, hc]

omit hT in
theorem loadCellsFrom_run {w : World} {a : Addr} : ∀ (vs : List Value) (i : Nat) (acc : Array Value), (∀ j x, vs[j]? = some x → w.cell? (a.add (i + j)) = some x) →
    (loadCellsFrom a i vs.length acc).run P w = .ok (acc ++ vs.toArray) w
  | [], _, _, _ => by simp [loadCellsFrom]
  | v :: vs, i, acc, h => by
    have h0 := h 0 v (by simp)
    simp only [Nat.add_zero] at h0
    have := loadCellsFrom_run vs (i + 1) (acc.push v) (fun j x hj => by have := h (j + 1) x (by simpa using hj); rwa [show i + (j + 1) = i + 1 + j from by omega] at this)
    simp only [List.length_cons, loadCellsFrom, Sem.run_bind, run_load, h0, Result.andThen_ok, this]
    simp

theorem Ld.agg {w : World} {t : TypeId} {b o : Nat} {K : Value → Prop} {vs : List Value} {d : Td} (hl : look T t = some d) (ha : d.sh.agg = true) (hn : vs.length = d.size)
    (hc : ∀ j x, vs[j]? = some x → w.cell? ⟨b, o + j, none⟩ = some x) (hk : K (.agg vs.toArray)) : Ld P w t ⟨b, o, none⟩ K := by
  refine Ld.mk ?_ hk
  have h1 := (hT _ _ hl).run_agg w
  rw [ha] at h1
  have h2 := (hT _ _ hl).run_size w
  have h3 := loadCellsFrom_run (P := P) (w := w) (a := ⟨b, o, none⟩) vs 0 #[] (fun j x hj => by rw [Addr.add_lit, Nat.zero_add]; exact hc j x hj)
  rw [hn] at h3
  simp only [loadVar, Sem.run_bind, h1, Result.andThen_ok, if_true, h2, loadCells, h3, Sem.run_pure]
  simp

theorem St.one {w : World} {t : TypeId} {a : Addr} {K : World → Prop} {v u : Value} {d : Td} (hl : look T t = some d) (hs : d.size = 1) (hv : cellsL v = [v]) (h1 : v.oneCell' = true) (hc : w.cell? a = some u) (hf : w.frozen? a = false) (hk : K (w.setCell a v)) : St P w t a v K := by
  refine St.mk ?_ hk
  have hz := (hT _ _ hl).run_size w
  rw [hs] at hz
  have hcs : v.cells = #[v] := by rw [cellsL_eq, hv]
  have hst : (store (a.add 0) v).run P w = .ok () (w.setCell a v) := by
    rw [run_store P w _ v _ h1]
    simp [Addr.add, hc, hf]
  simp [storeVar, hz, hcs, storeCells, hst]

/-- a store of several cells -/
theorem St.agg {w : World} {t : TypeId} {b o : Nat} {K : World → Prop} {vs : List Value} {e : TypeId} {cur : Array Value} {d : Td} (hl : look T t = some d) (hn : vs.length = d.size) (h1 : ∀ u ∈ vs, u.oneCell' = true)
    (hg : w.heap[b]? = some (.cells cur e (0, 0))) (hfit : o + vs.length ≤ cur.size)
    (hk : K (w.setRow b (cur.toList.take o ++ vs ++ cur.toList.drop (o + vs.length)).toArray)) : St P w t ⟨b, o, none⟩ (.agg vs.toArray) K := by
  refine St.mk ?_ hk
  have hz := (hT _ _ hl).run_size w
  have := run_storeCells_at P b o e vs 0 cur w hg (by simpa using hfit) h1
  simp only [Nat.add_zero] at this
  simp [storeVar, hz, Value.cells, hn, this]
end

/-! ### A row of cells; a slice that is read -/
/-- block b holds these from o on -/
def Row (w : World) (b o : Nat) (xs : List Value) : Prop := ∀ i x, xs[i]? = some x → w.cell? ⟨b, o + i, none⟩ = some x

theorem Row.at {w : World} {b o : Nat} {xs : List Value} (h : Row w b o xs) {i : Nat} {x : Value} (hx : xs[i]? = some x) {o' : Nat} (ho : o' = o + i) : w.cell? ⟨b, o', none⟩ = some x := by
  subst ho; exact h i x hx
theorem Row.drop {w : World} {b o : Nat} {xs : List Value} (h : Row w b o xs) (k : Nat) : Row w b (o + k) (xs.drop k) := fun i x hx => by
  rw [Nat.add_assoc]
  exact h (k + i) x (by simpa using hx)
theorem Row.take {w : World} {b o : Nat} {xs : List Value} (h : Row w b o xs) (k : Nat) : Row w b o (xs.take k) := fun i x hx => by
  rw [List.getElem?_take] at hx
  split at hx
  · exact h i x hx
  · cases hx
theorem Row.left {w : World} {b o : Nat} {xs ys : List Value} (h : Row w b o (xs ++ ys)) : Row w b o xs := fun i x hx => by
  have := (List.getElem?_eq_some_iff.1 hx).1
  exact h i x (by rw [List.getElem?_append_left this]; exact hx)
theorem Row.of_block {w w' : World} {b o : Nat} {xs : List Value} (h : Row w b o xs) (hb : w'.heap[b]? = w.heap[b]?) : Row w' b o xs := fun i x hx => by
  have := h i x hx
  rwa [World.cell?_of_block (w := w) (w' := w') (a := ⟨b, o + i, none⟩) hb]
theorem Row.lt {w : World} {b o : Nat} {xs : List Value} (h : Row w b o xs) (hx : xs ≠ []) : b < w.heap.size := by
  cases xs with
  | nil => exact absurd rfl hx
  | cons x xs => exact World.block_lt_of_cell? w _ (h 0 x (by simp))

/-- a slice of one-cell elements that may be read -/
structure Sl (w : World) (v : Value) (xs : List Value) : Prop where
  of : ∃ a c, v = .slice a xs.length c ∧ xs.length ≤ c ∧ c ≤ maxLen ∧ (a = none → c = 0) ∧ (∀ ad, a = some ad → xs ≠ [] → ad.spot = none ∧ Row w ad.block ad.off xs)

theorem Row.cells {w : World} {ad : Addr} {xs : List Value} (h : xs ≠ [] → ad.spot = none ∧ Row w ad.block ad.off xs) : ∀ j u, xs[j]? = some u → w.cell? (ad.add j) = some u := fun j u hj => by
  obtain ⟨h1, h2⟩ := h (fun e => by subst e; simp at hj)
  obtain ⟨b, o, s⟩ := ad
  simp only at h1; subst h1
  rw [Addr.add_lit]
  exact h2 j u hj
theorem Row.of_cells {w : World} {b o : Nat} {xs : List Value} (h : ∀ j u, xs[j]? = some u → w.cell? ((⟨b, o, none⟩ : Addr).add j) = some u) : Row w b o xs := fun j u hj => by
  have := h j u hj
  rwa [Addr.add_lit] at this
/-- an empty one may lie anywhere -/
theorem Sl.cases {w : World} {v : Value} {xs : List Value} (h : Sl w v xs) : (v = .slice none 0 0 ∧ xs = []) ∨ ∃ ad c, v = .slice (some ad) xs.length c ∧ xs.length ≤ c ∧ c ≤ maxLen ∧ (∀ j u, xs[j]? = some u → w.cell? (ad.add j) = some u) := by
  obtain ⟨a, c, rfl, h1, h2, h3, h4⟩ := h.of
  cases a with
  | none =>
    have hc := h3 rfl
    subst hc
    have hx : xs = [] := List.eq_nil_of_length_eq_zero (by omega)
    subst hx
    exact .inl ⟨rfl, rfl⟩
  | some ad => exact .inr ⟨ad, c, rfl, h1, h2, Row.cells (h4 _ rfl)⟩
theorem Sl.shape {w : World} {v : Value} {xs : List Value} (h : Sl w v xs) : ∃ a c, v = .slice a xs.length c := by
  obtain ⟨a, c, he, _⟩ := h.of
  exact ⟨a, c, he⟩
theorem Sl.nil (w : World) : Sl w (.slice none 0 0) [] := ⟨none, 0, rfl, Nat.le_refl _, by simp [maxLen], fun _ => rfl, fun _ h => by cases h⟩
theorem Sl.some' {w : World} {b o n c : Nat} {xs : List Value} (hn : n = xs.length) (hc : xs.length ≤ c) (hm : c ≤ maxLen) (h : Row w b o xs) : Sl w (.slice (some ⟨b, o, none⟩) n c) xs := by
  subst hn
  exact ⟨_, c, rfl, hc, hm, nofun, (fun ad had _ => by injection had with had; subst had; exact ⟨rfl, h⟩)⟩
theorem Sl.len {w : World} {a : Option Addr} {n c : Nat} {xs : List Value} (h : Sl w (.slice a n c) xs) : n = xs.length ∧ n ≤ c ∧ c ≤ maxLen := by
  obtain ⟨a', c', he, h1, h2, _⟩ := h.of
  injection he with _ e2 e3
  subst e3
  exact ⟨e2, by omega, h2⟩
theorem Sl.le {w : World} {v : Value} {xs : List Value} (h : Sl w v xs) : xs.length ≤ 9223372036854775807 := by
  obtain ⟨a, c, _, h1, h2, _⟩ := h.of
  simp only [maxLen] at h2
  omega
/-- where there is an element there is an address -/
theorem Sl.addr {w : World} {a : Option Addr} {n c : Nat} {xs : List Value} (h : Sl w (.slice a n c) xs) (hx : 0 < n) : ∃ b o, a = some ⟨b, o, none⟩ ∧ Row w b o xs := by
  obtain ⟨a', c', he, h1, h2, h3, h4⟩ := h.of
  injection he with e1 e2 e3
  subst e1; subst e3
  cases a with
  | none => have := h3 rfl; omega
  | some ad =>
    obtain ⟨b, o, s⟩ := ad
    obtain ⟨hs, hr⟩ := h4 _ rfl (fun e => by subst e; simp at e2; omega)
    simp only at hs; subst hs
    exact ⟨b, o, rfl, hr⟩
/-- its block, if it has one, lies below B -/
def Value.under (v : Value) (B : Nat) : Prop := ∀ k, v.ownBlock = some k → k < B
theorem Sl.keep {w w' : World} {v : Value} {xs : List Value} (h : Sl w v xs) (hb : ∀ k, v.ownBlock = some k → xs ≠ [] → w'.heap[k]? = w.heap[k]?) : Sl w' v xs := by
  obtain ⟨a, c, rfl, h1, h2, h3, h4⟩ := h.of
  exact ⟨a, c, rfl, h1, h2, h3, fun ad had hx => ⟨(h4 ad had hx).1, ((h4 ad had hx).2).of_block (hb _ (by subst had; rfl) hx)⟩⟩
/-- below B the world has stayed: what is read there is read still -/
theorem Sl.below {w w' : World} {v : Value} {xs : List Value} (h : Sl w v xs) (hb : Below w.heap.size w w') : Sl w' v xs := by
  obtain ⟨a, c, rfl, h1, h2, h3, h4⟩ := h.of
  exact ⟨a, c, rfl, h1, h2, h3, fun ad had hx => ⟨(h4 ad had hx).1, ((h4 ad had hx).2).of_block (hb.block _ ((h4 ad had hx).2.lt hx))⟩⟩
theorem Sl.of_own {w : World} {base : Nat} {e : TypeId} {v : Value} {n : Nat} {xs : List Value} (h : w.ownsRow base e 1 v n xs) : Sl w v xs := by
  have hn : xs.length = n := by simpa using h.1
  rcases h.2 with ⟨rfl, rfl⟩ | ⟨g, cap, cur, rfl, _, hg, hc, hm, hs, ht⟩
  · have : xs = [] := List.eq_nil_of_length_eq_zero hn
    subst this
    exact Sl.nil _
  · subst hn
    refine Sl.some' rfl hc hm (fun i x hx => ?_)
    have := h.cells (g := g) rfl i x hx
    rwa [Addr.add_lit] at this
theorem own_len {w : World} {base : Nat} {e : TypeId} {v : Value} {n : Nat} {xs : List Value} (h : w.ownsRow base e 1 v n xs) : n = xs.length := by simpa using h.1.symm

theorem Sl.take {w : World} {b o n c : Nat} {xs : List Value} (h : Sl w (.slice (some ⟨b, o, none⟩) n c) xs) {k : Nat} (hk : k ≤ xs.length) {c' : Nat} (h1 : k ≤ c') (h2 : c' ≤ c) : Sl w (.slice (some ⟨b, o, none⟩) k c') (xs.take k) := by
  obtain ⟨a', c0, he, e1, e2, _, e4⟩ := h.of
  injection he with he1 he2 he3
  subst he1; subst he3
  exact Sl.some' (by simp; omega) (by simp; omega) (by omega) ((Row.of_cells (Row.cells (e4 _ rfl))).take k)
theorem Sl.drop {w : World} {b o n c : Nat} {xs : List Value} (h : Sl w (.slice (some ⟨b, o, none⟩) n c) xs) {k : Nat} (hk : k ≤ xs.length) {o' n' c' : Nat} (ho : k < c → o' = o + k) (hn : n' = n - k) (hc : c' = c - k) : Sl w (.slice (some ⟨b, o', none⟩) n' c') (xs.drop k) := by
  obtain ⟨hl, hnc, hcm⟩ := h.len
  obtain ⟨a', c0, he, e1, e2, _, e4⟩ := h.of
  injection he with he1 he2 he3
  subst he1; subst he3
  by_cases hkc : k < c
  · rw [ho hkc]
    exact Sl.some' (by simp; omega) (by simp; omega) (by omega) ((Row.of_cells (Row.cells (e4 _ rfl))).drop k)
  · have : xs.drop k = [] := List.drop_eq_nil_of_le (by omega)
    rw [this]
    exact Sl.some' (by simp; omega) (by simp) (by omega) (fun i x hx => by simp at hx)

/-! ### A block that is known whole -/
def Blk (w : World) (b : Nat) (cs : List Value) (e : TypeId) : Prop := w.heap[b]? = some (.cells cs.toArray e (0, 0))
theorem Blk.cell {w : World} {b : Nat} {cs : List Value} {e : TypeId} (h : Blk w b cs e) {i : Nat} {v : Value} (hv : cs[i]? = some v) : w.cell? ⟨b, i, none⟩ = some v := by
  rw [cell_of_row w b i _ e (0, 0) h]; simpa using hv
theorem Blk.row {w : World} {b : Nat} {cs : List Value} {e : TypeId} (h : Blk w b cs e) : Row w b 0 cs := fun i x hx => by rw [Nat.zero_add]; exact h.cell hx
theorem Blk.nofz {w : World} {b : Nat} {cs : List Value} {e : TypeId} (h : Blk w b cs e) (i : Nat) : w.frozen? ⟨b, i, none⟩ = false := by
  simp only [World.frozen?, show w.heap[b]? = _ from h]
  simp
theorem Blk.lt {w : World} {b : Nat} {cs : List Value} {e : TypeId} (h : Blk w b cs e) : b < w.heap.size := (Array.getElem?_eq_some_iff.1 h).1
theorem Blk.keep {w w' : World} {b : Nat} {cs : List Value} {e : TypeId} (h : Blk w b cs e) (hb : w'.heap[b]? = w.heap[b]?) : Blk w' b cs e := hb.trans h
theorem Blk.grown {w w' : World} {b : Nat} {cs : List Value} {e : TypeId} {row : Option Nat} (h : Blk w b cs e) (hg : w.grownBy w' row) (hr : some b ≠ row) : Blk w' b cs e := h.keep (hg.block b h.lt hr)
theorem Blk.below {w w' : World} {b B : Nat} {cs : List Value} {e : TypeId} (h : Blk w b cs e) (hb : Below B w w') (hB : b < B) : Blk w' b cs e := h.keep (hb.block b hB)
theorem Blk.set {w : World} {b : Nat} {cs : List Value} {e : TypeId} (h : Blk w b cs e) (i : Nat) (v : Value) : Blk (w.setCell ⟨b, i, none⟩ v) b (cs.set i v) e := by
  have h' : w.heap[b]? = some (.cells cs.toArray e (0, 0)) := h
  unfold Blk
  simp only [World.setCell, Array.getElem?_modify, if_true, h', Option.map_some]
  simp
theorem grownBy_set (w : World) (b i : Nat) (v : Value) : w.grownBy (w.setCell ⟨b, i, none⟩ v) (some b) :=
  ⟨rfl, rfl, rfl, by simp [World.setCell], fun k hk hne => Below.heap_setCell _ _ _ _ (fun e => hne (by rw [e]))⟩
theorem grownBy_setRow (w : World) (b : Nat) (cs : Array Value) : w.grownBy (w.setRow b cs) (some b) :=
  ⟨rfl, rfl, rfl, by simp [World.setRow], fun k _ hk => setRow_other w b k _ (fun e => hk (by rw [e]))⟩

theorem Nw.cells {w : World} {K : Nat → World → Prop} {cs : List Value} {e : TypeId} (h : ∀ b w', b = w.heap.size → Blk w' b cs e → w.grownBy w' none → b < w'.heap.size → K b w') : Nw w (.cells cs.toArray e) K :=
  Nw.mk (h _ _ rfl (heap_alloc_new w _) (World.grownBy_alloc w _ none) (by simp))

section
variable {P : Program} {T : Tab} (hT : TabOk P T)
include hT
theorem Ld.blk {w : World} {t e : TypeId} {b i : Nat} {cs : List Value} {K : Value → Prop} {v : Value} {d : Td} (hl : look T t = some d) (ha : d.sh.agg = false) (hb : Blk w b cs e) (hv : cs[i]? = some v) (hk : K v) : Ld P w t ⟨b, i, none⟩ K :=
  Ld.one hT hl ha (hb.cell hv) hk
theorem St.blk {w : World} {t e : TypeId} {b i : Nat} {cs : List Value} {K : World → Prop} {v : Value} {d : Td} (hl : look T t = some d) (hs : d.size = 1) (hb : Blk w b cs e) (hi : i < cs.length) (hv : cellsL v = [v]) (h1 : v.oneCell' = true)
    (hk : ∀ w', Blk w' b (cs.set i v) e → w.grownBy w' (some b) → K w') : St P w t ⟨b, i, none⟩ v K :=
  St.one hT hl hs hv h1 (hb.cell (List.getElem?_eq_getElem hi)) (hb.nofz i) (hk _ (hb.set i v) (grownBy_set w b i v))
theorem St.blks {w : World} {t e : TypeId} {b i : Nat} {cs vs : List Value} {K : World → Prop} {d : Td} (hl : look T t = some d) (hs : vs.length = d.size) (hb : Blk w b cs e) (hi : i + vs.length ≤ cs.length) (h1 : ∀ u ∈ vs, u.oneCell' = true)
    (hk : ∀ w', Blk w' b (cs.take i ++ vs ++ cs.drop (i + vs.length)) e → w.grownBy w' (some b) → K w') : St P w t ⟨b, i, none⟩ (.agg vs.toArray) K :=
  St.agg hT hl hs h1 (show w.heap[b]? = some (.cells cs.toArray e (0, 0)) from hb) (by simpa using hi) (hk _ (by
    have := setRow_heap w b cs.toArray (cs.take i ++ vs ++ cs.drop (i + vs.length)).toArray e (0, 0) hb
    simpa [Blk] using this) (by simpa using grownBy_setRow w b _))
theorem Ld.blks {w : World} {t e : TypeId} {b i : Nat} {cs : List Value} (vs : List Value) {K : Value → Prop} {d : Td} (hl : look T t = some d) (ha : d.sh.agg = true) (hb : Blk w b cs e) (hn : vs.length = d.size) (hv : ∀ j x, vs[j]? = some x → cs[i + j]? = some x) (hk : K (.agg vs.toArray)) : Ld P w t ⟨b, i, none⟩ K :=
  Ld.agg hT hl ha hn (fun j x hx => hb.cell (hv j x hx)) hk
end

/-! ### Bytes -/
def u8 (b : UInt8) : Value := .int .u8 (b.toNat : Int)
def bv (l : List UInt8) : List Value := l.map u8
@[simp] theorem bv_length (l : List UInt8) : (bv l).length = l.length := by simp [bv]
@[simp] theorem bv_nil : bv [] = [] := rfl
theorem bv_append (l m : List UInt8) : bv (l ++ m) = bv l ++ bv m := by simp [bv]
theorem bv_take (l : List UInt8) (k : Nat) : bv (l.take k) = (bv l).take k := by simp [bv]
theorem bv_drop (l : List UInt8) (k : Nat) : bv (l.drop k) = (bv l).drop k := by simp [bv]
theorem bv_get {l : List UInt8} {i : Nat} {b : UInt8} (h : l[i]? = some b) : (bv l)[i]? = some (.int .u8 (b.toNat : Int)) := by simp [bv, h, u8]
theorem bv_one (l : List UInt8) : ∀ u ∈ bv l, u.oneCell' = true := by
  intro u hu
  obtain ⟨b, _, rfl⟩ := List.mem_map.1 hu
  rfl
theorem u8_mk (n : Int) (h0 : 0 ≤ n) (h1 : n < 256) : (.int .u8 n : Value) = u8 (UInt8.ofNat n.toNat) := by
  unfold u8
  congr 1
  simp only [UInt8.toNat_ofNat']
  omega
theorem u8_lt (b : UInt8) : (b.toNat : Int) < 256 := by have := b.toNat_lt; omega

end Go.Proofs.YtjafamiaahabgaaDoor

namespace Go.Proofs.YtjafamiaahabgaaDoor
open Go.RowKit
set_option linter.unusedVariables false
set_option linter.unusedSimpArgs false

/-- a slice of n elements of sz cells each that may be read -/
structure SlN (w : World) (sz : Nat) (v : Value) (n : Nat) (xs : List Value) : Prop where
  len : xs.length = n * sz
  of : ∃ a c, v = .slice a n c ∧ n ≤ c ∧ c ≤ maxLen ∧ (a = none → c = 0) ∧ (∀ ad, a = some ad → xs ≠ [] → ad.spot = none ∧ Row w ad.block ad.off xs)
theorem Sl.toN {w : World} {v : Value} {xs : List Value} (h : Sl w v xs) : SlN w 1 v xs.length xs := ⟨by simp, h.of⟩
theorem SlN.to1 {w : World} {v : Value} {n : Nat} {xs : List Value} (h : SlN w 1 v n xs) : Sl w v xs := by
  have : n = xs.length := by simpa using h.len.symm
  subst this
  exact ⟨h.of⟩
theorem SlN.cases {w : World} {sz : Nat} {v : Value} {n : Nat} {xs : List Value} (h : SlN w sz v n xs) : (v = .slice none 0 0 ∧ n = 0 ∧ xs = []) ∨ ∃ ad c, v = .slice (some ad) n c ∧ n ≤ c ∧ c ≤ maxLen ∧ (∀ j u, xs[j]? = some u → w.cell? (ad.add j) = some u) := by
  obtain ⟨a, c, rfl, h1, h2, h3, h4⟩ := h.of
  cases a with
  | none =>
    have hc := h3 rfl
    subst hc
    have hn : n = 0 := by omega
    subst hn
    exact .inl ⟨rfl, rfl, List.eq_nil_of_length_eq_zero (by simpa using h.len)⟩
  | some ad => exact .inr ⟨ad, c, rfl, h1, h2, Row.cells (h4 _ rfl)⟩
theorem SlN.nil (w : World) (sz : Nat) : SlN w sz (.slice none 0 0) 0 [] := ⟨by simp, none, 0, rfl, Nat.le_refl _, by simp [maxLen], fun _ => rfl, fun _ h => by cases h⟩
theorem SlN.some' {w : World} {sz b o n c : Nat} {xs : List Value} (hl : xs.length = n * sz) (hc : n ≤ c) (hm : c ≤ maxLen) (h : Row w b o xs) : SlN w sz (.slice (some ⟨b, o, none⟩) n c) n xs :=
  ⟨hl, _, c, rfl, hc, hm, nofun, (fun ad had _ => by injection had with had; subst had; exact ⟨rfl, h⟩)⟩
theorem SlN.keep {w w' : World} {sz n : Nat} {v : Value} {xs : List Value} (h : SlN w sz v n xs) (hb : ∀ k, v.ownBlock = some k → xs ≠ [] → w'.heap[k]? = w.heap[k]?) : SlN w' sz v n xs := by
  obtain ⟨hl, a, c, rfl, h1, h2, h3, h4⟩ := h
  exact ⟨hl, a, c, rfl, h1, h2, h3, fun ad had hx => ⟨(h4 ad had hx).1, ((h4 ad had hx).2).of_block (hb _ (by subst had; rfl) hx)⟩⟩
theorem SlN.lt {w : World} {sz n : Nat} {v : Value} {xs : List Value} (h : SlN w sz v n xs) {k : Nat} (hk : v.ownBlock = some k) (hx : xs ≠ []) : k < w.heap.size := by
  obtain ⟨hl, a, c, rfl, h1, h2, h3, h4⟩ := h
  cases a with
  | none => cases hk
  | some ad =>
    injection hk with hk
    subst hk
    exact (h4 ad rfl hx).2.lt hx
theorem SlN.below {w w' : World} {sz n : Nat} {v : Value} {xs : List Value} (h : SlN w sz v n xs) (hb : Below w.heap.size w w') : SlN w' sz v n xs :=
  h.keep fun k hk hx => hb.block _ (h.lt hk hx)
theorem SlN.of_own {w : World} {base sz : Nat} {e : TypeId} {v : Value} {n : Nat} {xs : List Value} (h : w.ownsRow base e sz v n xs) : SlN w sz v n xs := by
  rcases h.2 with ⟨rfl, rfl⟩ | ⟨g, cap, cur, rfl, _, hg, hc, hm, hs, ht⟩
  · have : xs = [] := List.eq_nil_of_length_eq_zero (by simpa using h.1)
    subst this
    exact SlN.nil _ _
  · refine SlN.some' h.1 hc hm (fun i x hx => ?_)
    have := h.cells (g := g) rfl i x hx
    rwa [Addr.add_lit] at this

theorem own_keep0 {w w' : World} {base : Nat} {e : TypeId} {sz : Nat} {v : Value} {n : Nat} {xs : List Value} (h : w.ownsRow base e sz v n xs) (hg : w.grownBy w' none) : w'.ownsRow base e sz v n xs :=
  h.kept hg (by cases hv : v.ownBlock <;> simp)
theorem own_below {w w' : World} {base B : Nat} {e : TypeId} {sz : Nat} {v : Value} {n : Nat} {xs : List Value} (h : w.ownsRow base e sz v n xs) (hb : Below B w w') (hB : w.heap.size ≤ B) : w'.ownsRow base e sz v n xs := by
  refine h.kept (row := none) ⟨hb.os, hb.tape, hb.output, hb.size, fun k hk _ => hb.block k (by omega)⟩ (by cases hv : v.ownBlock <;> simp)
theorem own_mono {w : World} {base base' : Nat} {e : TypeId} {sz : Nat} {v : Value} {n : Nat} {xs : List Value} (h : w.ownsRow base e sz v n xs) (hb : base' ≤ base) : w.ownsRow base' e sz v n xs := by
  refine ⟨h.1, ?_⟩
  rcases h.2 with h2 | ⟨g, cap, cur, hv, hbg, r⟩
  · exact .inl h2
  · exact .inr ⟨g, cap, cur, hv, Nat.le_trans hb hbg, r⟩
theorem below_of_grown0 {w w' : World} {B : Nat} (hg : w.grownBy w' none) (hB : B ≤ w.heap.size) : Below B w w' := (Below.refl B w).grown hg hB (by simp)
theorem below_of_own {w w' : World} {base B : Nat} {e : TypeId} {sz : Nat} {v : Value} {n : Nat} {xs : List Value} (h : w.ownsRow base e sz v n xs) (hg : w.grownBy w' v.ownBlock) (hB : B ≤ w.heap.size) (hb : B ≤ base) : Below B w w' :=
  (Below.refl B w).grown hg hB (fun k hk => Nat.le_trans hb (h.lt k hk).1)
/-- what is read elsewhere is read still behind a write to an owned row -/
theorem SlN.grown {w w' : World} {sz n : Nat} {v : Value} {xs : List Value} {row : Option Nat} (h : SlN w sz v n xs) (hg : w.grownBy w' row) (hne : xs ≠ [] → v.ownBlock ≠ row) : SlN w' sz v n xs :=
  h.keep fun k hk hx => hg.block _ (h.lt hk hx) (by rw [← hk]; exact hne hx)
theorem Sl.grown {w w' : World} {v : Value} {xs : List Value} {row : Option Nat} (h : Sl w v xs) (hg : w.grownBy w' row) (hne : xs ≠ [] → v.ownBlock ≠ row) : Sl w' v xs := (h.toN.grown hg hne).to1

section
variable {P : Program} {T : Tab} (hT : TabOk P T)
include hT

theorem und_slice {t e : TypeId} {s b : Nat} {z : Value} (ht : look T t = some ⟨.slice e, s, b, z⟩) : P.underlying t = some (.slice e) := by
  obtain ⟨u, hu, hs⟩ := shOf_cases hT ht
  cases u <;> simp only [shOf, reduceCtorEq, Sh.slice.injEq] at hs
  subst hs
  exact hu

theorem Rv.append {w : World} {K : Value → World → Prop} {t e ty : TypeId} {s b sz by' : Nat} {z ez : Value} {sh : Sh} (ht : look T t = some ⟨.slice e, s, b, z⟩) (he : look T e = some ⟨sh, sz, by', ez⟩) (hz : llen (cellsL ez) = sz) (hsz : 0 < sz)
    {base n : Nat} {v : Value} {xs : List Value} (hown : w.ownsRow base e sz v n xs) {x : Value} {m : Nat} {news : List Value} (hs : SlN w sz x m news) (h1 : ∀ u ∈ news, u.oneCell' = true)
    (h63 : n + m ≤ maxLen) (hby : (n + m) * by' ≤ 140737488355328) (hbase : base ≤ w.heap.size)
    (hk : ∀ v' w', w'.ownsRow base e sz v' (n + m) (xs ++ news) → w.grownBy w' v.ownBlock → (v' = .slice none 0 0 ↔ v = .slice none 0 0 ∧ m = 0) → K v' w') :
    Rv P (Builtin.append_ #[t, t] ty #[v, x]) w K := by
  have hu := und_slice hT ht
  obtain ⟨i, hi, hiz, his, hib⟩ := (hT _ _ he).inf
  have hzs : ez.cells.size = sz := by rw [cellsL_eq, List.size_toArray, ← llen_eq]; exact hz
  rcases hs.cases with ⟨rfl, rfl, rfl⟩ | ⟨ad, c, rfl, e1, e2, hr⟩
  · have := run_append_owned_none (P := P) w base t ty e i sz hu hi v n xs hown
    refine Rv.mk this (hk v w (by simpa using hown) ⟨rfl, rfl, rfl, Nat.le_refl _, fun _ _ _ => rfl⟩ (by simp))
  · obtain ⟨v', w', hrun, q1, q2, q3⟩ := run_append_own (P := P) w base t ty e i ez sz by' hu hi hiz his hib hzs hsz v n xs hown ad m c news hs.len hr h1 h63 hby hbase
    exact Rv.mk hrun (hk v' w' q1 q2 q3)

omit hT in
theorem splice_step (A : List Value) (n : Nat) (c : Value) (l : List Value) (h : n < A.length) :
    (A.set n c).take (n + 1) ++ l ++ (A.set n c).drop (n + 1 + l.length) = A.take n ++ (c :: l) ++ A.drop (n + (l.length + 1)) := by
  rw [List.drop_set, if_pos (by omega), show n + 1 + l.length = n + (l.length + 1) from by omega]
  have h1 : (A.set n c).take (n + 1) = A.take n ++ [c] := by
    rw [List.take_succ_eq_append_getElem (by simpa using h), List.take_set, List.set_eq_of_length_le (by simp; omega)]
    simp
  rw [h1]
  simp

omit hT in
theorem foldl_set (off : Nat) : ∀ (l : List Value) (k : Nat) (A : List Value), off + k + l.length ≤ A.length →
    List.foldl (fun (cs : Array Value) (x : Value × Nat) => cs.setIfInBounds (off + x.2) x.1) A.toArray (l.zipIdx k) = (A.take (off + k) ++ l ++ A.drop (off + k + l.length)).toArray
  | [], k, A, h => by simp
  | c :: l, k, A, h => by
    simp only [List.length_cons] at h
    simp only [List.zipIdx_cons, List.foldl_cons]
    have : A.toArray.setIfInBounds (off + k) c = (A.set (off + k) c).toArray := by simp
    rw [this, foldl_set off l (k + 1) (A.set (off + k) c) (by simp; omega)]
    have := splice_step A (off + k) c l (by omega)
    rw [show off + (k + 1) = off + k + 1 from by omega, this]
    simp

omit hT in
theorem fill_seq (sz : Nat) : ∀ (us : List Value) (n : Nat) (cells : List Value), (∀ u ∈ us, (cellsL u).length = sz) → (n + us.length) * sz ≤ cells.length →
    Instr.fill (fun i => some (i * sz, sz)) cells.toArray ((List.range' n us.length).zip us) = some ((cells.take (n * sz) ++ us.flatMap cellsL ++ cells.drop ((n + us.length) * sz)).toArray)
  | [], n, cells, _, _ => by simp [Instr.fill]
  | u :: us, n, cells, h1, hle => by
    have hu : (cellsL u).length = sz := h1 u (by simp)
    have hu1 : u.cells = (cellsL u).toArray := cellsL_eq u
    simp only [List.length_cons] at hle
    have hmul : (n + (us.length + 1)) * sz = n * sz + sz + us.length * sz := by rw [Nat.add_mul, Nat.add_mul, Nat.one_mul]; omega
    simp only [List.length_cons, List.range'_succ, List.zip_cons_cons, Instr.fill, hu1]
    rw [if_neg (by simp only [List.size_toArray, hu, Bool.or_eq_true, decide_eq_true_eq]; simp; omega)]
    have e1 : (Array.foldl (fun (cs : Array Value) (x : Value × Nat) => match x with | (c, j) => cs.setIfInBounds (n * sz + j) c) cells.toArray ((cellsL u).toArray.zipIdx)) = (cells.take (n * sz) ++ cellsL u ++ cells.drop (n * sz + sz)).toArray := by
      have := foldl_set (n * sz) (cellsL u) 0 cells (by omega)
      simp only [Nat.add_zero, hu] at this
      rw [← this, ← Array.foldl_toList]
      simp only [Array.toList_zipIdx]
    rw [e1, fill_seq sz us (n + 1) _ (fun x hx => h1 x (by simp [hx])) (by simp [hu, Nat.add_mul]; omega)]
    congr 2
    have hA : (cells.take (n * sz) ++ cellsL u).length = (n + 1) * sz := by simp [hu, Nat.add_mul]; omega
    rw [List.take_append_of_le_length (by omega), List.take_of_length_le (by omega)]
    rw [List.drop_append, List.drop_eq_nil_of_le (by rw [hA, Nat.add_mul (n + 1)]; omega)]
    simp only [List.flatMap_cons, List.nil_append, List.drop_drop, List.append_assoc]
    congr 4
    rw [List.length_append, hu] at *
    simp only [List.length_take] at *
    rw [Nat.min_eq_left (by omega)] at *
    rw [hmul]
    simp only [Nat.add_mul, Nat.one_mul]
    omega

/-- a literal '[]T{..}' -/
theorem Rv.build {w : World} {K : Value → World → Prop} {t e : TypeId} {s b sz by' : Nat} {z ez : Value} {sh : Sh} {len : Nat} {vs : List Value} {ps : Array (Nat × Value)} (ht : look T t = some ⟨.slice e, s, b, z⟩) (he : look T e = some ⟨sh, sz, by', ez⟩)
    (hps : ps = ((List.range' 0 len).zip vs).toArray) (hl : vs.length = len) (h1 : ∀ u ∈ vs, (cellsL u).length = sz) (hlen : len * sz ≤ 16777216) (hlen0 : len ≤ 16777216)
    (hk : ∀ w', w'.ownsRow w.heap.size e sz (.slice (some ⟨w.heap.size, 0, none⟩) len len) len (vs.flatMap cellsL) → w.grownBy w' none → w' = w.alloc (.cells (vs.flatMap cellsL).toArray e) → K (.slice (some ⟨w.heap.size, 0, none⟩) len len) w') :
    Rv P (Instr.buildSlice t len ps) w K := by
  have hu := und_slice hT ht
  have hsz := (hT _ _ he).run_size w
  have hzz := (hT _ _ he).run_zero w
  subst hl; subst hps
  have hflat : (vs.flatMap cellsL).length = vs.length * sz := by
    clear hlen hlen0 hk
    induction vs with
    | nil => simp
    | cons v vs ih =>
      simp only [List.flatMap_cons, List.length_append, List.length_cons, Nat.add_mul, Nat.one_mul]
      rw [ih (fun u hu => h1 u (by simp [hu])), h1 v (by simp)]
      omega
  have hrun : (Instr.buildSlice t vs.length ((List.range' 0 vs.length).zip vs).toArray).run P w = .ok (.slice (some ⟨w.heap.size, 0, none⟩) vs.length vs.length) (w.alloc (.cells (vs.flatMap cellsL).toArray e)) := by
    have hf : ∀ zc : Array Value, Instr.fill (fun i => some (i * sz, sz)) (Array.map (fun x => zc[x % zc.size]!) (Array.range (vs.length * sz))) ((List.range' 0 vs.length).zip vs) = some (vs.flatMap cellsL).toArray := by
      intro zc
      have hl2 : (Array.map (fun x => zc[x % zc.size]!) (Array.range (vs.length * sz))).toList.length = vs.length * sz := by simp
      have := fill_seq sz vs 0 (Array.map (fun x => zc[x % zc.size]!) (Array.range (vs.length * sz))).toList h1 (by simp)
      simp only [Array.toArray_toList, Nat.zero_mul, List.take_zero, List.nil_append, Nat.zero_add] at this
      rw [this, List.drop_of_length_le (by omega)]
      simp
    have hcap : ¬ vs.length * sz > 2 ^ 24 := by omega
    obtain ⟨Z, hZ⟩ : ∃ Z, ((if vs.length * sz = 0 then pure #[] else do pure (← zeroValue e).cells : Sem (Array Value))).run P w = .ok Z w := by
      by_cases h0 : vs.length * sz = 0
      · exact ⟨#[], by simp only [h0, if_true]; rfl⟩
      · exact ⟨ez.cells, by simp only [h0, if_false, Sem.run_bind, hzz, Result.andThen_ok, Sem.run_pure]⟩
    unfold Instr.buildSlice
    simp only [Sem.run_bind, run_underlying hu, Result.andThen_ok, hsz, if_neg hcap, Sem.run_pure, hZ, hf]
    simp [newRow, hzz]
  refine Rv.mk hrun (hk _ ⟨hflat, .inr ⟨w.heap.size, _, _, rfl, Nat.le_refl _, heap_alloc_new w _, Nat.le_refl _, ?_, by simp [hflat], ?_⟩⟩ (World.grownBy_alloc _ _ _) rfl)
  · simp only [maxLen]; omega
  · rw [List.take_of_length_le (by simp [hflat])]

/-- make, the elements of one cell -/
theorem Rv.make {w : World} {K : Value → World → Prop} {t e : TypeId} {s b by' : Nat} {z ez : Value} {sh : Sh} {kl kc : IntKind} {li ci : Int} (n c : Nat) (ht : look T t = some ⟨.slice e, s, b, z⟩) (he : look T e = some ⟨sh, 1, by', ez⟩)
    (hz : cellsL ez = [ez]) (hl : li = n) (hc : ci = c) (hnc : n ≤ c) (hb : by' * c ≤ 281474976710656) (h63 : c ≤ maxLen)
    (hk : ∀ w', w'.ownsRow w.heap.size e 1 (.slice (some ⟨w.heap.size, 0, none⟩) n c) n (List.replicate n ez) → w.grownBy w' none → K (.slice (some ⟨w.heap.size, 0, none⟩) n c) w') :
    Rv P (Instr.makeSlice t (.int kl li) (.int kc ci)) w K := by
  subst hl; subst hc
  have hu := und_slice hT ht
  obtain ⟨i, hi, hiz, his, hib⟩ := (hT _ _ he).inf
  have h63' := h63
  simp only [maxLen] at h63'
  have hb' : (i.bytes : Int) * (c : Int) ≤ 281474976710656 := by
    rw [hib]
    have h : ((by' * c : Nat) : Int) ≤ 281474976710656 := by omega
    rwa [Int.natCast_mul] at h
  have hr := run_make (P := P) w t e i ez hu hi hiz kl kc n c (by omega) (by omega) hb' (by omega)
  simp only [Int.toNat_natCast, his, Nat.mul_one] at hr
  have hez : ez.cells = #[ez] := by rw [cellsL_eq, hz]
  rw [hez] at hr
  refine Rv.mk hr (hk _ ⟨by simp, .inr ⟨w.heap.size, c, _, rfl, Nat.le_refl _, heap_alloc_new w _, hnc, h63, by simp [size_madeCells], ?_⟩⟩ (World.grownBy_alloc w _ none))
  rw [toList_madeCells_one, List.take_replicate, Nat.mul_one, Nat.min_eq_left hnc]
end
end Go.Proofs.YtjafamiaahabgaaDoor

namespace Go.Proofs.YtjafamiaahabgaaDoor
open Go.RowKit
set_option linter.unusedVariables false
set_option linter.unusedSimpArgs false

theorem vint {k : IntKind} {x y : Int} (h : x = y) : some (Value.int k x) = some (Value.int k y) := by rw [h]
theorem vintv {k : IntKind} {x y : Int} (h : x = y) : Value.int k x = Value.int k y := by rw [h]

section
variable {P : Program} {T : Tab}
theorem St.own {w : World} {t e : TypeId} {base g i n cap : Nat} {xs : List Value} {K : World → Prop} {v : Value} {d : Td} (hl : look T t = some d) (hs : d.size = 1) (ho : w.ownsRow base e 1 (.slice (some ⟨g, 0, none⟩) n cap) n xs) (hi : i < n)
    (hv : cellsL v = [v]) (h1 : v.oneCell' = true) (hT : TabOk P T) (hk : ∀ w', w'.ownsRow base e 1 (.slice (some ⟨g, 0, none⟩) n cap) n (xs.set i v) → w.grownBy w' (some g) → K w') : St P w t ⟨g, i, none⟩ v K := by
  have hc := ho.cellAt i (by omega)
  have hl1 := own_len ho
  rw [List.getElem?_eq_getElem (by omega)] at hc
  exact St.one hT hl hs hv h1 hc (ho.frozenAt i) (hk _ (ho.stored i v).1 (ho.stored i v).2)
theorem Ld.own {w : World} {t e : TypeId} {base g i n cap : Nat} {xs : List Value} {K : Value → Prop} {v : Value} {d : Td} (hT : TabOk P T) (hl : look T t = some d) (ha : d.sh.agg = false) (ho : w.ownsRow base e 1 (.slice (some ⟨g, 0, none⟩) n cap) n xs) (hi : i < n)
    (hx : xs[i]? = some v) (hk : K v) : Ld P w t ⟨g, i, none⟩ K :=
  Ld.one hT hl ha (by rw [ho.cellAt i (by omega)]; exact hx) hk
end

section
variable {P : Program} {T : Tab} (hT : TabOk P T)
include hT
/-- append, and where the row then lies -/
theorem Rv.append' {w : World} {K : Value → World → Prop} {t e ty : TypeId} {s b sz by' : Nat} {z ez : Value} {sh : Sh} (ht : look T t = some ⟨.slice e, s, b, z⟩) (he : look T e = some ⟨sh, sz, by', ez⟩) (hz : llen (cellsL ez) = sz) (hsz : 0 < sz)
    {base n : Nat} {v : Value} {xs : List Value} (hown : w.ownsRow base e sz v n xs) {x : Value} {m : Nat} {news : List Value} (hs : SlN w sz x m news) (h1 : ∀ u ∈ news, u.oneCell' = true)
    (h63 : n + m ≤ maxLen) (hby : (n + m) * by' ≤ 140737488355328) (hbase : base ≤ w.heap.size)
    (hk : ∀ v' w', w'.ownsRow base e sz v' (n + m) (xs ++ news) → w.grownBy w' v.ownBlock → (v'.ownBlock = v.ownBlock ∨ v'.ownBlock = some w.heap.size) → K v' w') :
    Rv P (Builtin.append_ #[t, t] ty #[v, x]) w K := by
  have hu := und_slice hT ht
  obtain ⟨i, hi, hiz, his, hib⟩ := (hT _ _ he).inf
  have hzs : ez.cells.size = sz := by rw [cellsL_eq, List.size_toArray, ← llen_eq]; exact hz
  rcases hs.cases with ⟨rfl, rfl, rfl⟩ | ⟨ad, c, rfl, e1, e2, hr⟩
  · have := run_append_owned_none (P := P) w base t ty e i sz hu hi v n xs hown
    refine Rv.mk this (hk v w (by simpa using hown) ⟨rfl, rfl, rfl, Nat.le_refl _, fun _ _ _ => rfl⟩ (.inl rfl))
  · have hn := hr
    obtain ⟨v', w', hrun, q1, q2, q3⟩ := run_append_own (P := P) w base t ty e i ez sz by' hu hi hiz his hib hzs hsz v n xs hown ad m c news hs.len hn h1 h63 hby hbase
    refine Rv.mk hrun (hk v' w' q1 q2 ?_)
    subst his; subst hib
    simp only [maxLen] at h63
    rcases hown.2 with ⟨rfl, rfl⟩ | ⟨g, cap, cur, rfl, hbg, hg, hnc, hcm, hcs, htake⟩
    · by_cases hm : m = 0
      · exact .inl (by rw [q3.2 ⟨rfl, hm⟩])
      · have hr2 := run_append_nil (P := P) w t ty e i ez hu hi hiz ad m c news hs.len hn (by omega) (by omega) (by rw [Nat.zero_add] at hby; omega)
        rw [hr2] at hrun
        injection hrun with hv _
        exact .inr (by rw [← hv]; rfl)
    · by_cases hroom : n + m ≤ cap
      · have hfit : n * i.size + news.length ≤ cur.size := by rw [hs.len, hcs, ← Nat.add_mul]; exact Nat.mul_le_mul_right _ hroom
        have hr2 := run_append_room (P := P) w t ty e i hu hi g n cap cur hg ad m c news hs.len hn h1 hroom hfit
        rw [hr2] at hrun
        injection hrun with hv _
        exact .inl (by rw [← hv]; rfl)
      · have holds : ∀ j u, xs[j]? = some u → w.cell? ((⟨g, 0, none⟩ : Addr).add j) = some u := hown.cells (g := g) rfl
        have hr2 := run_append_grow (P := P) w t ty e i ez hu hi hiz ⟨g, 0, none⟩ n cap xs hown.1 holds ad m c news hs.len hn (by omega) (by omega) (growslice_fits (by omega) hby)
        rw [hr2] at hrun
        injection hrun with hv _
        exact .inr (by rw [← hv]; rfl)
end

theorem fill_set {α : Type} (A : List α) (m : Nat) (z x : α) {k : Nat} (hk : k = A.length) : (A ++ List.replicate (m + 1) z).set k x = (A ++ [x]) ++ List.replicate m z := by
  subst hk
  simp [List.replicate_succ]

/-- rows, each readable -/
structure Ins (w : World) (us : List Value) (ls : List (List UInt8)) : Prop where
  len : us.length = ls.length
  at' : ∀ (i : Nat) (u : Value) (l : List UInt8), us[i]? = some u → ls[i]? = some l → Sl w u (bv l)
theorem Ins.nil (w : World) : Ins w [] [] := ⟨rfl, fun i u l h => by simp at h⟩
theorem Ins.get {w : World} {us : List Value} {ls : List (List UInt8)} (h : Ins w us ls) {i : Nat} {l : List UInt8} (hl : ls[i]? = some l) : ∃ u, us[i]? = some u ∧ Sl w u (bv l) := by
  have : i < us.length := by rw [h.len]; exact (List.getElem?_eq_some_iff.1 hl).1
  exact ⟨us[i], List.getElem?_eq_getElem this, h.at' i _ l (List.getElem?_eq_getElem this) hl⟩
theorem Ins.snoc {w : World} {us : List Value} {ls : List (List UInt8)} {u : Value} {l : List UInt8} (h : Ins w us ls) (hu : Sl w u (bv l)) : Ins w (us ++ [u]) (ls ++ [l]) := by
  refine ⟨by simp [h.len], fun i u' l' h1 h2 => ?_⟩
  have hl := h.len
  rw [List.getElem?_append] at h1 h2
  split at h1
  · rw [if_pos (by omega)] at h2
    exact h.at' i u' l' h1 h2
  · rw [if_neg (by omega)] at h2
    have : i = us.length := by
      have := (List.getElem?_eq_some_iff.1 h1).1
      simp at this; omega
    subst this
    simp [hl] at h1 h2
    subst h1; subst h2; exact hu
theorem Ins.append {w : World} {us us' : List Value} {ls ls' : List (List UInt8)} (h : Ins w us ls) (h' : Ins w us' ls') : Ins w (us ++ us') (ls ++ ls') := by
  refine ⟨by simp [h.len, h'.len], fun i u l h1 h2 => ?_⟩
  have hl := h.len
  rw [List.getElem?_append] at h1 h2
  split at h1
  · rw [if_pos (by omega)] at h2
    exact h.at' i u l h1 h2
  · rw [if_neg (by omega)] at h2
    rw [hl] at h1
    exact h'.at' _ u l h1 h2
theorem Ins.take {w : World} {us : List Value} {ls : List (List UInt8)} (h : Ins w us ls) (k : Nat) : Ins w (us.take k) (ls.take k) := by
  refine ⟨by simp [h.len], fun i u l h1 h2 => ?_⟩
  rw [List.getElem?_take] at h1 h2
  split at h1
  · rename_i hi; rw [if_pos hi] at h2; exact h.at' i u l h1 h2
  · simp at h1
theorem Ins.drop {w : World} {us : List Value} {ls : List (List UInt8)} (h : Ins w us ls) (k : Nat) : Ins w (us.drop k) (ls.drop k) := by
  refine ⟨by simp [h.len], fun i u l h1 h2 => ?_⟩
  rw [List.getElem?_drop] at h1 h2
  exact h.at' _ u l h1 h2
theorem Ins.below {w w' : World} {us : List Value} {ls : List (List UInt8)} (h : Ins w us ls) (hb : Below w.heap.size w w') : Ins w' us ls := ⟨h.len, fun i u l h1 h2 => (h.at' i u l h1 h2).below hb⟩
theorem Ins.grown {w w' : World} {us : List Value} {ls : List (List UInt8)} {row : Option Nat} (h : Ins w us ls) (hg : w.grownBy w' row) (hne : ∀ u ∈ us, row ≠ none → u.ownBlock ≠ row) : Ins w' us ls := by
  refine ⟨h.len, fun i u l h1 h2 => ?_⟩
  have hs := h.at' i u l h1 h2
  cases row with
  | none => exact hs.below (below_of_grown0 hg (Nat.le_refl _))
  | some r => exact hs.grown hg fun _ => hne u (List.mem_of_getElem? h1) (by simp)
theorem Ins.grown0 {w w' : World} {us : List Value} {ls : List (List UInt8)} (h : Ins w us ls) (hg : w.grownBy w' none) : Ins w' us ls := h.grown hg fun _ _ h => absurd rfl h
theorem Ins.set {w : World} {us : List Value} {ls : List (List UInt8)} {u : Value} {l : List UInt8} (h : Ins w us ls) (i : Nat) (hu : Sl w u (bv l)) : Ins w (us.set i u) (ls.set i l) := by
  refine ⟨by simp [h.len], fun j u' l' h1 h2 => ?_⟩
  rw [List.getElem?_set] at h1 h2
  split at h1
  · rename_i hi; subst hi
    rw [if_pos rfl] at h2
    split at h1
    · rename_i hi
      rw [if_pos (by rw [← h.len]; exact hi)] at h2
      simp at h1 h2; subst h1; subst h2; exact hu
    · simp at h1
  · rename_i hi
    rw [if_neg hi] at h2
    exact h.at' j u' l' h1 h2
theorem Ins.one {w : World} {us : List Value} {ls : List (List UInt8)} (h : Ins w us ls) : ∀ u ∈ us, u.oneCell' = true := by
  intro u hu
  obtain ⟨i, hi⟩ := List.getElem?_of_mem hu
  have hlt := (List.getElem?_eq_some_iff.1 hi).1
  obtain ⟨a, c, rfl⟩ := (h.at' i u _ hi (List.getElem?_eq_getElem (by rw [← h.len]; exact hlt))).shape
  rfl

/-- a slice of slices of bytes -/
structure SS (w : World) (v : Value) (ls : List (List UInt8)) : Prop where
  of : ∃ us, Sl w v us ∧ Ins w us ls
theorem SS.nil (w : World) : SS w (.slice none 0 0) [] := ⟨[], Sl.nil w, Ins.nil w⟩
theorem SS.below {w w' : World} {v : Value} {ls : List (List UInt8)} (h : SS w v ls) (hb : Below w.heap.size w w') : SS w' v ls := by
  obtain ⟨us, h1, h2⟩ := h.of
  exact ⟨us, h1.below hb, h2.below hb⟩

/-- a row of one's own that is read behind a write beside it -/
theorem below_own_store {w w' : World} {B g : Nat} (hg : w.grownBy w' (some g)) (hB : B ≤ w.heap.size) (hb : B ≤ g) : Below B w w' := (Below.refl B w).grown hg hB (by rintro k ⟨⟩; exact hb)

/-- rows of one's own, each in a block of its own, of another type than the row that holds them -/
structure InsO (w : World) (base : Nat) (e : TypeId) (us : List Value) (ls : List (List UInt8)) : Prop where
  len : us.length = ls.length
  own : ∀ (i : Nat) (u : Value) (l : List UInt8), us[i]? = some u → ls[i]? = some l → w.ownsRow base e 1 u l.length (bv l)
  sep : ∀ (i j : Nat) (u u' : Value), i ≠ j → us[i]? = some u → us[j]? = some u' → u.ownBlock = none ∨ u.ownBlock ≠ u'.ownBlock
theorem InsO.ins {w : World} {base : Nat} {e : TypeId} {us : List Value} {ls : List (List UInt8)} (h : InsO w base e us ls) : Ins w us ls := ⟨h.len, fun i u l h1 h2 => Sl.of_own (h.own i u l h1 h2)⟩
theorem InsO.nil (w : World) (base : Nat) (e : TypeId) : InsO w base e [] [] := ⟨rfl, fun i u l h => by simp at h, fun i j u u' _ h => by simp at h⟩
theorem InsO.get {w : World} {base : Nat} {e : TypeId} {us : List Value} {ls : List (List UInt8)} (h : InsO w base e us ls) {i : Nat} {l : List UInt8} (hl : ls[i]? = some l) : ∃ u, us[i]? = some u ∧ w.ownsRow base e 1 u l.length (bv l) := by
  have : i < us.length := by rw [h.len]; exact (List.getElem?_eq_some_iff.1 hl).1
  exact ⟨us[i], List.getElem?_eq_getElem this, h.own i _ l (List.getElem?_eq_getElem this) hl⟩
theorem InsO.lt {w : World} {base : Nat} {e : TypeId} {us : List Value} {ls : List (List UInt8)} (h : InsO w base e us ls) {i : Nat} {u : Value} (hu : us[i]? = some u) : ∀ k, u.ownBlock = some k → base ≤ k ∧ k < w.heap.size := by
  have hlt := (List.getElem?_eq_some_iff.1 hu).1
  exact (h.own i u _ hu (List.getElem?_eq_getElem (by rw [← h.len]; exact hlt))).lt
/-- a block of another type was written, or none of these -/
theorem InsO.grown {w w' : World} {base : Nat} {e : TypeId} {us : List Value} {ls : List (List UInt8)} {row : Option Nat} (h : InsO w base e us ls) (hg : w.grownBy w' row) (hr : ∀ u ∈ us, u.ownBlock = none ∨ u.ownBlock ≠ row) : InsO w' base e us ls :=
  ⟨h.len, fun i u l h1 h2 => (h.own i u l h1 h2).kept hg (hr u (List.mem_of_getElem? h1)), h.sep⟩
theorem InsO.grown0 {w w' : World} {base : Nat} {e : TypeId} {us : List Value} {ls : List (List UInt8)} (h : InsO w base e us ls) (hg : w.grownBy w' none) : InsO w' base e us ls :=
  h.grown hg fun u _ => by cases hu : u.ownBlock <;> simp
theorem InsO.apart {w : World} {base base' : Nat} {e e' : TypeId} {us : List Value} {ls : List (List UInt8)} (h : InsO w base e us ls) {v : Value} {sz n : Nat} {xs : List Value} (ho : w.ownsRow base' e' sz v n xs) (hne : e ≠ e') : ∀ u ∈ us, u.ownBlock = none ∨ u.ownBlock ≠ v.ownBlock := by
  intro u hu
  obtain ⟨i, hi⟩ := List.getElem?_of_mem hu
  have hlt := (List.getElem?_eq_some_iff.1 hi).1
  have h1 := h.own i u _ hi (List.getElem?_eq_getElem (by rw [← h.len]; exact hlt))
  cases hb : u.ownBlock with
  | none => exact .inl rfl
  | some k =>
    refine .inr fun hv => ?_
    obtain ⟨c1, f1, e1⟩ := Lib.ownsRow_kind h1 k hb
    obtain ⟨c2, f2, e2⟩ := Lib.ownsRow_kind ho k hv.symm
    rw [e1] at e2
    simp only [Option.some.injEq, Obj.cells.injEq] at e2
    exact hne e2.2.1
theorem InsO.below {w w' : World} {base : Nat} {e : TypeId} {us : List Value} {ls : List (List UInt8)} (h : InsO w base e us ls) (hb : Below w.heap.size w w') : InsO w' base e us ls :=
  ⟨h.len, fun i u l h1 h2 => own_below (h.own i u l h1 h2) hb (Nat.le_refl _), h.sep⟩
theorem InsO.drew {w : World} {base : Nat} {e : TypeId} {us : List Value} {ls : List (List UInt8)} (h : InsO w base e us ls) : InsO w.drew base e us ls := ⟨h.len, h.own, h.sep⟩
theorem InsO.snoc {w : World} {base : Nat} {e : TypeId} {us : List Value} {ls : List (List UInt8)} {u : Value} {l : List UInt8} (h : InsO w base e us ls) (hu : w.ownsRow base e 1 u l.length (bv l)) (hs : ∀ u' ∈ us, u'.ownBlock = none ∨ u'.ownBlock ≠ u.ownBlock) :
    InsO w base e (us ++ [u]) (ls ++ [l]) := by
  have hl := h.len
  refine ⟨by simp [hl], fun i u' l' h1 h2 => ?_, fun i j a b hij h1 h2 => ?_⟩
  · rw [List.getElem?_append] at h1 h2
    split at h1
    · rw [if_pos (by omega)] at h2
      exact h.own i u' l' h1 h2
    · rw [if_neg (by omega)] at h2
      have : i = us.length := by
        have := (List.getElem?_eq_some_iff.1 h1).1
        simp at this; omega
      subst this
      simp [hl] at h1 h2
      subst h1; subst h2; exact hu
  · rw [List.getElem?_append] at h1 h2
    split at h1 <;> split at h2
    · exact h.sep i j a b hij h1 h2
    · have : b = u := by
        have h3 := (List.getElem?_eq_some_iff.1 h2).1
        simp at h3
        have h4 : j - us.length = 0 := by omega
        rw [h4] at h2; simpa using h2.symm
      subst this
      exact hs a (List.mem_of_getElem? h1)
    · have : a = u := by
        have h3 := (List.getElem?_eq_some_iff.1 h1).1
        simp at h3
        have h4 : i - us.length = 0 := by omega
        rw [h4] at h1; simpa using h1.symm
      subst this
      rcases hs b (List.mem_of_getElem? h2) with h5 | h5
      · by_cases hn : a.ownBlock = none
        · exact .inl hn
        · exact .inr fun h6 => hn (h6.trans h5)
      · exact .inr fun h6 => h5 h6.symm
    · have h3 := (List.getElem?_eq_some_iff.1 h1).1
      have h4 := (List.getElem?_eq_some_iff.1 h2).1
      simp at h3 h4
      omega
/-- the i-th row has grown: in its block, or in a new one -/
theorem InsO.set {w w' : World} {base : Nat} {e : TypeId} {us : List Value} {ls : List (List UInt8)} {u u' : Value} {l : List UInt8} (h : InsO w base e us ls) {i : Nat} (hi : us[i]? = some u) (hg : w.grownBy w' u.ownBlock) (hu : w'.ownsRow base e 1 u' l.length (bv l))
    (hb : u'.ownBlock = u.ownBlock ∨ u'.ownBlock = some w.heap.size ∨ u'.ownBlock = none) : InsO w' base e (us.set i u') (ls.set i l) := by
  have hl := h.len
  have hap : ∀ (j : Nat) (a : Value), j ≠ i → us[j]? = some a → a.ownBlock = none ∨ (a.ownBlock ≠ u.ownBlock ∧ a.ownBlock ≠ u'.ownBlock) := by
    intro j a hj ha
    rcases h.sep j i a u hj ha hi with h1 | h1
    · exact .inl h1
    · rcases hb with h2 | h2 | h2
      · exact .inr ⟨h1, by rw [h2]; exact h1⟩
      · refine .inr ⟨h1, fun h3 => ?_⟩
        have := (h.lt ha _ (h3.trans h2)).2
        omega
      · cases ha' : a.ownBlock with
        | none => exact .inl rfl
        | some k => exact .inr ⟨by rw [← ha']; exact h1, by rw [h2]; simp⟩
  refine ⟨by simp [hl], fun j a l' h1 h2 => ?_, fun j k a b hjk h1 h2 => ?_⟩
  · rw [List.getElem?_set] at h1 h2
    by_cases hij : i = j
    · subst hij
      have hlt := (List.getElem?_eq_some_iff.1 hi).1
      rw [if_pos rfl, if_pos hlt] at h1
      rw [if_pos rfl, if_pos (by omega)] at h2
      simp at h1 h2; subst h1; subst h2; exact hu
    · rw [if_neg hij] at h1 h2
      exact (h.own j a l' h1 h2).kept hg ((hap j a (Ne.symm hij) h1).imp id (·.1))
  · rw [List.getElem?_set] at h1 h2
    by_cases hij : i = j
    · subst hij
      have hlt := (List.getElem?_eq_some_iff.1 hi).1
      rw [if_pos rfl, if_pos hlt] at h1
      rw [if_neg hjk] at h2
      simp at h1; subst h1
      rcases hap k b (Ne.symm hjk) h2 with h3 | h3
      · by_cases hn : u'.ownBlock = none
        · exact .inl hn
        · exact .inr fun h6 => hn (h6.trans h3)
      · exact .inr fun h6 => h3.2 h6.symm
    · rw [if_neg hij] at h1
      by_cases hik : i = k
      · subst hik
        have hlt := (List.getElem?_eq_some_iff.1 hi).1
        rw [if_pos rfl, if_pos hlt] at h2
        simp at h2; subst h2
        exact (hap j a (Ne.symm hij) h1).imp id (·.2)
      · rw [if_neg hik] at h2
        exact h.sep j k a b hjk h1 h2
theorem InsO.one {w : World} {base : Nat} {e : TypeId} {us : List Value} {ls : List (List UInt8)} (h : InsO w base e us ls) : ∀ u ∈ us, u.oneCell' = true := h.ins.one

end Go.Proofs.YtjafamiaahabgaaDoor

namespace Go.Proofs.YtjafamiaahabgaaDoor
open Go.RowKit
set_option linter.unusedVariables false
set_option linter.unusedSimpArgs false

section
variable {P : Program} {T : Tab} (hT : TabOk P T)
include hT
theorem Rv.copy {w : World} {K : Value → World → Prop} {t e ty : TypeId} {s b by' : Nat} {z ez : Value} {sh : Sh} (ht : look T t = some ⟨.slice e, s, b, z⟩) (he : look T e = some ⟨sh, 1, by', ez⟩)
    {base g n cap : Nat} {xs : List Value} (hown : w.ownsRow base e 1 (.slice (some ⟨g, 0, none⟩) n cap) n xs) {x : Value} {cs : List Value} (hs : Sl w x cs) (h1 : ∀ u ∈ cs, u.oneCell' = true) (hle : cs.length ≤ n)
    (hk : ∀ w', w'.ownsRow base e 1 (.slice (some ⟨g, 0, none⟩) n cap) n (cs ++ xs.drop cs.length) → w.grownBy w' (some g) → K (.int .i64 cs.length) w') :
    Rv P (Builtin.copy_ #[t, t] ty #[.slice (some ⟨g, 0, none⟩) n cap, x]) w K := by
  have hu := und_slice hT ht
  obtain ⟨i, hi, hiz, his, hib⟩ := (hT _ _ he).inf
  have hsz : (P.info? e).map (·.size) = some 1 := by rw [hi]; simp [his]
  rcases hs.cases with ⟨rfl, rfl⟩ | ⟨ad, c, rfl, e1, e2, hr⟩
  · refine Rv.mk (run_copy_nil (P := P) w t t ty e ⟨g, 0, none⟩ n cap hu (by rw [hi]; rfl)) (hk w (by simpa using hown) ⟨rfl, rfl, rfl, Nat.le_refl _, fun _ _ _ => rfl⟩)
  · rcases hown.2 with ⟨h', _⟩ | ⟨g', cap', cur, h', hb, hg, hnc, hcm, hcs, htake⟩
    · simp at h'
    simp only [Value.slice.injEq, Option.some.injEq, Addr.mk.injEq, and_true, true_and] at h'
    obtain ⟨rfl, rfl⟩ := h'
    have hn : cs.length = Nat.min cs.length n := (Nat.min_eq_left hle).symm
    have hr2 := run_copy_row (P := P) w t t ty e g 0 n cap ad cs.length c cur e cs hu hsz hg hn hr (by omega) h1
    simp only [List.take_zero, List.nil_append, Nat.zero_add] at hr2
    refine Rv.mk hr2 (hk _ ⟨?_, .inr ⟨g, cap, _, rfl, hb, setRow_heap w g cur _ e _ hg, hnc, hcm, ?_, ?_⟩⟩ ⟨rfl, rfl, rfl, by simp, fun k _ hk => setRow_other w g k _ (fun e => hk (by simp [e]))⟩)
    · have := hown.1; simp; omega
    · simp only [List.size_toArray, List.length_append, List.length_drop, Array.length_toList]; omega
    · rw [← htake, List.drop_take, List.take_append, List.take_of_length_le (by omega)]

theorem Rv.appendZ {w : World} {K : Value → World → Prop} {t e ty tn : TypeId} {s b by' : Nat} {z ez : Value} {sh : Sh} {kn kq : IntKind} (ht : look T t = some ⟨.slice e, s, b, z⟩) (he : look T e = some ⟨sh, 1, by', ez⟩) (htn : P.underlying tn = some (.int kn)) (hz : cellsL ez = [ez]) (hz1 : ez.oneCell' = true)
    {base n : Nat} {v : Value} {xs : List Value} (hown : w.ownsRow base e 1 v n xs) {m : Nat} {mi : Int} (hm : mi = m)
    (h63 : n + m ≤ maxLen) (hby : (n + m) * by' ≤ 140737488355328) (hbase : base ≤ w.heap.size)
    (hk : ∀ v' w', w'.ownsRow base e 1 v' (n + m) (xs ++ List.replicate m ez) → w.grownBy w' v.ownBlock → (v'.ownBlock = v.ownBlock ∨ v'.ownBlock = some w.heap.size) → K v' w') :
    Rv P (Builtin.append_ #[t, tn] ty #[v, .int kq mi]) w K := by
  subst hm
  have hu := und_slice hT ht
  obtain ⟨i, hi, hiz, his, hib⟩ := (hT _ _ he).inf
  dsimp only at his hib
  have hez : ez.cells = #[ez] := by rw [cellsL_eq, hz]
  have hzc : ∀ q, Builtin.zeroCells ez.cells q = (List.replicate q ez).toArray := by
    intro q
    rw [hez]
    apply Array.ext'
    simp only [Builtin.zeroCells, List.size_toArray, List.length_singleton, Nat.mul_one]
    apply List.ext_getElem?
    intro j
    by_cases hj : j < q
    · simp [hj, Nat.mod_one]
    · simp [hj]
  have hby2 : m * i.bytes ≤ 140737488355328 := Nat.le_trans (Nat.mul_le_mul_right _ (Nat.le_add_left m n)) (by rw [hib]; exact hby)
  have hw : IntKind.i64.wrap (m : Int) = m := by rw [IntKind.wrap_i64]; simp only [maxLen] at h63; omega
  have h48i : ¬ (281474976710656 < (m : Int) * (i.bytes : Int)) := by rw [← Int.natCast_mul]; omega
  have hneg : ¬ ((m : Int) < 0) := by omega
  have grown : ∀ (cap : Nat), n + m ≤ cap → cap ≤ maxLen → ∀ (row : Option Nat),
      (w.drew.alloc (.cells ((xs ++ List.replicate m ez).toArray ++ Builtin.zeroCells ez.cells (cap - (n + m))) e)).ownsRow base e 1 (.slice (some ⟨w.heap.size, 0, none⟩) (n + m) cap) (n + m) (xs ++ List.replicate m ez) ∧
      w.grownBy (w.drew.alloc (.cells ((xs ++ List.replicate m ez).toArray ++ Builtin.zeroCells ez.cells (cap - (n + m))) e)) row := by
    intro cap h1 h2 row
    have hl := hown.1
    refine ⟨⟨by simp; omega, .inr ⟨w.heap.size, _, _, rfl, hbase, heap_alloc_new w.drew _, h1, h2, ?_, ?_⟩⟩, ⟨rfl, rfl, rfl, by simp, fun k hk _ => Below.heap_alloc w.drew _ k hk⟩⟩
    · rw [hzc]; simp; omega
    · rw [hzc]
      simp only [List.append_toArray]
      rw [List.take_left' (by simp; omega)]
  simp only [maxLen] at h63
  by_cases hm0 : m = 0
  · subst hm0
    have hl := hown.1
    refine Rv.mk (w' := w) (v := v) ?_ (hk v w (by simpa using hown) ⟨rfl, rfl, rfl, Nat.le_refl _, fun _ _ _ => rfl⟩ (.inl rfl))
    rcases hown.2 with ⟨rfl, rfl⟩ | ⟨g, cap, cur, rfl, hbg, hg, hnc, hcm, hcs, htake⟩
    · have hw0 : IntKind.i64.wrap 0 = 0 := by decide
      simp [Builtin.append_, run_underlying hu, run_underlying htn, sizeOf, typeInfo, hi, asInt, asIntOf, hw0]
    · have hw0 : IntKind.i64.wrap 0 = 0 := by decide
      simp [Builtin.append_, run_underlying hu, run_underlying htn, sizeOf, typeInfo, hi, asInt, asIntOf, hw0, hnc, storeCells]
  · rcases hown.2 with ⟨rfl, rfl⟩ | ⟨g, cap, cur, rfl, hbg, hg, hnc, hcm, hcs, htake⟩
    · have hx : xs = [] := List.eq_nil_of_length_eq_zero (by simpa using hown.1)
      subst hx
      have hr := Lib.run_append_nil_zeros (P := P) w t tn ty e i ez kq kn hu htn hi hiz m (by omega) (by omega) (by omega) (by omega)
      have hge := grownCap_ge w m 0 e
      have hcm := grownCap_le_maxLen w m 0 e (by simp only [maxLen]; omega)
      have hgr := grown (grownCap w m 0 e) (by omega) hcm (Value.ownBlock (.slice none 0 0))
      rw [hzc m] at hr
      simp only [Nat.zero_add, List.nil_append] at hgr
      refine Rv.mk hr (hk _ _ ?_ ?_ (.inr rfl))
      · simpa using hgr.1
      · simpa using hgr.2
    · by_cases hroom : n + m ≤ cap
      · have hst := run_storeCells_at P g (n * 1) e (List.replicate m ez) 0 cur w hg (by simp; omega) (by intro u hu; rw [List.eq_of_mem_replicate hu]; exact hz1)
        simp only [Nat.add_zero, List.length_replicate] at hst
        have hr : (Builtin.append_ #[t, tn] ty #[.slice (some ⟨g, 0, none⟩) n cap, .int kq m]).run P w = .ok (.slice (some ⟨g, 0, none⟩) (n + m) cap) (w.setRow g (cur.toList.take (n * 1) ++ List.replicate m ez ++ cur.toList.drop (n * 1 + m)).toArray) := by
          simp only [Nat.mul_one] at hst
          simp [Builtin.append_, run_underlying hu, run_underlying htn, sizeOf, typeInfo, zeroValue, hi, hiz, asInt, asIntOf, hw, hneg, h48i, hroom, his, hm0, hzc, Addr.add_lit, hst]
        have hl := hown.1
        refine Rv.mk hr (hk _ _ ⟨by simp; omega, .inr ⟨g, cap, _, rfl, hbg, setRow_heap w g cur _ e _ hg, hroom, hcm, ?_, ?_⟩⟩ ⟨rfl, rfl, rfl, by simp, fun k _ hk => setRow_other w g k _ (fun e => hk (by simp [Value.ownBlock, e]))⟩ (.inl rfl))
        · simp only [List.size_toArray, List.length_append, List.length_take, List.length_drop, Array.length_toList, List.length_replicate]; omega
        · simp only [Nat.mul_one] at htake ⊢
          rw [htake, List.take_left' (by simp; omega)]
      · have holds : ∀ j u, xs[j]? = some u → w.cell? ((⟨g, 0, none⟩ : Addr).add j) = some u := hown.cells (g := g) rfl
        have hf := run_firstCells_some (P := P) w.drew i.size n ⟨g, 0, none⟩ n cap xs (by rw [his]; exact hown.1) (fun j u hj => holds j u hj)
        have hr := Lib.run_append_grow_zeros (P := P) w t tn ty e i ez kq kn hu htn hi hiz (some ⟨g, 0, none⟩) n cap xs hf m (by omega) (by omega) (by omega) (by omega) (by omega) (growslice_fits (by omega) (by rw [hib]; exact hby))
        have hge := grownCap_ge w (n + m) cap e
        have hcm2 := grownCap_le_maxLen w (n + m) cap e (by simp only [maxLen]; omega)
        have hgr := grown (grownCap w (n + m) cap e) hge hcm2 (Value.ownBlock (.slice (some ⟨g, 0, none⟩) n cap))
        rw [hzc m, show xs.toArray ++ (List.replicate m ez).toArray = (xs ++ List.replicate m ez).toArray from List.append_toArray xs _] at hr
        exact Rv.mk hr (hk _ _ hgr.1 hgr.2 (.inr rfl))
end
end Go.Proofs.YtjafamiaahabgaaDoor

namespace Go.Proofs.YtjafamiaahabgaaDoor
set_option linter.unusedVariables false
set_option linter.unusedSimpArgs false

def mkB (l : List UInt8) : ByteArray := ⟨l.toArray⟩

section
variable {P : Program} {T : Tab} (hT : TabOk P T)
include hT
theorem Qv.arr {K : Value → Prop} {t e : TypeId} {n s b sz by' : Nat} {z ez : Value} {sh : Sh} {ps : Array (Nat × Value)} {cells : Array Value} (ht : look T t = some ⟨.array n e, s, b, z⟩) (he : look T e = some ⟨sh, sz, by', ez⟩)
    (hf : Instr.fill (fun i => some (i * sz, sz)) z.cells ps.toList = some cells) (hk : K (.agg cells)) : Qv P (Instr.build t ps) K := by
  refine Qv.mk (.agg cells) (fun w => ?_) hk
  obtain ⟨u, hu, hs⟩ := shOf_cases hT ht
  cases u <;> simp only [shOf, reduceCtorEq, Sh.array.injEq] at hs
  obtain ⟨rfl, rfl⟩ := hs
  have hzz := (hT _ _ ht).run_zero w
  have hsz := (hT _ _ he).run_size w
  simp only [Instr.build, Sem.run_bind, hzz, run_underlying hu, Result.andThen_ok, hsz, hf, Sem.run_pure]

/-- bytes as a text -/
theorem toStr_run {w : World} {t u e : TypeId} {s b s1 b1 s2 b2 : Nat} {z z1 z2 : Value} (ht : look T t = some ⟨.slice e, s, b, z⟩) (he : look T e = some ⟨.int .u8, s1, b1, z1⟩) (hu : look T u = some ⟨.str, s2, b2, z2⟩) {v : Value} {l : List UInt8} (h : Sl w v (bv l)) :
    (convert t u v).run P w = .ok (.string (mkB l)) w := by
  have ht' := und_slice hT ht
  obtain ⟨x, hx, hs⟩ := shOf_cases hT he
  cases x <;> simp only [shOf, reduceCtorEq, Sh.int.injEq] at hs
  subst hs
  obtain ⟨y, hy, hs⟩ := shOf_cases hT hu
  cases y <;> simp only [shOf, reduceCtorEq] at hs
  by_cases hle : l = []
  · subst hle
    obtain ⟨a, c, rfl, h1, h2, h3, h4⟩ := h.of
    cases a with
    | none =>
      obtain rfl := h3 rfl
      have := run_convert_bytes_nil (P := P) w t e ht' hx 0 0 u hy
      rw [show (bv []).length = 0 from rfl, this]; rfl
    | some ad =>
      rw [show (bv []).length = 0 from rfl, run_convert_bytes_string w t u e _ 0 c ht' hx hy, run_bytesToString w ad 0 c [] (by simp [loadCells, loadCellsFrom])]
      rfl
  obtain ⟨b, o, c, rfl, h1, h2, h3⟩ : ∃ b o c, v = .slice (some ⟨b, o, none⟩) (bv l).length c ∧ (bv l).length ≤ c ∧ c ≤ maxLen ∧ Row w b o (bv l) := by
    obtain ⟨a, c, rfl, h1, h2, h3, h4⟩ := h.of
    have h0 : 0 < l.length := List.length_pos_iff.2 hle
    obtain ⟨b, o, rfl, hr⟩ := h.addr (by simpa using h0)
    exact ⟨b, o, c, rfl, h1, h2, hr⟩
  · have := run_convert_bytes_arg (P := P) w t e ht' hx b o l.length c (l.map fun b => (b.toNat : Int)) (by simp) (fun i hi => by
      have := h3 i (u8 l[i]) (by simp [bv, hi])
      rw [this]
      simp [u8, hi]) u hy
    simp only [bv_length]
    rw [this]
    congr 1
    simp only [strOfNums, mkB, List.map_map, Value.string.injEq, ByteArray.mk.injEq, Array.mk.injEq]
    conv => rhs; rw [← List.map_id l]
    refine List.map_congr_left fun b _ => ?_
    simp
theorem Rv.toStr {w : World} {K : Value → World → Prop} {t u e : TypeId} {s b s1 b1 s2 b2 : Nat} {z z1 z2 : Value} (ht : look T t = some ⟨.slice e, s, b, z⟩) (he : look T e = some ⟨.int .u8, s1, b1, z1⟩) (hu : look T u = some ⟨.str, s2, b2, z2⟩) {v : Value} {l : List UInt8} (h : Sl w v (bv l))
    (hk : K (.string (mkB l)) w) : Rv P (convert t u v) w K := Rv.mk (toStr_run hT ht he hu h) hk
theorem Rq.toStr {C : World → Prop} {K : Value → Prop} {t u e : TypeId} {s b s1 b1 s2 b2 : Nat} {z z1 z2 : Value} (ht : look T t = some ⟨.slice e, s, b, z⟩) (he : look T e = some ⟨.int .u8, s1, b1, z1⟩) (hu : look T u = some ⟨.str, s2, b2, z2⟩) {v : Value} {l : List UInt8} (h : ∀ w, C w → Sl w v (bv l))
    (hk : K (.string (mkB l))) : Rq P C (convert t u v) K := Rq.mk _ (fun w' hw => toStr_run hT ht he hu (h w' hw)) hk
end
end Go.Proofs.YtjafamiaahabgaaDoor

namespace Go.Proofs.YtjafamiaahabgaaDoor
open Go.RowKit
set_option linter.unusedVariables false

theorem spot_of_ok {P : Program} {w : World} {base : Nat} {t e : TypeId} (ht : P.underlying t = some (.slice e)) {a : Addr} {n c : Nat} (h : Value.okWide P w .any base t (.slice (some a) n c)) : a.spot = none := by
  simp only [Value.okWide, ht, Cell.okWide, Cell.ok, World.has] at h
  exact h.2.2.2.1

theorem sl_of_open {P : Program} {w : World} {base : Nat} {t e : TypeId} (ht : P.underlying t = some (.slice e)) {a : Option Addr} {n c : Nat} {zs : List Int} (hok : Value.okWide P w .any base t (.slice a n c))
    (hrow : (a = none ∧ n = 0 ∧ c = 0 ∧ zs = []) ∨ ∃ x, a = some x ∧ n ≤ c ∧ c ≤ maxLen ∧ zs.length = c ∧ (∀ i, i < zs.length → w.cell? (x.add i) = some (.int .u8 (zs.getD i 0))) ∧ ∀ k ∈ zs, (Lit.int .u8 k).wf = true) :
    ∃ l : List UInt8, Sl w (.slice a n c) (bv l) := by
  rcases hrow with ⟨rfl, rfl, rfl, rfl⟩ | ⟨x, rfl, h1, h2, h3, h4, h5⟩
  · exact ⟨[], Sl.nil w⟩
  · have hs := spot_of_ok ht hok
    obtain ⟨b, o, s⟩ := x
    simp only at hs; subst hs
    refine ⟨(zs.take n).map fun k => UInt8.ofNat k.toNat, ?_⟩
    have e : bv ((zs.take n).map fun k => UInt8.ofNat k.toNat) = (zs.take n).map (Value.int .u8) := by
      unfold bv
      rw [List.map_map]
      refine List.map_congr_left fun k hk => ?_
      have hw := h5 k (List.mem_of_mem_take hk)
      have hb : 0 ≤ k ∧ k < 256 := by
        simp only [Lit.wf, IntKind.min, IntKind.max, IntKind.bits, IntKind.signed] at hw
        simp at hw
        omega
      exact (u8_mk k hb.1 hb.2).symm
    rw [e]
    refine Sl.some' (by simp; omega) (by simp; omega) h2 fun i v hv => ?_
    rw [List.getElem?_map, List.getElem?_take] at hv
    split at hv
    · rename_i hi
      have hz : i < zs.length := by omega
      have := h4 i hz
      rw [Addr.add_lit] at this
      rw [this]
      rw [List.getElem?_eq_getElem hz] at hv
      rw [← hv, List.getD_eq_getElem?_getD, List.getElem?_eq_getElem hz]
      rfl
    · simp at hv

theorem Sl.lq {w : World} {b o : Nat} {xs : List Value} (h : Row w b o xs) {i o' : Nat} {x : Value} (hx : xs[i]? = some x) (ho : o' = o + i) : ∀ w', w' = w.drew → w'.cell? ⟨b, o', none⟩ = some x := by
  rintro _ rfl
  exact h.at hx ho

end Go.Proofs.YtjafamiaahabgaaDoor
