/- Loads, stores, slices and bytes, over the layer. Nothing is claimed here. -/
import Derived.Test.YtlldgodjfpgbcaaVt
import Derived.Test.YtlldgodjfpgbcaaN
namespace Go.Proofs.Ytlldgodjfpgbcaa
open Go.RowKit
set_option linter.unusedVariables false
set_option linter.unusedSimpArgs false

section
variable {P : Program} {T : Tab} (hT : TabOk P T)
include hT
theorem Ld.one {w : World} {t : TypeId} {a : Addr} {K : Value → Prop} {v : Value} {d : Td} (hl : look T t = some d) (ha : d.sh.agg = false) (hc : w.cell? a = some v) (hk : K v) : Ld P w t a K := by
  refine Ld.mk ?_ hk
  have h1 := (hT _ _ hl).run_agg w
  rw [ha] at h1
  simp only [loadVar, Sem.run_bind, h1, Result.andThen_ok, Bool.false_eq_true, if_false, run_load, hc]

omit hT in
theorem loadCellsFrom_run {w : World} {a : Addr} : ∀ (vs : List Value) (i : Nat) (acc : Array Value), (∀ j x, vs[j]? = some x → w.cell? (a.add (i + j)) = some x) →
    (loadCellsFrom a i vs.length acc).run P w = .ok (acc ++ vs.toArray) w
  | [], _, _, _ => by simp [loadCellsFrom]
  | v :: vs, i, acc, h => by
    have h0 := h 0 v (by simp)
    simp only [Nat.add_zero] at h0
    have := loadCellsFrom_run vs (i + 1) (acc.push v) (fun j x hj => by have := h (j + 1) x (by simpa using hj); rwa [show i + (j + 1) = i + 1 + j from by omega] at this)
    simp only [List.length_cons, loadCellsFrom, Sem.run_bind, run_load, h0, Result.andThen_ok, this]
    simp

theorem Ld.agg {w : World} {t : TypeId} {b o : Nat} {K : Value → Prop} {vs : List Value} {d : Td} (hl : look T t = some d) (ha : d.sh.agg = true) (hn : vs.length = d.size)
    (hc : ∀ j x, vs[j]? = some x → w.cell? ⟨b, o + j, none⟩ = some x) (hk : K (.agg vs.toArray)) : Ld P w t ⟨b, o, none⟩ K := by
  refine Ld.mk ?_ hk
  have h1 := (hT _ _ hl).run_agg w
  rw [ha] at h1
  have h2 := (hT _ _ hl).run_size w
  have h3 := loadCellsFrom_run (P := P) (w := w) (a := ⟨b, o, none⟩) vs 0 #[] (fun j x hj => by rw [Addr.add_lit, Nat.zero_add]; exact hc j x hj)
  rw [hn] at h3
  simp only [loadVar, Sem.run_bind, h1, Result.andThen_ok, if_true, h2, loadCells, h3, Sem.run_pure]
  simp

theorem St.one {w : World} {t : TypeId} {a : Addr} {K : World → Prop} {v u : Value} {d : Td} (hl : look T t = some d) (hs : d.size = 1) (hv : cellsL v = [v]) (h1 : v.oneCell' = true) (hc : w.cell? a = some u) (hf : w.frozen? a = false) (hk : K (w.setCell a v)) : St P w t a v K := by
  refine St.mk ?_ hk
  have hz := (hT _ _ hl).run_size w
  rw [hs] at hz
  have hcs : v.cells = #[v] := by rw [cellsL_eq, hv]
  have hst : (store (a.add 0) v).run P w = .ok () (w.setCell a v) := by
    rw [run_store P w _ v _ h1]
    simp [Addr.add, hc, hf]
  simp [storeVar, hz, hcs, storeCells, hst]

/-- a store of several cells -/
theorem St.agg {w : World} {t : TypeId} {b o : Nat} {K : World → Prop} {vs : List Value} {e : TypeId} {cur : Array Value} {d : Td} (hl : look T t = some d) (hn : vs.length = d.size) (h1 : ∀ u ∈ vs, u.oneCell' = true)
    (hg : w.heap[b]? = some (.cells cur e (0, 0))) (hfit : o + vs.length ≤ cur.size)
    (hk : K (w.setRow b (cur.toList.take o ++ vs ++ cur.toList.drop (o + vs.length)).toArray)) : St P w t ⟨b, o, none⟩ (.agg vs.toArray) K := by
  refine St.mk ?_ hk
  have hz := (hT _ _ hl).run_size w
  have := run_storeCells_at P b o e vs 0 cur w hg (by simpa using hfit) h1
  simp only [Nat.add_zero] at this
  simp [storeVar, hz, Value.cells, hn, this]
end

/-! ### A row of cells; a slice that is read -/
/-- block b holds these from o on -/
def Row (w : World) (b o : Nat) (xs : List Value) : Prop := ∀ i x, xs[i]? = some x → w.cell? ⟨b, o + i, none⟩ = some x

theorem Row.at {w : World} {b o : Nat} {xs : List Value} (h : Row w b o xs) {i : Nat} {x : Value} (hx : xs[i]? = some x) {o' : Nat} (ho : o' = o + i) : w.cell? ⟨b, o', none⟩ = some x := by
  subst ho; exact h i x hx
theorem Row.drop {w : World} {b o : Nat} {xs : List Value} (h : Row w b o xs) (k : Nat) : Row w b (o + k) (xs.drop k) := fun i x hx => by
  rw [Nat.add_assoc]
  exact h (k + i) x (by simpa using hx)
theorem Row.take {w : World} {b o : Nat} {xs : List Value} (h : Row w b o xs) (k : Nat) : Row w b o (xs.take k) := fun i x hx => by
  rw [List.getElem?_take] at hx
  split at hx
  · exact h i x hx
  · cases hx
theorem Row.left {w : World} {b o : Nat} {xs ys : List Value} (h : Row w b o (xs ++ ys)) : Row w b o xs := fun i x hx => by
  have := (List.getElem?_eq_some_iff.1 hx).1
  exact h i x (by rw [List.getElem?_append_left this]; exact hx)
theorem Row.of_block {w w' : World} {b o : Nat} {xs : List Value} (h : Row w b o xs) (hb : w'.heap[b]? = w.heap[b]?) : Row w' b o xs := fun i x hx => by
  have := h i x hx
  rwa [World.cell?_of_block (w := w) (w' := w') (a := ⟨b, o + i, none⟩) hb]
theorem Row.lt {w : World} {b o : Nat} {xs : List Value} (h : Row w b o xs) (hx : xs ≠ []) : b < w.heap.size := by
  cases xs with
  | nil => exact absurd rfl hx
  | cons x xs => exact World.block_lt_of_cell? w _ (h 0 x (by simp))

/-- a slice of one-cell elements that may be read -/
structure Sl (w : World) (v : Value) (xs : List Value) : Prop where
  of : ∃ a c, v = .slice a xs.length c ∧ xs.length ≤ c ∧ c ≤ maxLen ∧ (a = none → c = 0) ∧ (∀ ad, a = some ad → ad.spot = none ∧ Row w ad.block ad.off xs)

theorem Sl.cases {w : World} {v : Value} {xs : List Value} (h : Sl w v xs) : (v = .slice none 0 0 ∧ xs = []) ∨ ∃ b o c, v = .slice (some ⟨b, o, none⟩) xs.length c ∧ xs.length ≤ c ∧ c ≤ maxLen ∧ Row w b o xs := by
  obtain ⟨a, c, rfl, h1, h2, h3, h4⟩ := h.of
  cases a with
  | none =>
    have hc := h3 rfl
    subst hc
    have hx : xs = [] := List.eq_nil_of_length_eq_zero (by omega)
    subst hx
    exact .inl ⟨rfl, rfl⟩
  | some ad =>
    obtain ⟨b, o, s⟩ := ad
    obtain ⟨hs, hr⟩ := h4 _ rfl
    simp only at hs; subst hs
    exact .inr ⟨b, o, c, rfl, h1, h2, hr⟩
theorem Sl.shape {w : World} {v : Value} {xs : List Value} (h : Sl w v xs) : ∃ a c, v = .slice a xs.length c := by
  obtain ⟨a, c, he, _⟩ := h.of
  exact ⟨a, c, he⟩
theorem Sl.nil (w : World) : Sl w (.slice none 0 0) [] := ⟨none, 0, rfl, Nat.le_refl _, by simp [maxLen], fun _ => rfl, fun _ h => by cases h⟩
theorem Sl.some' {w : World} {b o n c : Nat} {xs : List Value} (hn : n = xs.length) (hc : xs.length ≤ c) (hm : c ≤ maxLen) (h : Row w b o xs) : Sl w (.slice (some ⟨b, o, none⟩) n c) xs := by
  subst hn
  exact ⟨_, c, rfl, hc, hm, nofun, (fun ad had => by injection had with had; subst had; exact ⟨rfl, h⟩)⟩
theorem Sl.len {w : World} {a : Option Addr} {n c : Nat} {xs : List Value} (h : Sl w (.slice a n c) xs) : n = xs.length ∧ n ≤ c ∧ c ≤ maxLen := by
  obtain ⟨a', c', he, h1, h2, _⟩ := h.of
  injection he with _ e2 e3
  subst e3
  exact ⟨e2, by omega, h2⟩
theorem Sl.le {w : World} {v : Value} {xs : List Value} (h : Sl w v xs) : xs.length ≤ 9223372036854775807 := by
  obtain ⟨a, c, _, h1, h2, _⟩ := h.of
  simp only [maxLen] at h2
  omega
/-- where there is an element there is an address -/
theorem Sl.addr {w : World} {a : Option Addr} {n c : Nat} {xs : List Value} (h : Sl w (.slice a n c) xs) (hx : 0 < n) : ∃ b o, a = some ⟨b, o, none⟩ ∧ Row w b o xs := by
  obtain ⟨a', c', he, h1, h2, h3, h4⟩ := h.of
  injection he with e1 e2 e3
  subst e1; subst e3
  cases a with
  | none => have := h3 rfl; omega
  | some ad =>
    obtain ⟨b, o, s⟩ := ad
    obtain ⟨hs, hr⟩ := h4 _ rfl
    simp only at hs; subst hs
    exact ⟨b, o, rfl, hr⟩
/-- its block, if it has one, lies below B -/
def Value.under (v : Value) (B : Nat) : Prop := ∀ k, v.ownBlock = some k → k < B
theorem Sl.keep {w w' : World} {v : Value} {xs : List Value} (h : Sl w v xs) (hb : ∀ k, v.ownBlock = some k → xs ≠ [] → w'.heap[k]? = w.heap[k]?) : Sl w' v xs := by
  rcases h.cases with ⟨rfl, rfl⟩ | ⟨b, o, c, rfl, h1, h2, hr⟩
  · exact Sl.nil _
  · by_cases hx : xs = []
    · subst hx
      exact Sl.some' rfl h1 h2 (fun i x hx => by simp at hx)
    · exact Sl.some' rfl h1 h2 (hr.of_block (hb b rfl hx))
/-- below B the world has stayed: what is read there is read still -/
theorem Sl.below {w w' : World} {v : Value} {xs : List Value} (h : Sl w v xs) (hb : Below w.heap.size w w') : Sl w' v xs := by
  rcases h.cases with ⟨rfl, rfl⟩ | ⟨b, o, c, rfl, h1, h2, hr⟩
  · exact Sl.nil _
  · by_cases hx : xs = []
    · subst hx
      exact Sl.some' rfl h1 h2 (fun i x hx => by simp at hx)
    · exact Sl.some' rfl h1 h2 (hr.of_block (hb.block b (hr.lt hx)))
theorem Sl.of_own {w : World} {base : Nat} {e : TypeId} {v : Value} {n : Nat} {xs : List Value} (h : w.ownsRow base e 1 v n xs) : Sl w v xs := by
  have hn : xs.length = n := by simpa using h.1
  rcases h.2 with ⟨rfl, rfl⟩ | ⟨g, cap, cur, rfl, _, hg, hc, hm, hs, ht⟩
  · have : xs = [] := List.eq_nil_of_length_eq_zero hn
    subst this
    exact Sl.nil _
  · subst hn
    refine Sl.some' rfl hc hm (fun i x hx => ?_)
    have := h.cells (g := g) rfl i x hx
    rwa [Addr.add_lit] at this
theorem own_len {w : World} {base : Nat} {e : TypeId} {v : Value} {n : Nat} {xs : List Value} (h : w.ownsRow base e 1 v n xs) : n = xs.length := by simpa using h.1.symm

theorem Sl.take {w : World} {b o n c : Nat} {xs : List Value} (h : Sl w (.slice (some ⟨b, o, none⟩) n c) xs) {k : Nat} (hk : k ≤ xs.length) {c' : Nat} (h1 : k ≤ c') (h2 : c' ≤ c) : Sl w (.slice (some ⟨b, o, none⟩) k c') (xs.take k) := by
  obtain ⟨a', c0, he, e1, e2, _, e4⟩ := h.of
  injection he with he1 he2 he3
  subst he1; subst he3
  exact Sl.some' (by simp; omega) (by simp; omega) (by omega) ((e4 _ rfl).2.take k)
theorem Sl.drop {w : World} {b o n c : Nat} {xs : List Value} (h : Sl w (.slice (some ⟨b, o, none⟩) n c) xs) {k : Nat} (hk : k ≤ xs.length) {o' n' c' : Nat} (ho : k < c → o' = o + k) (hn : n' = n - k) (hc : c' = c - k) : Sl w (.slice (some ⟨b, o', none⟩) n' c') (xs.drop k) := by
  obtain ⟨hl, hnc, hcm⟩ := h.len
  obtain ⟨a', c0, he, e1, e2, _, e4⟩ := h.of
  injection he with he1 he2 he3
  subst he1; subst he3
  by_cases hkc : k < c
  · rw [ho hkc]
    exact Sl.some' (by simp; omega) (by simp; omega) (by omega) ((e4 _ rfl).2.drop k)
  · have : xs.drop k = [] := List.drop_eq_nil_of_le (by omega)
    rw [this]
    exact Sl.some' (by simp; omega) (by simp) (by omega) (fun i x hx => by simp at hx)

/-! ### A block that is known whole -/
def Blk (w : World) (b : Nat) (cs : List Value) (e : TypeId) : Prop := w.heap[b]? = some (.cells cs.toArray e (0, 0))
theorem Blk.cell {w : World} {b : Nat} {cs : List Value} {e : TypeId} (h : Blk w b cs e) {i : Nat} {v : Value} (hv : cs[i]? = some v) : w.cell? ⟨b, i, none⟩ = some v := by
  rw [cell_of_row w b i _ e (0, 0) h]; simpa using hv
theorem Blk.row {w : World} {b : Nat} {cs : List Value} {e : TypeId} (h : Blk w b cs e) : Row w b 0 cs := fun i x hx => by rw [Nat.zero_add]; exact h.cell hx
theorem Blk.nofz {w : World} {b : Nat} {cs : List Value} {e : TypeId} (h : Blk w b cs e) (i : Nat) : w.frozen? ⟨b, i, none⟩ = false := by
  simp only [World.frozen?, show w.heap[b]? = _ from h]
  simp
theorem Blk.lt {w : World} {b : Nat} {cs : List Value} {e : TypeId} (h : Blk w b cs e) : b < w.heap.size := (Array.getElem?_eq_some_iff.1 h).1
theorem Blk.keep {w w' : World} {b : Nat} {cs : List Value} {e : TypeId} (h : Blk w b cs e) (hb : w'.heap[b]? = w.heap[b]?) : Blk w' b cs e := hb.trans h
theorem Blk.grown {w w' : World} {b : Nat} {cs : List Value} {e : TypeId} {row : Option Nat} (h : Blk w b cs e) (hg : w.grownBy w' row) (hr : some b ≠ row) : Blk w' b cs e := h.keep (hg.block b h.lt hr)
theorem Blk.below {w w' : World} {b B : Nat} {cs : List Value} {e : TypeId} (h : Blk w b cs e) (hb : Below B w w') (hB : b < B) : Blk w' b cs e := h.keep (hb.block b hB)
theorem Blk.set {w : World} {b : Nat} {cs : List Value} {e : TypeId} (h : Blk w b cs e) (i : Nat) (v : Value) : Blk (w.setCell ⟨b, i, none⟩ v) b (cs.set i v) e := by
  have h' : w.heap[b]? = some (.cells cs.toArray e (0, 0)) := h
  unfold Blk
  simp only [World.setCell, Array.getElem?_modify, if_true, h', Option.map_some]
  simp
theorem grownBy_set (w : World) (b i : Nat) (v : Value) : w.grownBy (w.setCell ⟨b, i, none⟩ v) (some b) :=
  ⟨rfl, rfl, rfl, by simp [World.setCell], fun k hk hne => Below.heap_setCell _ _ _ _ (fun e => hne (by rw [e]))⟩
theorem grownBy_setRow (w : World) (b : Nat) (cs : Array Value) : w.grownBy (w.setRow b cs) (some b) :=
  ⟨rfl, rfl, rfl, by simp [World.setRow], fun k _ hk => setRow_other w b k _ (fun e => hk (by rw [e]))⟩

theorem Nw.cells {w : World} {K : Nat → World → Prop} {cs : List Value} {e : TypeId} (h : ∀ b w', b = w.heap.size → Blk w' b cs e → w.grownBy w' none → b < w'.heap.size → K b w') : Nw w (.cells cs.toArray e) K :=
  Nw.mk (h _ _ rfl (heap_alloc_new w _) (World.grownBy_alloc w _ none) (by simp))

section
variable {P : Program} {T : Tab} (hT : TabOk P T)
include hT
theorem Ld.blk {w : World} {t e : TypeId} {b i : Nat} {cs : List Value} {K : Value → Prop} {v : Value} {d : Td} (hl : look T t = some d) (ha : d.sh.agg = false) (hb : Blk w b cs e) (hv : cs[i]? = some v) (hk : K v) : Ld P w t ⟨b, i, none⟩ K :=
  Ld.one hT hl ha (hb.cell hv) hk
theorem St.blk {w : World} {t e : TypeId} {b i : Nat} {cs : List Value} {K : World → Prop} {v : Value} {d : Td} (hl : look T t = some d) (hs : d.size = 1) (hb : Blk w b cs e) (hi : i < cs.length) (hv : cellsL v = [v]) (h1 : v.oneCell' = true)
    (hk : ∀ w', Blk w' b (cs.set i v) e → w.grownBy w' (some b) → K w') : St P w t ⟨b, i, none⟩ v K :=
  St.one hT hl hs hv h1 (hb.cell (List.getElem?_eq_getElem hi)) (hb.nofz i) (hk _ (hb.set i v) (grownBy_set w b i v))
theorem St.blks {w : World} {t e : TypeId} {b i : Nat} {cs vs : List Value} {K : World → Prop} {d : Td} (hl : look T t = some d) (hs : vs.length = d.size) (hb : Blk w b cs e) (hi : i + vs.length ≤ cs.length) (h1 : ∀ u ∈ vs, u.oneCell' = true)
    (hk : ∀ w', Blk w' b (cs.take i ++ vs ++ cs.drop (i + vs.length)) e → w.grownBy w' (some b) → K w') : St P w t ⟨b, i, none⟩ (.agg vs.toArray) K :=
  St.agg hT hl hs h1 (show w.heap[b]? = some (.cells cs.toArray e (0, 0)) from hb) (by simpa using hi) (hk _ (by
    have := setRow_heap w b cs.toArray (cs.take i ++ vs ++ cs.drop (i + vs.length)).toArray e (0, 0) hb
    simpa [Blk] using this) (by simpa using grownBy_setRow w b _))
theorem Ld.blks {w : World} {t e : TypeId} {b i : Nat} {cs : List Value} (vs : List Value) {K : Value → Prop} {d : Td} (hl : look T t = some d) (ha : d.sh.agg = true) (hb : Blk w b cs e) (hn : vs.length = d.size) (hv : ∀ j x, vs[j]? = some x → cs[i + j]? = some x) (hk : K (.agg vs.toArray)) : Ld P w t ⟨b, i, none⟩ K :=
  Ld.agg hT hl ha hn (fun j x hx => hb.cell (hv j x hx)) hk
end

/-! ### Bytes -/
def u8 (b : UInt8) : Value := .int .u8 (b.toNat : Int)
def bv (l : List UInt8) : List Value := l.map u8
@[simp] theorem bv_length (l : List UInt8) : (bv l).length = l.length := by simp [bv]
@[simp] theorem bv_nil : bv [] = [] := rfl
theorem bv_append (l m : List UInt8) : bv (l ++ m) = bv l ++ bv m := by simp [bv]
theorem bv_take (l : List UInt8) (k : Nat) : bv (l.take k) = (bv l).take k := by simp [bv]
theorem bv_drop (l : List UInt8) (k : Nat) : bv (l.drop k) = (bv l).drop k := by simp [bv]
theorem bv_get {l : List UInt8} {i : Nat} {b : UInt8} (h : l[i]? = some b) : (bv l)[i]? = some (.int .u8 (b.toNat : Int)) := by simp [bv, h, u8]
theorem bv_one (l : List UInt8) : ∀ u ∈ bv l, u.oneCell' = true := by
  intro u hu
  obtain ⟨b, _, rfl⟩ := List.mem_map.1 hu
  rfl
theorem u8_mk (n : Int) (h0 : 0 ≤ n) (h1 : n < 256) : (.int .u8 n : Value) = u8 (UInt8.ofNat n.toNat) := by
  unfold u8
  congr 1
  simp only [UInt8.toNat_ofNat']
  omega
theorem u8_lt (b : UInt8) : (b.toNat : Int) < 256 := by have := b.toNat_lt; omega

end Go.Proofs.Ytlldgodjfpgbcaa
