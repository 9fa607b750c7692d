/- Elements of slices, loaded. Nothing is claimed here. -/
import Derived.Test.YtlldgodjfpgbcaaS
import Derived.Test.YtlldgodjfpgbcaaVx
namespace Go.Proofs.Ytlldgodjfpgbcaa
open Go.RowKit
set_option linter.unusedVariables false
set_option linter.unusedSimpArgs false

theorem Br.yes {b : Bool} {A B : Prop} (h : b = true) (hA : A) : Br b A B := by subst h; exact Br.tt hA
theorem Br.no {b : Bool} {A B : Prop} (h : b = false) (hB : B) : Br b A B := by subst h; exact Br.ff hB
theorem flat_get {α : Type} {f : α → List Value} {sz : Nat} (hf : ∀ s, (f s).length = sz) : ∀ {ss : List α} {k : Nat} {s : α} (j : Nat), ss[k]? = some s → j < sz → (ss.flatMap f)[k * sz + j]? = (f s)[j]?
  | [], k, s, j, h, _ => by simp at h
  | x :: ss, 0, s, j, h, hj => by
    simp at h; subst h
    rw [List.flatMap_cons, Nat.zero_mul, Nat.zero_add, List.getElem?_append_left (by rw [hf]; exact hj)]
  | x :: ss, k + 1, s, j, h, hj => by
    rw [List.flatMap_cons, List.getElem?_append_right (by rw [hf, Nat.add_mul]; omega), hf]
    have := flat_get hf (ss := ss) (k := k) (s := s) j (by simpa using h) hj
    rw [show (k + 1) * sz + j - sz = k * sz + j from by rw [Nat.add_mul]; omega]
    exact this
theorem flat_len {α : Type} {f : α → List Value} {sz : Nat} (hf : ∀ s, (f s).length = sz) : ∀ ss : List α, (ss.flatMap f).length = ss.length * sz
  | [] => by simp
  | x :: ss => by rw [List.flatMap_cons, List.length_append, hf, flat_len hf ss, List.length_cons, Nat.add_mul]; omega

theorem SlN.shape {w : World} {sz n : Nat} {v : Value} {xs : List Value} (h : SlN w sz v n xs) : ∃ a c, v = .slice a n c := by
  obtain ⟨a, c, he, _⟩ := h.of
  exact ⟨a, c, he⟩
theorem SlN.addr {w : World} {sz : Nat} {a : Option Addr} {n c m : Nat} {xs : List Value} (h : SlN w sz (.slice a n c) m xs) (hx : 0 < n) : ∃ b o, a = some ⟨b, o, none⟩ ∧ Row w b o xs := by
  obtain ⟨a', c', he, h1, h2, h3, h4⟩ := h.of
  injection he with e1 e2 e3
  subst e1; subst e3
  cases a with
  | none => have := h3 rfl; omega
  | some ad =>
    obtain ⟨b, o, s⟩ := ad
    obtain ⟨hs, hr⟩ := h4 _ rfl
    simp only at hs; subst hs
    exact ⟨b, o, rfl, hr⟩
theorem SlN.le {w : World} {sz n : Nat} {v : Value} {xs : List Value} (h : SlN w sz v n xs) : n ≤ 9223372036854775807 := by
  obtain ⟨a, c, _, h1, h2, _⟩ := h.of
  simp only [maxLen] at h2
  omega

section
variable {P : Program} {T : Tab} (hT : TabOk P T)
include hT
/-- an element of one cell -/
theorem Ld.row1 {w : World} {t : TypeId} {d : Td} {b o o' : Nat} {xs : List Value} {k : Nat} {v : Value} {K : Value → Prop} (hr : Row w b o xs) (hl : look T t = some d) (ha : d.sh.agg = false) (hx : xs[k]? = some v) (ho : o' = o + k) (hk : K v) : Ld P w t ⟨b, o', none⟩ K := by
  subst ho
  exact Ld.one hT hl ha (hr k v hx) hk
/-- an element of several cells -/
theorem Ld.rowN {w : World} {t : TypeId} {d : Td} {b o o' : Nat} {α : Type} {f : α → List Value} {sz : Nat} (hf : ∀ s, (f s).length = sz) {ss : List α} {k : Nat} {s : α} {K : Value → Prop} (hr : Row w b o (ss.flatMap f)) (hl : look T t = some d) (ha : d.sh.agg = true) (hs : d.size = sz) (hx : ss[k]? = some s) (ho : o' = o + k * sz)
    (hk : K (.agg (f s).toArray)) : Ld P w t ⟨b, o', none⟩ K := by
  subst ho
  refine Ld.agg hT hl ha (by rw [hf, hs]) (fun j x hj => ?_) hk
  have hjl := (List.getElem?_eq_some_iff.1 hj).1
  rw [hf] at hjl
  have := hr (k * sz + j) x (by rw [flat_get hf j hx hjl]; exact hj)
  rwa [← Nat.add_assoc] at this
/-- one cell of an element of several -/
theorem Ld.rowF {w : World} {t : TypeId} {d : Td} {b o o' : Nat} {α : Type} {f : α → List Value} {sz : Nat} (hf : ∀ s, (f s).length = sz) {ss : List α} {k : Nat} {s : α} {v : Value} {K : Value → Prop} (j : Nat) (hr : Row w b o (ss.flatMap f)) (hl : look T t = some d) (ha : d.sh.agg = false) (hx : ss[k]? = some s) (hj : (f s)[j]? = some v) (ho : o' = o + k * sz + j)
    (hk : K v) : Ld P w t ⟨b, o', none⟩ K := by
  subst ho
  have hjl := (List.getElem?_eq_some_iff.1 hj).1
  rw [hf] at hjl
  refine Ld.one hT hl ha ?_ hk
  have := hr (k * sz + j) v (by rw [flat_get hf j hx hjl]; exact hj)
  rwa [← Nat.add_assoc] at this
omit hT in
theorem Lq.of_row {w : World} {t : TypeId} {a : Addr} {v : Value} {K : Value → Prop} (h : Ld P w t a fun u => u = v) (hk : K v) : Lq P (fun x => x = w) t a K :=
  Lq.mk v (fun w' hw => by
    subst hw
    obtain ⟨u, hu, rfl⟩ := h.o
    exact hu) hk
omit hT in
theorem Lq.of_class {C : World → Prop} {t : TypeId} {a : Addr} {v : Value} {K : Value → Prop} (h : ∀ w, C w → Ld P w t a fun u => u = v) (hk : K v) : Lq P C t a K :=
  Lq.mk v (fun w' hw => by
    obtain ⟨u, hu, rfl⟩ := (h w' hw).o
    exact hu) hk
end
section
variable {P : Program} {T : Tab} (hT : TabOk P T) {B : Nat} {w0 w : World} {L : List Res} (hL : Sep P B w0 w L)
include hL hT
/-- a region whose order is open: reads, and writes into thing number n, which none of the reads looks at -/
theorem V.treeS {N : Nat} {Q : Exit → Env → World → Prop} {e : Env} {id : Nat} {ops : Array Oper} (n : Nat) {b : Nat} {cs : List Value} {ty : TypeId} (hn : L[n]? = some (.blk b cs ty)) (pl : Pl) (hm : P.follows .mixedOrders = true)
    (hB : treeB ops pl = true) (h : heldT P T N (fun x => Sep P B w0 x (L.eraseIdx n)) ops.toList pl e w.drew fun e' w' => Q .normal e' w') : V P N (.region id ops true) Q e w :=
  V.tree hT _ pl hm hB (hL.drew.pop n) h
/-- .. and writes into new things alone -/
theorem V.treeA {N : Nat} {Q : Exit → Env → World → Prop} {e : Env} {id : Nat} {ops : Array Oper} (pl : Pl) (hm : P.follows .mixedOrders = true)
    (hB : treeB ops pl = true) (h : heldT P T N (fun x => Sep P B w0 x L) ops.toList pl e w.drew fun e' w' => Q .normal e' w') : V P N (.region id ops true) Q e w :=
  V.tree hT _ pl hm hB hL.drew h
/-- .. and writes into thing number n, or appends to it -/
theorem V.treeP {N : Nat} {Q : Exit → Env → World → Prop} {e : Env} {id : Nat} {ops : Array Oper} (n : Nat) (pl : Pl) (hm : P.follows .mixedOrders = true)
    (hB : treeB ops pl = true) (h : heldT P T N (fun x => Sep P B w0 x (L.eraseIdx n)) ops.toList pl e w.drew fun e' w' => Q .normal e' w') : V P N (.region id ops true) Q e w :=
  V.tree hT _ pl hm hB (hL.drew.pop n) h
end

/-! ### A slice that may be read; an empty one may lie anywhere -/
structure SlE (w : World) (v : Value) (xs : List Value) : Prop where
  of : Sl w v xs ∨ ∃ ad, v = .slice (some ad) 0 0 ∧ xs = []
theorem Sl.e {w : World} {v : Value} {xs : List Value} (h : Sl w v xs) : SlE w v xs := ⟨.inl h⟩
theorem SlE.nil (w : World) : SlE w (.slice none 0 0) [] := (Sl.nil w).e
theorem SlE.shape {w : World} {v : Value} {xs : List Value} (h : SlE w v xs) : ∃ a c, v = .slice a xs.length c := by
  rcases h.of with h | ⟨ad, rfl, rfl⟩
  · exact h.shape
  · exact ⟨_, _, rfl⟩
theorem SlE.le {w : World} {v : Value} {xs : List Value} (h : SlE w v xs) : xs.length ≤ 9223372036854775807 := by
  rcases h.of with h | ⟨ad, rfl, rfl⟩
  · exact h.le
  · simp
theorem SlE.below {w w' : World} {v : Value} {xs : List Value} (h : SlE w v xs) (hb : Below w.heap.size w w') : SlE w' v xs := by
  rcases h.of with h | h
  · exact (h.below hb).e
  · exact ⟨.inr h⟩
theorem Sep.slE {P : Program} {B : Nat} {w0 w : World} {L : List Res} (h : Sep P B w0 w L) {v : Value} {xs : List Value} (hs : SlE w0 v xs) (hB : B = w0.heap.size) : SlE w v xs := by
  subst hB; exact hs.below h.below
section
variable {P : Program} {T : Tab} (hT : TabOk P T)
include hT
theorem toStrE_run {w : World} {t u e : TypeId} {s b s1 b1 s2 b2 : Nat} {z z1 z2 : Value} (ht : look T t = some ⟨.slice e, s, b, z⟩) (he : look T e = some ⟨.int .u8, s1, b1, z1⟩) (hu : look T u = some ⟨.str, s2, b2, z2⟩) {v : Value} {l : List UInt8} (h : SlE w v (bv l)) :
    (convert t u v).run P w = .ok (.string (mkB l)) w := by
  rcases h.of with h1 | ⟨ad, rfl, h1⟩
  · exact toStr_run hT ht he hu h1
  · have hl : l = [] := by simpa [bv] using h1
    subst hl
    have ht' := und_slice hT ht
    obtain ⟨x, hx, hs⟩ := shOf_cases hT he
    cases x <;> simp only [shOf, reduceCtorEq, Sh.int.injEq] at hs
    subst hs
    obtain ⟨y, hy, hs⟩ := shOf_cases hT hu
    cases y <;> simp only [shOf, reduceCtorEq] at hs
    rw [run_convert_bytes_string w t u e _ 0 0 ht' hx hy, run_bytesToString w ad 0 0 [] (by simp [loadCells, loadCellsFrom])]
    rfl
theorem Rv.toStrE {w : World} {K : Value → World → Prop} {t u e : TypeId} {s b s1 b1 s2 b2 : Nat} {z z1 z2 : Value} (ht : look T t = some ⟨.slice e, s, b, z⟩) (he : look T e = some ⟨.int .u8, s1, b1, z1⟩) (hu : look T u = some ⟨.str, s2, b2, z2⟩) {v : Value} {l : List UInt8} (h : SlE w v (bv l))
    (hk : K (.string (mkB l)) w) : Rv P (convert t u v) w K := Rv.mk (toStrE_run hT ht he hu h) hk
theorem Rq.toStrE {C : World → Prop} {K : Value → Prop} {t u e : TypeId} {s b s1 b1 s2 b2 : Nat} {z z1 z2 : Value} (ht : look T t = some ⟨.slice e, s, b, z⟩) (he : look T e = some ⟨.int .u8, s1, b1, z1⟩) (hu : look T u = some ⟨.str, s2, b2, z2⟩) {v : Value} {l : List UInt8} (h : ∀ w, C w → SlE w v (bv l))
    (hk : K (.string (mkB l))) : Rq P C (convert t u v) K := Rq.mk _ (fun w' hw => toStrE_run hT ht he hu (h w' hw)) hk
end
end Go.Proofs.Ytlldgodjfpgbcaa
