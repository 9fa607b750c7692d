/- slices.Sort at []uint64: the parts. Nothing is claimed here. -/
import Derived.Test.YtpkealgeigpjpaaDoorOg
import Derived.Sort.AssemblyPlain
namespace Go.Proofs.YtpkealgeigpjpaaDoor
open Go.RowKit
set_option linter.unusedVariables false
set_option linter.unusedSimpArgs false
set_option maxRecDepth 100000

def q64 (k : Nat) : Value := .int .u64 (k : Int)
def ltN (x y : Nat) : Bool := decide (x < y)
/-- a slice of numbers that is sorted -/
def Dat (g cap n : Nat) (d : Array Nat) : Res := .row 32 1 (.slice (some ⟨g, 0, none⟩) n cap) n (d.toList.map q64)
theorem splice_one {xs : List Value} {k : Nat} {v : Value} (h : k < xs.length) : splice xs k [v] = xs.set k v := by
  rw [splice_eq _ _ _ (by simp; omega), List.set_eq_take_append_cons_drop, if_pos h]
  simp
/-- what a call owns behind it -/
structure Owns (B : Nat) (w0 w : World) (L : List Res) : Prop where
  sep : Sep Tryd.prog B w0 w L
  le : B ≤ w.heap.size
theorem ite_t {α : Type} {c : Bool} {x y : α} (h : c = true) : (if c = true then x else y) = x := if_pos h
theorem ite_f {α : Type} {c : Bool} {x y : α} (h : c = false) : (if c = true then x else y) = y := by rw [h]; rfl
section
variable {B g cap n : Nat} {d : Array Nat} {w0 w : World} {L F : List Res}
theorem datRow (h : Sep Tryd.prog B w0 w L) (i : Nat) (hi : L[i]? = some (Dat g cap n d)) (h0 : 0 < n) : Row w g 0 (d.toList.map q64) := by
  have h1 : Sl w (.slice (some ⟨g, 0, none⟩) n cap) (d.toList.map q64) := h.row hi
  obtain ⟨b, o, he, hr⟩ := h1.addr h0
  cases he
  exact hr
theorem datLen (h : Sep Tryd.prog B w0 w L) (i : Nat) (hi : L[i]? = some (Dat g cap n d)) : d.size = n := by
  have h1 : Sl w (.slice (some ⟨g, 0, none⟩) n cap) (d.toList.map q64) := h.row hi
  obtain ⟨a, c, he⟩ := h1.shape
  injection he with e1 e2
  simpa using e2.symm
theorem get_q {k : Nat} (h : k < d.size) : (d.toList.map q64)[k]? = some (q64 d[k]!) := by
  rw [List.getElem?_map, Array.getElem?_toList, Array.getElem?_eq_getElem h, getElem!_pos d k h]
  rfl
theorem Ld.dat (hL : Sep Tryd.prog B w0 w L) (i k : Nat) {K : Value → Prop} (hi : L[i]? = some (Dat g cap n d)) (hk : k < n) (h : K (q64 d[k]!)) : Ld Tryd.prog w 32 ⟨g, k, none⟩ K :=
  Ld.row1 ttOk (datRow hL i hi (by omega)) (k := k) tl32 rfl (get_q (by rw [datLen hL i hi]; exact hk)) (by omega) h
theorem Lq.dat {C : World → Prop} (hc : ∀ x, C x → Sep Tryd.prog B w0 x L) (i k : Nat) {K : Value → Prop} (hi : L[i]? = some (Dat g cap n d)) (hk : k < n) (h : K (q64 d[k]!)) : Lq Tryd.prog C 32 ⟨g, k, none⟩ K :=
  Lq.of_class (fun x hx => Ld.dat (hc x hx) i k hi hk rfl) h
theorem St.dat (hL : Sep Tryd.prog B w0 w L) (hB : B ≤ w.heap.size) (i k : Nat) {x : Nat} {K : World → Prop} (hi : L[i]? = some (Dat g cap n d)) (hk : k < n) (h : ∀ w, Sep Tryd.prog B w0 w (L.set i (Dat g cap n (d.setIfInBounds k x))) → B ≤ w.heap.size → K w) : St Tryd.prog w 32 ⟨g, k, none⟩ (q64 x) K := by
  have hl := datLen hL i hi
  refine St.rowS ttOk hL i tl32 rfl rfl hi (by simp; show k + 1 ≤ _; omega) hB fun w' h1 hB' => h w' ?_ hB'
  have e : splice (d.toList.map q64) k (cellsL (q64 x)) = (d.setIfInBounds k x).toList.map q64 := by
    rw [Array.toList_setIfInBounds, List.map_set]
    exact splice_one (by simp; omega)
  rw [e] at h1
  exact h1
end
theorem isNaNQ_fn (x : Nat) (w : World) : Fn Tryd.prog 108 #[q64 x] w fun r w' => r = .bool false ∧ w' = w := by
  have hL := Sep.start Tryd.prog w
  have hB := Nat.le_refl w.heap.size
  unfold q64
  refine Fn.mk Tryd.func108 rfl (by kernel_rfl) Tryd.ntmps108 rfl (by rw [Tryd.results108]) ?_
  repeat (first | (refine RunH ?_; intro w hL hB; try clear w) | (refine Both.mk ?_ ?_ <;> conv => whnf) | fail)
  exact ⟨by simp, rfl⟩
theorem lessQ_fn (x y : Nat) (w : World) : Fn Tryd.prog 92 #[q64 x, q64 y] w fun r w' => r = .bool (ltN x y) ∧ w' = w := by
  have hL := Sep.start Tryd.prog w
  have hB := Nat.le_refl w.heap.size
  have h1 := isNaNQ_fn x
  unfold q64 at *
  refine Fn.mk Tryd.func92 rfl (by kernel_rfl) Tryd.ntmps92 rfl (by rw [Tryd.results92]) ?_
  repeat (first | (refine RunH ?_; intro w hL hB; try clear w) | (refine Both.mk ?_ ?_ <;> conv => whnf) | (refine (h1 _).mono fun r w1 hr => ?_; obtain ⟨hr, hw⟩ := hr; subst hr; subst hw; conv => whnf) | fail)
  exact ⟨by simp [ltN], rfl⟩
end Go.Proofs.YtpkealgeigpjpaaDoor
