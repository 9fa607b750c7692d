/- wal, plain: the segments of a log follow one another; one log alone on its disk. Nothing is claimed here. -/
import Derived.Test.YtjafamiaahabgaaGreatDoorAu
import Derived.Test.YtjafamiaahabgaaGreatDoorAl
namespace Go.Proofs.YtjafamiaahabgaaGreatDoor
open Go.RowKit Go.Lib
set_option linter.unusedVariables false
set_option linter.unusedSimpArgs false
set_option maxRecDepth 100000

/-- segments that follow one another, from n on to af; none but the last may be without entries -/
def ChG : Nat → List Wg → Nat → Prop
  | n, [], af => n = af
  | n, g :: gs, af => g.first = n ∧ (gs ≠ [] → g.es ≠ []) ∧ ChG g.next gs af
def flatG (G : List Wg) : List (List UInt8) := G.flatMap Wg.es
theorem flatG_cons (g : Wg) (G : List Wg) : flatG (g :: G) = g.es ++ flatG G := rfl
theorem flatG_app (A B : List Wg) : flatG (A ++ B) = flatG A ++ flatG B := List.flatMap_append
theorem ChG.af : ∀ {G : List Wg} {n af : Nat}, ChG n G af → af = n + (flatG G).length
  | [], n, af, h => by
    have h : n = af := h
    simp [flatG, h]
  | g :: gs, n, af, ⟨h1, h2, h3⟩ => by
    have h4 := ChG.af h3
    rw [flatG_cons, List.length_append]
    rw [Wg.next] at h4
    omega
theorem ChG.ge {G : List Wg} {n af : Nat} (h : ChG n G af) : n ≤ af := by have := h.af; omega
theorem ChG.mem : ∀ {G : List Wg} {n af : Nat}, ChG n G af → ∀ g ∈ G, n ≤ g.first ∧ g.next ≤ af
  | q :: gs, n, af, ⟨h1, h2, h3⟩, g, hg => by
    have h4 := h3.ge
    have h5 : q.next = q.first + q.es.length := rfl
    rcases List.mem_cons.1 hg with rfl | hg
    · omega
    · have := ChG.mem h3 g hg
      omega
theorem ChG.apart : ∀ {G : List Wg} {n af : Nat}, ChG n G af → apartW G
  | [], _, _, _ => by intro x y p q _ hp; simp at hp
  | g :: gs, n, af, ⟨h1, h2, h3⟩ => by
    intro x y p q hxy hp hq
    cases y with
    | zero => omega
    | succ y =>
      rw [List.getElem?_cons_succ] at hq
      cases x with
      | zero =>
        rw [List.getElem?_cons_zero] at hp
        obtain rfl := Option.some.inj hp
        have hm := List.mem_of_getElem? hq
        have h4 := h2 (List.ne_nil_of_mem hm)
        have h5 := (h3.mem q hm).1
        have h6 := List.length_pos_iff.2 h4
        have h7 : g.next = g.first + g.es.length := rfl
        omega
      | succ x =>
        rw [List.getElem?_cons_succ] at hp
        exact ChG.apart h3 x y p q (by omega) hp hq
theorem ChG.rises {G : List Wg} {n af : Nat} (h : ChG n G af) : G.Pairwise fun a b => a.first < b.first := by
  rw [List.pairwise_iff_getElem]
  intro i j hi hj hij
  exact (h.apart i j _ _ hij (List.getElem?_eq_getElem hi) (List.getElem?_eq_getElem hj)).1
theorem ChG.last : ∀ {G : List Wg} {n af : Nat}, ChG n G af → ∀ g, G.getLast? = some g → g.next = af
  | [], _, _, _, g, h => by simp at h
  | [q], n, af, ⟨_, _, h3⟩, g, h => by
    simp only [List.getLast?_singleton, Option.some.injEq] at h
    subst h; exact h3
  | q :: r :: gs, n, af, ⟨_, _, h3⟩, g, h => by
    rw [List.getLast?_cons_cons] at h
    exact ChG.last h3 g h
theorem ChG.app : ∀ {A B : List Wg} {n m af : Nat}, ChG n A m → (∀ g ∈ A, g.es ≠ []) → ChG m B af → ChG n (A ++ B) af
  | [], B, n, m, af, h, _, hB => by
    have h : n = m := h
    subst h; exact hB
  | g :: A, B, n, m, af, ⟨h1, h2, h3⟩, hA, hB => ⟨h1, fun _ => hA g (List.mem_cons_self ..), ChG.app h3 (fun q hq => hA q (List.mem_cons_of_mem _ hq)) hB⟩
theorem ChG.split : ∀ {A B : List Wg} {n af : Nat}, ChG n (A ++ B) af → ∃ m, ChG n A m ∧ ChG m B af
  | [], B, n, af, h => ⟨n, rfl, h⟩
  | g :: A, B, n, af, ⟨h1, h2, h3⟩ => by
    obtain ⟨m, hA, hB⟩ := ChG.split h3
    exact ⟨m, ⟨h1, fun hne => h2 (by simp [hne]), hA⟩, hB⟩
/-- an entry by its number -/
theorem getW_ch : ∀ {G : List Wg} {n af : Nat}, ChG n G af → ∀ i : Nat, n ≤ i → getW G i = (flatG G)[i - n]?
  | [], n, af, _, i, _ => by simp [getW, findW, flatG]
  | g :: gs, n, af, ⟨h1, h2, h3⟩, i, hi => by
    have hn : g.next = g.first + g.es.length := rfl
    by_cases h : i < g.next
    · have hl : i - n < g.es.length := by omega
      rw [getW, findW, List.find?_cons_of_pos (by simp; omega), flatG_cons, List.getElem?_append_left hl]
      simp only [Option.map_some]
      rw [show ((i : Int) - (g.first : Nat)).toNat = i - n by omega, List.getD_eq_getElem?_getD, List.getElem?_eq_getElem hl]
      rfl
    · have ih := getW_ch h3 i (by omega)
      rw [getW, findW] at ih ⊢
      rw [List.find?_cons_of_neg (by simp; omega), ih, flatG_cons, List.getElem?_append_right (by omega)]
      congr 1; omega
theorem getW_low {G : List Wg} {n af : Nat} (h : ChG n G af) {i : Int} (hi : i < (n : Int)) : getW G i = none := by
  rw [getW, findW, List.find?_eq_none.2]
  · rfl
  · intro g hg
    have := (h.mem g hg).1
    simp; omega
/-! ### bytes -/
def wtW (xs : List (List UInt8)) : Nat := (xs.map fun x => 10 + x.length).sum
theorem wtW_app (a b : List (List UInt8)) : wtW (a ++ b) = wtW a + wtW b := by simp [wtW]
theorem wtW_cons (x : List UInt8) (xs : List (List UInt8)) : wtW (x :: xs) = 10 + x.length + wtW xs := by simp [wtW]
theorem wtW_len : ∀ xs : List (List UInt8), 10 * xs.length ≤ wtW xs
  | [] => by simp [wtW]
  | x :: xs => by
    have := wtW_len xs
    rw [wtW_cons, List.length_cons]; omega
theorem wtW_mem : ∀ {xs : List (List UInt8)} {x : List UInt8}, x ∈ xs → x.length + 10 ≤ wtW xs
  | y :: xs, x, h => by
    rw [wtW_cons]
    rcases List.mem_cons.1 h with rfl | h
    · omega
    · have := wtW_mem h; omega
theorem recL_le {n : Nat} (h : n < 16384) (x : List UInt8) : recL n x ≤ 10 + x.length := by
  have : (encU n).length ≤ 2 := by
    unfold encU encG
    split
    · simp
    · unfold encG
      rw [if_pos (by omega)]
      simp
  rw [recL]; omega
theorem lenW_le : ∀ (xs : List (List UInt8)) (n : Nat), n + xs.length ≤ 16384 → lenW n xs ≤ wtW xs
  | [], n, _ => by simp [lenW, wtW]
  | x :: xs, n, h => by
    rw [List.length_cons] at h
    have h1 := lenW_le xs (n + 1) (by omega)
    have h2 := recL_le (n := n) (by omega) x
    rw [lenW, wtW_cons]; omega
theorem lenW_app : ∀ (n : Nat) (a b : List (List UInt8)), lenW n (a ++ b) = lenW n a + lenW (n + a.length) b
  | n, [], b => by simp [lenW]
  | n, x :: a, b => by
    rw [List.cons_append, lenW, lenW, lenW_app (n + 1) a b, List.length_cons, show n + 1 + a.length = n + (a.length + 1) by omega]; omega
theorem lenW_take (n : Nat) (xs : List (List UInt8)) (k : Nat) : lenW n (xs.take k) ≤ lenW n xs := by
  have h := lenW_app n (xs.take k) (xs.drop k)
  rw [List.take_append_drop] at h
  omega
theorem recsW_app : ∀ (n : Nat) (a b : List (List UInt8)), recsW n (a ++ b) = recsW n a ++ recsW (n + a.length) b
  | n, [], b => by simp [recsW]
  | n, x :: a, b => by
    rw [List.cons_append, recsW, recsW, recsW_app (n + 1) a b, List.length_cons, show n + 1 + a.length = n + (a.length + 1) by omega, List.append_assoc]
theorem recsW_take (n : Nat) (xs : List (List UInt8)) (k : Nat) : (recsW n xs).take (lenW n (xs.take k)) = recsW n (xs.take k) := by
  have h := recsW_app n (xs.take k) (xs.drop k)
  rw [List.take_append_drop] at h
  rw [h, List.take_left' (recsW_len _ _)]
/-! ### the disk's files -/
theorem getS_nm : ∀ {S : List Fl} {nm : ByteArray}, (∀ f ∈ S, f.nm ≠ nm) → getS S nm = none
  | [], _, _ => rfl
  | f :: S, nm, h => by rw [getS, if_neg (h f (List.mem_cons_self ..)), getS_nm fun g hg => h g (List.mem_cons_of_mem _ hg)]
theorem getS_at : ∀ {A C : List Fl} {f : Fl} {nm : ByteArray}, (∀ g ∈ A, g.nm ≠ nm) → f.nm = nm → getS (A ++ f :: C) nm = some f
  | [], C, f, nm, _, hf => by rw [List.nil_append, getS, if_pos hf]
  | g :: A, C, f, nm, h, hf => by rw [List.cons_append, getS, if_neg (h g (List.mem_cons_self ..)), getS_at (fun q hq => h q (List.mem_cons_of_mem _ hq)) hf]
theorem putS_end : ∀ {S : List Fl} {g : Fl}, (∀ f ∈ S, f.nm ≠ g.nm) → putS S g = S ++ [g]
  | [], _, _ => rfl
  | f :: S, g, h => by rw [putS, if_neg (h f (List.mem_cons_self ..)), putS_end fun q hq => h q (List.mem_cons_of_mem _ hq)]; rfl
theorem putS_at : ∀ {A C : List Fl} {f g : Fl}, (∀ x ∈ A, x.nm ≠ g.nm) → f.nm = g.nm → putS (A ++ f :: C) g = A ++ g :: C
  | [], C, f, g, _, hf => by rw [List.nil_append, putS, if_pos hf]; rfl
  | x :: A, C, f, g, h, hf => by rw [List.cons_append, putS, if_neg (h x (List.mem_cons_self ..)), putS_at (fun q hq => h q (List.mem_cons_of_mem _ hq)) hf]; rfl
theorem delS_at : ∀ {A C : List Fl} {f : Fl} {nm : ByteArray}, (∀ g ∈ A, g.nm ≠ nm) → f.nm = nm → delS (A ++ f :: C) nm = A ++ C
  | [], C, f, nm, _, hf => by rw [List.nil_append, delS, if_pos hf]; rfl
  | g :: A, C, f, nm, h, hf => by rw [List.cons_append, delS, if_neg (h g (List.mem_cons_self ..)), delS_at (fun q hq => h q (List.mem_cons_of_mem _ hq)) hf]; rfl
theorem nm_apart {pre : ByteArray} {A : List (Wg × Nat)} {n : Nat} (hn : n ≤ 99999999) (h : ∀ g ∈ A, g.1.first < n) : ∀ f ∈ A.map (fileW pre), f.nm ≠ wnm pre n := by
  intro f hf he
  obtain ⟨g, hg, rfl⟩ := List.mem_map.1 hf
  have h1 := h g hg
  have := wnm_inj (by omega) hn (show wnm pre g.1.first = wnm pre n from he)
  omega
end Go.Proofs.YtjafamiaahabgaaGreatDoor
