/- wal: what a log is, plain and in memory; last, size, next, Bounds, may. Nothing is claimed here. -/
import Derived.Test.YtjafamiaahabgaaDoorAb
import Derived.Test.YtjafamiaahabgaaDoorEu
import Derived.Test.YtjafamiaahabgaaDoorDh
namespace Go.Proofs.YtjafamiaahabgaaDoor
open Go.RowKit Go.Lib
set_option linter.unusedVariables false
set_option linter.unusedSimpArgs false
set_option maxRecDepth 100000

/-- a segment, plain: its first number, its entries, whether something was laid to it -/
structure Wg where
  first : Nat
  es : List (List UInt8)
  dirty : Bool
def recL (n : Nat) (x : List UInt8) : Nat := 8 + (encU n).length + x.length
def lenW : Nat → List (List UInt8) → Nat
  | _, [] => 0
  | n, x :: xs => recL n x + lenW (n + 1) xs
def endsW : Nat → Nat → List (List UInt8) → List Nat
  | _, _, [] => []
  | a, n, x :: xs => (a + recL n x) :: endsW (a + recL n x) (n + 1) xs
def Wg.next (g : Wg) : Nat := g.first + g.es.length
def Wg.size (g : Wg) : Nat := lenW g.first g.es
theorem endsW_len : ∀ (a n : Nat) (xs : List (List UInt8)), (endsW a n xs).length = xs.length
  | _, _, [] => rfl
  | a, n, x :: xs => by simp [endsW, endsW_len]
theorem endsW_last : ∀ (a n : Nat) (xs : List (List UInt8)), (endsW a n xs).getLast?.getD a = a + lenW n xs
  | a, _, [] => by simp [endsW, lenW]
  | a, n, [x] => by simp [endsW, lenW]
  | a, n, x :: y :: xs => by
    have := endsW_last (a + recL n x) (n + 1) (y :: xs)
    rw [endsW, lenW]
    simp only [endsW] at this ⊢
    rw [List.getLast?_cons_cons]
    rw [List.getLast?_eq_some_getLast (by simp)] at this ⊢
    simp only [Option.getD_some] at this ⊢
    omega
theorem endsW_snoc : ∀ (a n : Nat) (xs : List (List UInt8)) (x : List UInt8), endsW a n (xs ++ [x]) = endsW a n xs ++ [a + lenW n xs + recL (n + xs.length) x]
  | a, n, [], x => by simp [endsW, lenW]
  | a, n, y :: xs, x => by
    rw [List.cons_append, endsW, endsW, endsW_snoc (a + recL n y) (n + 1) xs x, lenW, List.cons_append, List.length_cons]
    congr 3
    rw [show n + 1 + xs.length = n + (xs.length + 1) by omega]; omega
theorem endsW_take : ∀ (k a n : Nat) (xs : List (List UInt8)), (endsW a n xs).take k = endsW a n (xs.take k)
  | 0, _, _, _ => by simp [endsW]
  | k + 1, _, _, [] => by simp [endsW]
  | k + 1, a, n, x :: xs => by simp [endsW, endsW_take k]
theorem lenW_snoc : ∀ (n : Nat) (xs : List (List UInt8)) (x : List UInt8), lenW n (xs ++ [x]) = lenW n xs + recL (n + xs.length) x
  | n, [], x => by simp [lenW]
  | n, y :: xs, x => by
    rw [List.cons_append, lenW, lenW, lenW_snoc (n + 1) xs x, List.length_cons, show n + 1 + xs.length = n + (xs.length + 1) by omega]; omega

/-- an entry in memory: its slice, its bytes -/
structure En where
  v : Value
  d : List UInt8
structure Sg where
  b : Nat
  first : Nat
  ev : Value
  es : List En
  xv : Value
  dirty : Bool
def Sg.wg (s : Sg) : Wg := ⟨s.first, s.es.map En.d, s.dirty⟩
def Sg.cells (s : Sg) : List Value := [.int .i64 (s.first : Int), s.ev, s.xv, .bool s.dirty]
def Sg.xs (s : Sg) : List Nat := endsW 0 s.first (s.es.map En.d)
def iN (n : Nat) : Value := .int .i64 (n : Int)
def Sg.hd (s : Sg) : Res := .blk s.b s.cells 57
def Sg.eR (s : Sg) : Res := .rc 23 s.ev s.es.length (s.es.map En.v)
def Sg.xR (s : Sg) : Res := .rc 3 s.xv s.es.length (s.xs.map iN)
def En.res (e : En) : Res := .ro e.v (bv e.d)
def Sg.res (s : Sg) : List Res := s.hd :: s.eR :: s.xR :: s.es.map En.res
/-- the row of pointers: nil, or a window of a block (what is ahead, what is behind, the room) -/
inductive Wn where
  | no
  | at (g : Nat) (pre post : List Value) (c : Nat)
def Wn.val (n : Wn) (ps : List Value) : Value := match n with
  | .no => .slice none 0 0
  | .at g pre post c => .slice (some ⟨g, pre.length, none⟩) ps.length c
def Wn.res (n : Wn) (ps : List Value) : List Res := match n with
  | .no => []
  | .at g pre post c => [.blk g (pre ++ (ps ++ post)) 54]
def Wn.ok (n : Wn) (ps : List Value) : Prop := match n with
  | .no => ps = []
  | .at g pre post c => ps.length ≤ c ∧ c ≤ maxLen ∧ c ≤ ps.length + post.length
def ptrs (sg : List Sg) : List Value := sg.map fun s => .pointer (some ⟨s.b, 0, none⟩)
def logC (d : Nat) (pre : ByteArray) (n : Wn) (sg : List Sg) (af : Nat) : List Value := [.pointer (some ⟨d, 0, none⟩), .string pre, n.val (ptrs sg), .int .i64 (af : Int)]
def logR (l d : Nat) (pre : ByteArray) (n : Wn) (sg : List Sg) (af : Nat) : List Res := .blk l (logC d pre n sg af) 47 :: (n.res (ptrs sg) ++ sg.flatMap Sg.res)
theorem Wn.sl {n : Wn} {ps : List Value} {w : World} {B : Nat} {w0 : World} {F : List Res} (hok : n.ok ps) (h : Sep Tryd.prog B w0 w F) (hm : ∀ R ∈ n.res ps, R ∈ F) : Sl w (n.val ps) ps := by
  cases n with
  | no =>
    obtain rfl : ps = [] := hok
    exact Sl.nil w
  | «at» g pre post c =>
    obtain ⟨h1, h2, h3⟩ := hok
    have hb : Blk w g (pre ++ (ps ++ post)) 54 := h.hold _ (hm _ (.head _))
    refine Sl.some' rfl h1 h2 fun i x hx => ?_
    have hi := (List.getElem?_eq_some_iff.1 hx).1
    refine hb.cell ?_
    rw [List.getElem?_append_right (by omega), Nat.add_sub_cancel_left, List.getElem?_append_left hi]
    exact hx
/-- a log's state -/
structure LgS (B : Nat) (w0 w : World) (d l : Nat) (pre : ByteArray) (room : Nat) (S : List Fl) (G : List Wg) (af : Nat) (F : List Res) : Prop where
  of : ∃ n sg, sg.map Sg.wg = G ∧ n.ok (ptrs sg) ∧ DkS B w0 w d room S (logR l d pre n sg af ++ F)
end Go.Proofs.YtjafamiaahabgaaDoor
