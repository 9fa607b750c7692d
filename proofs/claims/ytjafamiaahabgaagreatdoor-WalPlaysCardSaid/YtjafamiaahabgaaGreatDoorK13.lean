/- wal: what a log is, plain and in memory; last, size, next, Bounds, may. wal: last, size, next, Bounds, may: they read alone. Nothing is claimed here. -/
import Derived.Test.YtjafamiaahabgaaGreatDoorK08
import Derived.Test.YtjafamiaahabgaaGreatDoorK11
import Derived.Test.YtjafamiaahabgaaGreatDoorK12
namespace Go.Proofs.YtjafamiaahabgaaGreatDoor
open Go.RowKit Go.Lib
set_option linter.unusedVariables false
set_option linter.unusedSimpArgs false
set_option maxRecDepth 100000

/-- a segment, plain: its first number, its entries, whether something was laid to it -/
structure Wg where
  first : Nat
  es : List (List UInt8)
  dirty : Bool
def recL (n : Nat) (x : List UInt8) : Nat := 8 + (encU n).length + x.length
def lenW : Nat → List (List UInt8) → Nat
  | _, [] => 0
  | n, x :: xs => recL n x + lenW (n + 1) xs
def endsW : Nat → Nat → List (List UInt8) → List Nat
  | _, _, [] => []
  | a, n, x :: xs => (a + recL n x) :: endsW (a + recL n x) (n + 1) xs
def Wg.next (g : Wg) : Nat := g.first + g.es.length
def Wg.size (g : Wg) : Nat := lenW g.first g.es
theorem endsW_len : ∀ (a n : Nat) (xs : List (List UInt8)), (endsW a n xs).length = xs.length
  | _, _, [] => rfl
  | a, n, x :: xs => by simp [endsW, endsW_len]
theorem endsW_last : ∀ (a n : Nat) (xs : List (List UInt8)), (endsW a n xs).getLast?.getD a = a + lenW n xs
  | a, _, [] => by simp [endsW, lenW]
  | a, n, [x] => by simp [endsW, lenW]
  | a, n, x :: y :: xs => by
    have := endsW_last (a + recL n x) (n + 1) (y :: xs)
    rw [endsW, lenW]
    simp only [endsW] at this ⊢
    rw [List.getLast?_cons_cons]
    rw [List.getLast?_eq_some_getLast (by simp)] at this ⊢
    simp only [Option.getD_some] at this ⊢
    omega
theorem endsW_snoc : ∀ (a n : Nat) (xs : List (List UInt8)) (x : List UInt8), endsW a n (xs ++ [x]) = endsW a n xs ++ [a + lenW n xs + recL (n + xs.length) x]
  | a, n, [], x => by simp [endsW, lenW]
  | a, n, y :: xs, x => by
    rw [List.cons_append, endsW, endsW, endsW_snoc (a + recL n y) (n + 1) xs x, lenW, List.cons_append, List.length_cons]
    congr 3
    rw [show n + 1 + xs.length = n + (xs.length + 1) by omega]; omega
theorem endsW_take : ∀ (k a n : Nat) (xs : List (List UInt8)), (endsW a n xs).take k = endsW a n (xs.take k)
  | 0, _, _, _ => by simp [endsW]
  | k + 1, _, _, [] => by simp [endsW]
  | k + 1, a, n, x :: xs => by simp [endsW, endsW_take k]
theorem lenW_snoc : ∀ (n : Nat) (xs : List (List UInt8)) (x : List UInt8), lenW n (xs ++ [x]) = lenW n xs + recL (n + xs.length) x
  | n, [], x => by simp [lenW]
  | n, y :: xs, x => by
    rw [List.cons_append, lenW, lenW, lenW_snoc (n + 1) xs x, List.length_cons, show n + 1 + xs.length = n + (xs.length + 1) by omega]; omega

/-- an entry in memory: its slice, its bytes -/
structure En where
  v : Value
  d : List UInt8
structure Sg where
  b : Nat
  first : Nat
  ev : Value
  es : List En
  xv : Value
  dirty : Bool
def Sg.wg (s : Sg) : Wg := ⟨s.first, s.es.map En.d, s.dirty⟩
def Sg.cells (s : Sg) : List Value := [.int .i64 (s.first : Int), s.ev, s.xv, .bool s.dirty]
def Sg.xs (s : Sg) : List Nat := endsW 0 s.first (s.es.map En.d)
def iN (n : Nat) : Value := .int .i64 (n : Int)
def Sg.hd (s : Sg) : Res := .blk s.b s.cells 80
def Sg.eR (s : Sg) : Res := .rc 23 s.ev s.es.length (s.es.map En.v)
def Sg.xR (s : Sg) : Res := .rc 3 s.xv s.es.length (s.xs.map iN)
def En.res (e : En) : Res := .ro e.v (bv e.d)
def Sg.res (s : Sg) : List Res := s.hd :: s.eR :: s.xR :: s.es.map En.res
/-- the row of pointers: nil, or a window of a block (what is ahead, what is behind, the room) -/
inductive Wn where
  | no
  | at (g : Nat) (pre post : List Value) (c : Nat)
def Wn.val (n : Wn) (ps : List Value) : Value := match n with
  | .no => .slice none 0 0
  | .at g pre post c => .slice (some ⟨g, pre.length, none⟩) ps.length c
def Wn.res (n : Wn) (ps : List Value) : List Res := match n with
  | .no => []
  | .at g pre post c => [.blk g (pre ++ (ps ++ post)) 75]
def Wn.ok (n : Wn) (ps : List Value) : Prop := match n with
  | .no => ps = []
  | .at g pre post c => ps.length ≤ c ∧ c ≤ maxLen ∧ c ≤ ps.length + post.length
def ptrs (sg : List Sg) : List Value := sg.map fun s => .pointer (some ⟨s.b, 0, none⟩)
def logC (d : Nat) (pre : ByteArray) (n : Wn) (sg : List Sg) (af : Nat) : List Value := [.pointer (some ⟨d, 0, none⟩), .string pre, n.val (ptrs sg), .int .i64 (af : Int)]
def logR (l d : Nat) (pre : ByteArray) (n : Wn) (sg : List Sg) (af : Nat) : List Res := .blk l (logC d pre n sg af) 65 :: (n.res (ptrs sg) ++ sg.flatMap Sg.res)
theorem Wn.sl {n : Wn} {ps : List Value} {w : World} {B : Nat} {w0 : World} {F : List Res} (hok : n.ok ps) (h : Sep Tryz.prog B w0 w F) (hm : ∀ R ∈ n.res ps, R ∈ F) : Sl w (n.val ps) ps := by
  cases n with
  | no =>
    obtain rfl : ps = [] := hok
    exact Sl.nil w
  | «at» g pre post c =>
    obtain ⟨h1, h2, h3⟩ := hok
    have hb : Blk w g (pre ++ (ps ++ post)) 75 := h.hold _ (hm _ (.head _))
    refine Sl.some' rfl h1 h2 fun i x hx => ?_
    have hi := (List.getElem?_eq_some_iff.1 hx).1
    refine hb.cell ?_
    rw [List.getElem?_append_right (by omega), Nat.add_sub_cancel_left, List.getElem?_append_left hi]
    exact hx
/-- a log's state -/
structure LgS (B : Nat) (w0 w : World) (d l : Nat) (pre : ByteArray) (room : Nat) (S : List Fl) (G : List Wg) (af : Nat) (F : List Res) : Prop where
  of : ∃ n sg, sg.map Sg.wg = G ∧ n.ok (ptrs sg) ∧ DkS B w0 w d room S (logR l d pre n sg af ++ F)
end Go.Proofs.YtjafamiaahabgaaGreatDoor
namespace Go.Proofs.YtjafamiaahabgaaGreatDoor
open Go.RowKit Go.Lib
set_option linter.unusedVariables false
set_option linter.unusedSimpArgs false
set_option maxRecDepth 100000

theorem segNext_fn {b : Nat} {f : Nat} {ev xv : Value} {dt : Bool} {es : List Value} (w0 : World) (hC : Blk w0 b [.int .i64 (f : Int), ev, xv, .bool dt] 80) (hE : Sl w0 ev es) (hf : f ≤ 4000000000) (he : es.length ≤ 4000000000) :
    Fn Tryz.prog 36 #[.pointer (some ⟨b, 0, none⟩)] w0 fun r w' => r = .int .i64 ((f + es.length : Nat) : Int) ∧ Below w0.heap.size w0 w' := by
  have hL := Sep.start Tryz.prog w0
  have hB := Nat.le_refl w0.heap.size
  have hC2 : ∀ x, Below w0.heap.size w0 x → Blk x b [.int .i64 (f : Int), ev, xv, .bool dt] 80 := fun x h => hC.below h hC.lt
  obtain ⟨ea, ec, rfl⟩ := hE.shape
  obtain ⟨q1, q2, q3⟩ := hE.len
  simp only [maxLen] at q3
  refine Fn.mk Tryz.func36 rfl (by kernel_rfl) Tryz.ntmps36 rfl (by rw [Tryz.results36]) ?_
  repeat (first | (refine RunH ?_; intro w hL hB; try clear w) | (refine Both.mk ?_ ?_ <;> conv => whnf) | fail)
  refine V.tree ttOk (fun x => Blk x b _ 80) (.q 0 (.q 1 (.q 2 (.q 3 (.q 4 (.q 5 (.q 6 (.q 7 (.q 8 (.q 9 (.q 10 .nil))))))))))) mixed (by decide +kernel) (hC2 _ hL.drew.below) ?_
  replace hL := hL.drew
  conv => whnf
  repeat' (first | (refine RunH ?_; intro w hL hB; try clear w) | (refine Br.dec (fun hbr => ?_) (fun hbr => ?_) <;> conv => whnf) | (refine Br.mk (fun hbr => ?_) (fun hbr => ?_) <;> conv => whnf) | (refine Both.mk ?_ ?_ <;> conv => whnf) | (refine Lq.of_class (fun x hx => Ld.blk ttOk rfl rfl hx rfl rfl) ?_; conv => whnf) | fail)
  exact ⟨by push_cast; rfl, hL.below⟩
theorem segSize_fn {b : Nat} {f : Value} {ev xv : Value} {dt : Bool} {xs : List Nat} (w0 : World) (hC : Blk w0 b [f, ev, xv, .bool dt] 80) (hX : Sl w0 xv (xs.map iN)) :
    Fn Tryz.prog 32 #[.pointer (some ⟨b, 0, none⟩)] w0 fun r w' => r = .int .i64 ((xs.getLast?.getD 0 : Nat) : Int) ∧ Below w0.heap.size w0 w' := by
  have hL := Sep.start Tryz.prog w0
  have hB := Nat.le_refl w0.heap.size
  have hC2 : ∀ x, Below w0.heap.size w0 x → Blk x b [f, ev, xv, .bool dt] 80 := fun x h => hC.below h hC.lt
  have hX2 : ∀ x, Below w0.heap.size w0 x → Sl x xv (xs.map iN) := fun x h => hX.below h
  obtain ⟨xa, xc, rfl⟩ := hX.shape
  have hle := hX.le
  rw [List.length_map] at *
  refine Fn.mk Tryz.func32 rfl (by kernel_rfl) Tryz.ntmps32 rfl (by rw [Tryz.results32]) ?_
  repeat (first | (refine RunH ?_; intro w hL hB; try clear w) | (refine Both.mk ?_ ?_ <;> conv => whnf) | fail)
  by_cases h0 : xs = []
  · subst h0
    repeat (first | (refine RunH ?_; intro w hL hB; try clear w) | (refine Both.mk ?_ ?_ <;> conv => whnf) | fail)
    exact ⟨rfl, hL.below⟩
  have hlen : 0 < xs.length := List.length_pos_iff.2 h0
  obtain ⟨g, o, rfl, _⟩ := hX.addr (by simpa using hlen)
  have hrow : ∀ x, Below w0.heap.size w0 x → Row x g o (xs.map iN) := fun x h => (hX2 x h).rowOf'
  have hg : (xs.map iN)[xs.length - 1]? = some (iN (xs.getLast h0)) := by
    rw [List.getElem?_map, List.getLast_eq_getElem, List.getElem?_eq_getElem (by omega)]; rfl
  repeat (first | (refine RunH ?_; intro w hL hB; try clear w) | (refine Both.mk ?_ ?_ <;> conv => whnf) | fail)
  refine V.tree ttOk (fun x => Blk x b _ 80 ∧ Row x g o (xs.map iN)) (.q 0 (.q 1 (.q 2 (.q 3 (.q 4 (.q 5 (.q 6 (.q 7 (.q 8 (.q 9 (.q 10 (.q 11 (.q 12 .nil))))))))))))) mixed (by decide +kernel) ⟨hC2 _ hL.drew.below, hrow _ hL.drew.below⟩ ?_
  replace hL := hL.drew
  conv => whnf
  repeat' (first | (refine RunH ?_; intro w hL hB; try clear w) | (refine Br.dec (fun hbr => ?_) (fun hbr => ?_) <;> conv => whnf) | (refine Br.mk (fun hbr => ?_) (fun hbr => ?_) <;> conv => whnf) | (refine Both.mk ?_ ?_ <;> conv => whnf) | (refine Lq.of_class (fun x hx => Ld.blk ttOk rfl rfl hx.1 rfl rfl) ?_; conv => whnf) | (intro o1 ho1; conv => whnf) | (refine Lq.of_class (fun x hx => Ld.row1 ttOk hx.2 rfl rfl hg (by omega) rfl) ?_; conv => whnf) | fail)
  exact ⟨by rw [List.getLast?_eq_some_getLast h0]; rfl, hL.below⟩
theorem logLast_fn {l : Nat} {c0 c1 c3 sv : Value} {ps : List Value} (w0 : World) (hC : Blk w0 l [c0, c1, sv, c3] 65) (hS : Sl w0 sv ps) :
    Fn Tryz.prog 31 #[.pointer (some ⟨l, 0, none⟩)] w0 fun r w' => r = ps.getLast?.getD (.pointer none) ∧ Below w0.heap.size w0 w' := by
  have hL := Sep.start Tryz.prog w0
  have hB := Nat.le_refl w0.heap.size
  have hC2 : ∀ x, Below w0.heap.size w0 x → Blk x l [c0, c1, sv, c3] 65 := fun x h => hC.below h hC.lt
  have hX2 : ∀ x, Below w0.heap.size w0 x → Sl x sv ps := fun x h => hS.below h
  obtain ⟨xa, xc, rfl⟩ := hS.shape
  have hle := hS.le
  refine Fn.mk Tryz.func31 rfl (by kernel_rfl) Tryz.ntmps31 rfl (by rw [Tryz.results31]) ?_
  repeat (first | (refine RunH ?_; intro w hL hB; try clear w) | (refine Both.mk ?_ ?_ <;> conv => whnf) | fail)
  by_cases h0 : ps = []
  · subst h0
    repeat (first | (refine RunH ?_; intro w hL hB; try clear w) | (refine Both.mk ?_ ?_ <;> conv => whnf) | fail)
    exact ⟨rfl, hL.below⟩
  have hlen : 0 < ps.length := List.length_pos_iff.2 h0
  obtain ⟨g, o, rfl, _⟩ := hS.addr hlen
  have hrow : ∀ x, Below w0.heap.size w0 x → Row x g o ps := fun x h => (hX2 x h).rowOf'
  have hg : ps[ps.length - 1]? = some (ps.getLast h0) := by
    rw [List.getLast_eq_getElem, List.getElem?_eq_getElem (by omega)]
  repeat (first | (refine RunH ?_; intro w hL hB; try clear w) | (refine Both.mk ?_ ?_ <;> conv => whnf) | fail)
  refine V.tree ttOk (fun x => Blk x l _ 65 ∧ Row x g o ps) (.q 0 (.q 1 (.q 2 (.q 3 (.q 4 (.q 5 (.q 6 (.q 7 (.q 8 (.q 9 (.q 10 (.q 11 (.q 12 .nil))))))))))))) mixed (by decide +kernel) ⟨hC2 _ hL.drew.below, hrow _ hL.drew.below⟩ ?_
  replace hL := hL.drew
  conv => whnf
  repeat' (first | (refine RunH ?_; intro w hL hB; try clear w) | (refine Br.dec (fun hbr => ?_) (fun hbr => ?_) <;> conv => whnf) | (refine Br.mk (fun hbr => ?_) (fun hbr => ?_) <;> conv => whnf) | (refine Both.mk ?_ ?_ <;> conv => whnf) | (refine Lq.of_class (fun x hx => Ld.blk ttOk rfl rfl hx.1 rfl rfl) ?_; conv => whnf) | (intro o1 ho1; conv => whnf) | (refine Lq.of_class (fun x hx => Ld.row1 ttOk hx.2 rfl rfl hg (by omega) rfl) ?_; conv => whnf) | fail)
  exact ⟨by rw [List.getLast?_eq_some_getLast h0]; rfl, hL.below⟩
theorem bounds_fn {l : Nat} {c0 c1 sv : Value} {af fi : Nat} {ps : List Value} (w0 : World) (hC : Blk w0 l [c0, c1, sv, .int .i64 (af : Int)] 65) (hS : Sl w0 sv ps)
    (hz : ps = [] → fi = af) (hf : ∀ p ps', ps = p :: ps' → ∃ b c1 c2 c3, p = .pointer (some ⟨b, 0, none⟩) ∧ Blk w0 b [.int .i64 (fi : Int), c1, c2, c3] 80) :
    Fn Tryz.prog 12 #[.pointer (some ⟨l, 0, none⟩)] w0 fun r w' => r = .tuple #[.int .i64 (fi : Int), .int .i64 (af : Int)] ∧ Below w0.heap.size w0 w' := by
  have hL := Sep.start Tryz.prog w0
  have hB := Nat.le_refl w0.heap.size
  have hC2 : ∀ x, Below w0.heap.size w0 x → Blk x l [c0, c1, sv, .int .i64 (af : Int)] 65 := fun x h => hC.below h hC.lt
  have hX2 : ∀ x, Below w0.heap.size w0 x → Sl x sv ps := fun x h => hS.below h
  obtain ⟨xa, xc, rfl⟩ := hS.shape
  have hle := hS.le
  cases ps with
  | nil =>
    rw [hz rfl]
    refine Fn.mk Tryz.func12 rfl (by kernel_rfl) Tryz.ntmps12 rfl (by rw [Tryz.results12]) ?_
    repeat (first | (refine RunH ?_; intro w hL hB; try clear w) | (refine Both.mk ?_ ?_ <;> conv => whnf) | fail)
    refine V.tree ttOk (fun x => Blk x l _ 65) (.q 0 (.q 1 (.q 2 (.q 3 (.q 4 (.q 5 (.q 6 (.q 7 (.q 8 (.q 9 .nil)))))))))) mixed (by decide +kernel) (hC2 _ hL.drew.below) ?_
    replace hL := hL.drew
    conv => whnf
    repeat' (first | (refine RunH ?_; intro w hL hB; try clear w) | (refine Br.dec (fun hbr => ?_) (fun hbr => ?_) <;> conv => whnf) | (refine Br.mk (fun hbr => ?_) (fun hbr => ?_) <;> conv => whnf) | (refine Both.mk ?_ ?_ <;> conv => whnf) | (refine Lq.of_class (fun x hx => Ld.blk ttOk rfl rfl hx rfl rfl) ?_; conv => whnf) | fail)
    exact ⟨rfl, hL.below⟩
  | cons p ps =>
    obtain ⟨b, d1, d2, d3, rfl, hb⟩ := hf p ps rfl
    have hb2 : ∀ x, Below w0.heap.size w0 x → Blk x b [.int .i64 (fi : Int), d1, d2, d3] 80 := fun x h => hb.below h hb.lt
    obtain ⟨g, o, rfl, _⟩ := hS.addr (by simp)
    have hrow : ∀ x, Below w0.heap.size w0 x → Row x g o (.pointer (some ⟨b, 0, none⟩) :: ps) := fun x h => (hX2 x h).rowOf'
    simp only [List.length_cons] at hle hC2
    refine Fn.mk Tryz.func12 rfl (by kernel_rfl) Tryz.ntmps12 rfl (by rw [Tryz.results12]) ?_
    repeat (first | (refine RunH ?_; intro w hL hB; try clear w) | (refine Both.mk ?_ ?_ <;> conv => whnf) | fail)
    repeat (first | (refine RunH ?_; intro w hL hB; try clear w) | (refine Both.mk ?_ ?_ <;> conv => whnf) | fail)
    refine V.tree ttOk (fun x => Blk x l _ 65 ∧ Row x g o (.pointer (some ⟨b, 0, none⟩) :: ps) ∧ Blk x b _ 80) (.q 0 (.q 1 (.q 2 (.q 3 (.q 4 (.q 5 (.q 6 (.q 7 (.q 8 (.q 9 (.q 10 (.q 11 (.q 12 (.q 13 (.q 14 .nil))))))))))))))) mixed (by decide +kernel) ⟨hC2 _ hL.drew.below, hrow _ hL.drew.below, hb2 _ hL.drew.below⟩ ?_
    replace hL := hL.drew
    conv => whnf
    repeat' (first | (refine RunH ?_; intro w hL hB; try clear w) | (refine Br.dec (fun hbr => ?_) (fun hbr => ?_) <;> conv => whnf) | (refine Br.mk (fun hbr => ?_) (fun hbr => ?_) <;> conv => whnf) | (refine Both.mk ?_ ?_ <;> conv => whnf) | (refine Lq.of_class (fun x hx => Ld.blk ttOk rfl rfl hx.1 rfl rfl) ?_; conv => whnf) | (refine Lq.of_class (fun x hx => Ld.blk ttOk rfl rfl hx.2.2 rfl rfl) ?_; conv => whnf) | (intro o1 ho1; conv => whnf) | (refine Lq.of_class (fun x hx => Ld.row1 ttOk hx.2.1 rfl rfl (k := 0) rfl (by omega) rfl) ?_; conv => whnf) | fail)
    exact ⟨rfl, hL.below⟩
theorem may_fn {l : Nat} {c0 c1 sv : Value} {af fi : Nat} {ps : List Value} (i : Int) (w0 : World) (hC : Blk w0 l [c0, c1, sv, .int .i64 (af : Int)] 65) (hS : Sl w0 sv ps)
    (hz : ps = [] → fi = af) (hf : ∀ p ps', ps = p :: ps' → ∃ b c1 c2 c3, p = .pointer (some ⟨b, 0, none⟩) ∧ Blk w0 b [.int .i64 (fi : Int), c1, c2, c3] 80) :
    Fn Tryz.prog 35 #[.pointer (some ⟨l, 0, none⟩), .int .i64 i] w0 fun r w' => r = .bool (decide ((fi : Int) ≤ i ∧ i ≤ (af : Int))) ∧ Below w0.heap.size w0 w' := by
  have hL := Sep.start Tryz.prog w0
  have hB := Nat.le_refl w0.heap.size
  refine Fn.mk Tryz.func35 rfl (by kernel_rfl) Tryz.ntmps35 rfl (by rw [Tryz.results35]) ?_
  repeat (first | (refine RunH ?_; intro w hL hB; try clear w) | (refine Both.mk ?_ ?_ <;> conv => whnf) | fail)
  refine (bounds_fn w0 hC hS hz hf).mono fun r w ⟨hr, hw⟩ => ?_
  subst hr
  replace hL := hL.call hB (Turns.of_below hw)
  replace hB := Nat.le_trans hB hw.size
  conv => whnf
  by_cases h1 : (fi : Int) ≤ i
  · by_cases h2 : i ≤ (af : Int)
    · repeat (first | (refine RunH ?_; intro w hL hB; try clear w) | (refine Both.mk ?_ ?_ <;> conv => whnf) | fail)
      exact ⟨by simp [h1, h2], hL.below⟩
    · repeat (first | (refine RunH ?_; intro w hL hB; try clear w) | (refine Both.mk ?_ ?_ <;> conv => whnf) | fail)
      exact ⟨by simp [h1, h2], hL.below⟩
  · repeat (first | (refine RunH ?_; intro w hL hB; try clear w) | (refine Both.mk ?_ ?_ <;> conv => whnf) | fail)
    exact ⟨by simp [h1], hL.below⟩
end Go.Proofs.YtjafamiaahabgaaGreatDoor
