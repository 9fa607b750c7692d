/- wal: last, size, next, Bounds, may: they read alone. Nothing is claimed here. -/
import Derived.Test.YtjafamiaahabgaaDoorAc
namespace Go.Proofs.YtjafamiaahabgaaDoor
open Go.RowKit Go.Lib
set_option linter.unusedVariables false
set_option linter.unusedSimpArgs false
set_option maxRecDepth 100000

theorem segNext_fn {b : Nat} {f : Nat} {ev xv : Value} {dt : Bool} {es : List Value} (w0 : World) (hC : Blk w0 b [.int .i64 (f : Int), ev, xv, .bool dt] 57) (hE : Sl w0 ev es) (hf : f ≤ 4000000000) (he : es.length ≤ 4000000000) :
    Fn Tryd.prog 34 #[.pointer (some ⟨b, 0, none⟩)] w0 fun r w' => r = .int .i64 ((f + es.length : Nat) : Int) ∧ Below w0.heap.size w0 w' := by
  have hL := Sep.start Tryd.prog w0
  have hB := Nat.le_refl w0.heap.size
  have hC2 : ∀ x, Below w0.heap.size w0 x → Blk x b [.int .i64 (f : Int), ev, xv, .bool dt] 57 := fun x h => hC.below h hC.lt
  obtain ⟨ea, ec, rfl⟩ := hE.shape
  obtain ⟨q1, q2, q3⟩ := hE.len
  simp only [maxLen] at q3
  refine Fn.mk Tryd.func34 rfl (by kernel_rfl) Tryd.ntmps34 rfl (by rw [Tryd.results34]) ?_
  repeat (first | (refine RunH ?_; intro w hL hB; try clear w) | (refine Both.mk ?_ ?_ <;> conv => whnf) | fail)
  refine V.tree ttOk (fun x => Blk x b _ 57) (.q 0 (.q 1 (.q 2 (.q 3 (.q 4 (.q 5 (.q 6 (.q 7 (.q 8 (.q 9 (.q 10 .nil))))))))))) mixed (by decide +kernel) (hC2 _ hL.drew.below) ?_
  replace hL := hL.drew
  conv => whnf
  repeat' (first | (refine RunH ?_; intro w hL hB; try clear w) | (refine Br.dec (fun hbr => ?_) (fun hbr => ?_) <;> conv => whnf) | (refine Br.mk (fun hbr => ?_) (fun hbr => ?_) <;> conv => whnf) | (refine Both.mk ?_ ?_ <;> conv => whnf) | (refine Lq.of_class (fun x hx => Ld.blk ttOk rfl rfl hx rfl rfl) ?_; conv => whnf) | fail)
  exact ⟨by push_cast; rfl, hL.below⟩
theorem segSize_fn {b : Nat} {f : Value} {ev xv : Value} {dt : Bool} {xs : List Nat} (w0 : World) (hC : Blk w0 b [f, ev, xv, .bool dt] 57) (hX : Sl w0 xv (xs.map iN)) :
    Fn Tryd.prog 22 #[.pointer (some ⟨b, 0, none⟩)] w0 fun r w' => r = .int .i64 ((xs.getLast?.getD 0 : Nat) : Int) ∧ Below w0.heap.size w0 w' := by
  have hL := Sep.start Tryd.prog w0
  have hB := Nat.le_refl w0.heap.size
  have hC2 : ∀ x, Below w0.heap.size w0 x → Blk x b [f, ev, xv, .bool dt] 57 := fun x h => hC.below h hC.lt
  have hX2 : ∀ x, Below w0.heap.size w0 x → Sl x xv (xs.map iN) := fun x h => hX.below h
  obtain ⟨xa, xc, rfl⟩ := hX.shape
  have hle := hX.le
  rw [List.length_map] at *
  refine Fn.mk Tryd.func22 rfl (by kernel_rfl) Tryd.ntmps22 rfl (by rw [Tryd.results22]) ?_
  repeat (first | (refine RunH ?_; intro w hL hB; try clear w) | (refine Both.mk ?_ ?_ <;> conv => whnf) | fail)
  by_cases h0 : xs = []
  · subst h0
    repeat (first | (refine RunH ?_; intro w hL hB; try clear w) | (refine Both.mk ?_ ?_ <;> conv => whnf) | fail)
    exact ⟨rfl, hL.below⟩
  have hlen : 0 < xs.length := List.length_pos_iff.2 h0
  obtain ⟨g, o, rfl, _⟩ := hX.addr (by simpa using hlen)
  have hrow : ∀ x, Below w0.heap.size w0 x → Row x g o (xs.map iN) := fun x h => (hX2 x h).rowOf'
  have hg : (xs.map iN)[xs.length - 1]? = some (iN (xs.getLast h0)) := by
    rw [List.getElem?_map, List.getLast_eq_getElem, List.getElem?_eq_getElem (by omega)]; rfl
  repeat (first | (refine RunH ?_; intro w hL hB; try clear w) | (refine Both.mk ?_ ?_ <;> conv => whnf) | fail)
  refine V.tree ttOk (fun x => Blk x b _ 57 ∧ Row x g o (xs.map iN)) (.q 0 (.q 1 (.q 2 (.q 3 (.q 4 (.q 5 (.q 6 (.q 7 (.q 8 (.q 9 (.q 10 (.q 11 (.q 12 .nil))))))))))))) mixed (by decide +kernel) ⟨hC2 _ hL.drew.below, hrow _ hL.drew.below⟩ ?_
  replace hL := hL.drew
  conv => whnf
  repeat' (first | (refine RunH ?_; intro w hL hB; try clear w) | (refine Br.dec (fun hbr => ?_) (fun hbr => ?_) <;> conv => whnf) | (refine Br.mk (fun hbr => ?_) (fun hbr => ?_) <;> conv => whnf) | (refine Both.mk ?_ ?_ <;> conv => whnf) | (refine Lq.of_class (fun x hx => Ld.blk ttOk rfl rfl hx.1 rfl rfl) ?_; conv => whnf) | (intro o1 ho1; conv => whnf) | (refine Lq.of_class (fun x hx => Ld.row1 ttOk hx.2 rfl rfl hg (by omega) rfl) ?_; conv => whnf) | fail)
  exact ⟨by rw [List.getLast?_eq_some_getLast h0]; rfl, hL.below⟩
theorem logLast_fn {l : Nat} {c0 c1 c3 sv : Value} {ps : List Value} (w0 : World) (hC : Blk w0 l [c0, c1, sv, c3] 47) (hS : Sl w0 sv ps) :
    Fn Tryd.prog 21 #[.pointer (some ⟨l, 0, none⟩)] w0 fun r w' => r = ps.getLast?.getD (.pointer none) ∧ Below w0.heap.size w0 w' := by
  have hL := Sep.start Tryd.prog w0
  have hB := Nat.le_refl w0.heap.size
  have hC2 : ∀ x, Below w0.heap.size w0 x → Blk x l [c0, c1, sv, c3] 47 := fun x h => hC.below h hC.lt
  have hX2 : ∀ x, Below w0.heap.size w0 x → Sl x sv ps := fun x h => hS.below h
  obtain ⟨xa, xc, rfl⟩ := hS.shape
  have hle := hS.le
  refine Fn.mk Tryd.func21 rfl (by kernel_rfl) Tryd.ntmps21 rfl (by rw [Tryd.results21]) ?_
  repeat (first | (refine RunH ?_; intro w hL hB; try clear w) | (refine Both.mk ?_ ?_ <;> conv => whnf) | fail)
  by_cases h0 : ps = []
  · subst h0
    repeat (first | (refine RunH ?_; intro w hL hB; try clear w) | (refine Both.mk ?_ ?_ <;> conv => whnf) | fail)
    exact ⟨rfl, hL.below⟩
  have hlen : 0 < ps.length := List.length_pos_iff.2 h0
  obtain ⟨g, o, rfl, _⟩ := hS.addr hlen
  have hrow : ∀ x, Below w0.heap.size w0 x → Row x g o ps := fun x h => (hX2 x h).rowOf'
  have hg : ps[ps.length - 1]? = some (ps.getLast h0) := by
    rw [List.getLast_eq_getElem, List.getElem?_eq_getElem (by omega)]
  repeat (first | (refine RunH ?_; intro w hL hB; try clear w) | (refine Both.mk ?_ ?_ <;> conv => whnf) | fail)
  refine V.tree ttOk (fun x => Blk x l _ 47 ∧ Row x g o ps) (.q 0 (.q 1 (.q 2 (.q 3 (.q 4 (.q 5 (.q 6 (.q 7 (.q 8 (.q 9 (.q 10 (.q 11 (.q 12 .nil))))))))))))) mixed (by decide +kernel) ⟨hC2 _ hL.drew.below, hrow _ hL.drew.below⟩ ?_
  replace hL := hL.drew
  conv => whnf
  repeat' (first | (refine RunH ?_; intro w hL hB; try clear w) | (refine Br.dec (fun hbr => ?_) (fun hbr => ?_) <;> conv => whnf) | (refine Br.mk (fun hbr => ?_) (fun hbr => ?_) <;> conv => whnf) | (refine Both.mk ?_ ?_ <;> conv => whnf) | (refine Lq.of_class (fun x hx => Ld.blk ttOk rfl rfl hx.1 rfl rfl) ?_; conv => whnf) | (intro o1 ho1; conv => whnf) | (refine Lq.of_class (fun x hx => Ld.row1 ttOk hx.2 rfl rfl hg (by omega) rfl) ?_; conv => whnf) | fail)
  exact ⟨by rw [List.getLast?_eq_some_getLast h0]; rfl, hL.below⟩
theorem bounds_fn {l : Nat} {c0 c1 sv : Value} {af fi : Nat} {ps : List Value} (w0 : World) (hC : Blk w0 l [c0, c1, sv, .int .i64 (af : Int)] 47) (hS : Sl w0 sv ps)
    (hz : ps = [] → fi = af) (hf : ∀ p ps', ps = p :: ps' → ∃ b c1 c2 c3, p = .pointer (some ⟨b, 0, none⟩) ∧ Blk w0 b [.int .i64 (fi : Int), c1, c2, c3] 57) :
    Fn Tryd.prog 9 #[.pointer (some ⟨l, 0, none⟩)] w0 fun r w' => r = .tuple #[.int .i64 (fi : Int), .int .i64 (af : Int)] ∧ Below w0.heap.size w0 w' := by
  have hL := Sep.start Tryd.prog w0
  have hB := Nat.le_refl w0.heap.size
  have hC2 : ∀ x, Below w0.heap.size w0 x → Blk x l [c0, c1, sv, .int .i64 (af : Int)] 47 := fun x h => hC.below h hC.lt
  have hX2 : ∀ x, Below w0.heap.size w0 x → Sl x sv ps := fun x h => hS.below h
  obtain ⟨xa, xc, rfl⟩ := hS.shape
  have hle := hS.le
  cases ps with
  | nil =>
    rw [hz rfl]
    refine Fn.mk Tryd.func9 rfl (by kernel_rfl) Tryd.ntmps9 rfl (by rw [Tryd.results9]) ?_
    repeat (first | (refine RunH ?_; intro w hL hB; try clear w) | (refine Both.mk ?_ ?_ <;> conv => whnf) | fail)
    refine V.tree ttOk (fun x => Blk x l _ 47) (.q 0 (.q 1 (.q 2 (.q 3 (.q 4 (.q 5 (.q 6 (.q 7 (.q 8 (.q 9 .nil)))))))))) mixed (by decide +kernel) (hC2 _ hL.drew.below) ?_
    replace hL := hL.drew
    conv => whnf
    repeat' (first | (refine RunH ?_; intro w hL hB; try clear w) | (refine Br.dec (fun hbr => ?_) (fun hbr => ?_) <;> conv => whnf) | (refine Br.mk (fun hbr => ?_) (fun hbr => ?_) <;> conv => whnf) | (refine Both.mk ?_ ?_ <;> conv => whnf) | (refine Lq.of_class (fun x hx => Ld.blk ttOk rfl rfl hx rfl rfl) ?_; conv => whnf) | fail)
    exact ⟨rfl, hL.below⟩
  | cons p ps =>
    obtain ⟨b, d1, d2, d3, rfl, hb⟩ := hf p ps rfl
    have hb2 : ∀ x, Below w0.heap.size w0 x → Blk x b [.int .i64 (fi : Int), d1, d2, d3] 57 := fun x h => hb.below h hb.lt
    obtain ⟨g, o, rfl, _⟩ := hS.addr (by simp)
    have hrow : ∀ x, Below w0.heap.size w0 x → Row x g o (.pointer (some ⟨b, 0, none⟩) :: ps) := fun x h => (hX2 x h).rowOf'
    simp only [List.length_cons] at hle hC2
    refine Fn.mk Tryd.func9 rfl (by kernel_rfl) Tryd.ntmps9 rfl (by rw [Tryd.results9]) ?_
    repeat (first | (refine RunH ?_; intro w hL hB; try clear w) | (refine Both.mk ?_ ?_ <;> conv => whnf) | fail)
    repeat (first | (refine RunH ?_; intro w hL hB; try clear w) | (refine Both.mk ?_ ?_ <;> conv => whnf) | fail)
    refine V.tree ttOk (fun x => Blk x l _ 47 ∧ Row x g o (.pointer (some ⟨b, 0, none⟩) :: ps) ∧ Blk x b _ 57) (.q 0 (.q 1 (.q 2 (.q 3 (.q 4 (.q 5 (.q 6 (.q 7 (.q 8 (.q 9 (.q 10 (.q 11 (.q 12 (.q 13 (.q 14 .nil))))))))))))))) mixed (by decide +kernel) ⟨hC2 _ hL.drew.below, hrow _ hL.drew.below, hb2 _ hL.drew.below⟩ ?_
    replace hL := hL.drew
    conv => whnf
    repeat' (first | (refine RunH ?_; intro w hL hB; try clear w) | (refine Br.dec (fun hbr => ?_) (fun hbr => ?_) <;> conv => whnf) | (refine Br.mk (fun hbr => ?_) (fun hbr => ?_) <;> conv => whnf) | (refine Both.mk ?_ ?_ <;> conv => whnf) | (refine Lq.of_class (fun x hx => Ld.blk ttOk rfl rfl hx.1 rfl rfl) ?_; conv => whnf) | (refine Lq.of_class (fun x hx => Ld.blk ttOk rfl rfl hx.2.2 rfl rfl) ?_; conv => whnf) | (intro o1 ho1; conv => whnf) | (refine Lq.of_class (fun x hx => Ld.row1 ttOk hx.2.1 rfl rfl (k := 0) rfl (by omega) rfl) ?_; conv => whnf) | fail)
    exact ⟨rfl, hL.below⟩
end Go.Proofs.YtjafamiaahabgaaDoor
