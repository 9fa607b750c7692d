/- wal: names of segments, what a name says. Nothing is claimed here. -/
import Derived.Test.YtjafamiaahabgaaDoorUv
namespace Go.Proofs.YtjafamiaahabgaaDoor
open Go.RowKit Go.Lib
set_option linter.unusedVariables false
set_option linter.unusedSimpArgs false
set_option maxRecDepth 100000

/-- the table of tens stands in every world behind w0 -/
def TabW (B : Nat) (w0 : World) : Prop := ∀ w, Below B w0 w → TabIs Tryd.prog w "internal/strconv.uint64pow10" .u64 pow10Tab
/-- a segment's name -/
def wnm (pre : ByteArray) (n : Nat) : ByteArray := pre ++ ⟨#[46]⟩ ++ ⟨(dig8 n).toArray⟩
theorem dig8_sz {i : Nat} (h : i ≤ 99999999) : (⟨(dig8 i).toArray⟩ : ByteArray).size = 8 := by
  show (dig8 i).toArray.size = 8
  simp [dig8_len h]
theorem wnm_size {pre : ByteArray} {n : Nat} (h : n ≤ 99999999) : (wnm pre n).size = pre.size + 9 := by
  rw [wnm, ByteArray.size_append, ByteArray.size_append, dig8_sz h]
  rfl
def segV (d : Nat) (pre : ByteArray) (sv : Value) (af : Nat) : List Value := [.pointer (some ⟨d, 0, none⟩), .string pre, sv, .int .i64 (af : Int)]
set_option maxHeartbeats 1000000 in
theorem name_fn {d l : Nat} {pre : ByteArray} {sv : Value} {af : Nat} (n : Nat) (hn : n ≤ 99999999) (hp : pre.size ≤ 1000) (w0 : World) (hC : Blk w0 l [.pointer (some ⟨d, 0, none⟩), .string pre, sv, .int .i64 (af : Int)] 47) (htab : TabIs Tryd.prog w0 "internal/strconv.uint64pow10" .u64 pow10Tab) :
    Fn Tryd.prog 18 #[.pointer (some ⟨l, 0, none⟩), .int .i64 (n : Int)] w0 fun r w' => r = .string (wnm pre n) ∧ Below w0.heap.size w0 w' := by
  have hL := Sep.start Tryd.prog w0
  have hB := Nat.le_refl w0.heap.size
  have hd1 := decDigits_pos n
  have hd8 := decDigits_len 7 n (by omega)
  refine Fn.mk Tryd.func18 rfl (by kernel_rfl) Tryd.ntmps18 rfl (by rw [Tryd.results18]) ?_
  repeat (first | (refine RunH ?_; intro w hL hB; try clear w) | (refine Both.mk ?_ ?_ <;> conv => whnf) | fail)
  refine (itoaG_fn n hn _ htab).mono fun r w ⟨hr, hw⟩ => ?_
  subst hr
  replace hL := hL.call hB (Turns.of_below hw)
  replace hB := Nat.le_trans hB hw.size
  have hsz : (⟨(decDigits n).toArray⟩ : ByteArray).size = (decDigits n).length := rfl
  conv => whnf
  repeat (first | (refine RunH ?_; intro w hL hB; try clear w) | (refine Both.mk ?_ ?_ <;> conv => whnf) | fail)
  have e1 : ∀ x y : ByteArray, (x ++ y).size = x.size + y.size := fun x y => ByteArray.size_append
  have s1 : (⟨#[46]⟩ : ByteArray).size = 1 := rfl
  have hC2 : ∀ x, Below w0.heap.size w0 x → Blk x l [.pointer (some ⟨d, 0, none⟩), .string pre, sv, .int .i64 (af : Int)] 47 := fun x h => hC.below h hC.lt
  refine V.tree ttOk (fun x => Blk x l [.pointer (some ⟨d, 0, none⟩), .string pre, sv, .int .i64 (af : Int)] 47) (.q 0 (.q 1 (.q 2 (.q 3 (.q 4 (.q 5 (.q 6 (.q 7 (.q 10 (.alt 8 (.q 9 (.q 11 (.q 12 .nil))) .stop)))))))))) mixed (by decide +kernel) (hC2 _ hL.drew.below) ?_
  replace hL := hL.drew
  conv => whnf
  repeat' (first | (refine RunH ?_; intro w hL hB; try clear w) | (refine Br.dec (fun hbr => ?_) (fun hbr => ?_) <;> conv => whnf) | (refine Br.mk (fun hbr => ?_) (fun hbr => ?_) <;> conv => whnf) | (refine Both.mk ?_ ?_ <;> conv => whnf) | (refine Lq.of_class (fun x hx => Ld.blk ttOk rfl rfl hx rfl rfl) ?_; conv => whnf) | (refine And.intro (hC2 _ hL.below) ?_; conv => whnf) | fail)
  rw [show (8 - ((⟨(decDigits n).toArray⟩ : ByteArray).size : Int)) = ((8 - (decDigits n).length : Nat) : Int) from by rw [hsz]; omega]
  refine (repeat0_fn (8 - (decDigits n).length) (by omega) _).mono fun r w' ⟨hr, hw⟩ => ?_
  subst hr; subst hw
  have hzs : (zs (8 - (decDigits n).length)).size = 8 - (decDigits n).length := by
    show (List.replicate (8 - (decDigits n).length) (48 : UInt8)).toArray.size = _
    simp
  conv => whnf
  refine And.intro (hC2 _ hL.below) ?_
  conv => whnf
  repeat (first | (refine RunH ?_; intro w hL hB; try clear w) | (refine Both.mk ?_ ?_ <;> conv => whnf) | fail)
  have s2 : (⟨(decDigits n).toArray⟩ : ByteArray).size ≤ 8 := by rw [hsz]; omega
  refine Chk.mk (by rw [e1, hzs, s1]; omega) ?_
  conv => whnf
  repeat (first | (refine RunH ?_; intro w hL hB; try clear w) | (refine Both.mk ?_ ?_ <;> conv => whnf) | fail)
  refine Chk.mk (by rw [e1, e1, hzs, s1]; omega) ?_
  conv => whnf
  repeat (first | (refine RunH ?_; intro w hL hB; try clear w) | (refine Both.mk ?_ ?_ <;> conv => whnf) | fail)
  refine ⟨congrArg Value.string ?_, hL.below⟩
  apply ByteArray.ext
  apply Array.toList_inj.1
  simp [wnm, dig8, zs]
end Go.Proofs.YtjafamiaahabgaaDoor
