/- slices.Sort at []uint64. Nothing is claimed here. -/
import Derived.Test.YtpkealgeigpjpaaDoorQj
namespace Go.Proofs.YtpkealgeigpjpaaDoor
open Go.RowKit
set_option linter.unusedVariables false
set_option linter.unusedSimpArgs false
set_option maxRecDepth 100000

def leN (x y : Nat) : Bool := decide (x ≤ y)
theorem sort_plain (d : Array Nat) : (Sort.sort ltN d).toList = d.toList.mergeSort leN := by
  obtain ⟨hP, hS⟩ := Sort.sort_sorts ltN swoN d
  rw [Sort.sorted_unique_holds swoN (fun x y h1 h2 => by simp only [ltN, decide_eq_false_iff_not] at h1 h2; omega) d _ hP hS]
  congr 1
  funext x y
  show (!decide (y < x)) = decide (x ≤ y)
  by_cases h : x ≤ y
  · rw [decide_eq_true h, decide_eq_false (by omega)]; rfl
  · rw [decide_eq_false h, decide_eq_true (by omega)]; rfl
section
variable {B g cap : Nat} {w0 w : World} {F : List Res}
theorem sortQ_fn (ss : List Nat) (hn : ss.length ≤ 2305843009213693951) (hL : Sep Tryd.prog B w0 w (Dat g cap ss.length ss.toArray :: F)) (hB : B ≤ w.heap.size) :
    Fn Tryd.prog 59 #[.slice (some ⟨g, 0, none⟩) ss.length cap] w fun r w' => Owns B w0 w' (Dat g cap ss.length (ss.mergeSort leN).toArray :: F) := by
  have hl := lenQ_fn ss.length (by omega)
  have h61 := bitsLen_le (x := ss.length) (by omega)
  have e : Sort.pdq ltN ss.toArray 0 ss.length (Sort.bitsLen ss.length) true true = (ss.mergeSort leN).toArray := by
    have h := sort_plain ss.toArray
    unfold Sort.sort at h
    simp only [List.size_toArray] at h
    rw [← h]
  refine Fn.mk Tryd.func59 rfl (by kernel_rfl) Tryd.ntmps59 rfl (by rw [Tryd.results59]) ?_
  repeat (first | (refine RunH ?_; intro w hL hB; try clear w) | (refine Both.mk ?_ ?_ <;> conv => whnf) | (refine (hl _).mono fun r w1 hr => ?_; obtain ⟨hr, hw⟩ := hr; subst hr; subst hw; conv => whnf) | fail)
  refine (pdq_fn hn ss.length 0 ss.length (Sort.bitsLen ss.length) ss.toArray _ (by omega) (by omega) (Nat.le_refl _) (by omega) hL hB).mono fun r w ⟨hL, hB⟩ => ?_
  rw [e] at hL
  conv => whnf
  repeat (first | (refine RunH ?_; intro w hL hB; try clear w) | (refine Both.mk ?_ ?_ <;> conv => whnf) | fail)
  exact ⟨hL, hB⟩
end
theorem insNil_fn (w : World) : Fn Tryd.prog 86 #[.slice none 0 0, .int .i64 0, .int .i64 0] w fun r w' => w' = w ∧ True := by
  have hL := Sep.start Tryd.prog w
  have hB := Nat.le_refl w.heap.size
  refine Fn.mk Tryd.func86 rfl (by kernel_rfl) Tryd.ntmps86 rfl (by rw [Tryd.results86]) ?_
  repeat (first | (refine RunH ?_; intro w hL hB; try clear w) | (refine Both.mk ?_ ?_ <;> conv => whnf) | fail)
  refine V.loop (α := Nat) (fun k => [(2, .int .i64 0), (6, .int .i64 1)]) (fun k w' => w' = w) (fun k => 0) 0 ⟨rfl, rfl, trivial⟩ rfl ?_
  rintro k w1 hw
  rw [hw]
  repeat (first | (refine RunH ?_; intro w hL hB; try clear w) | (refine Both.mk ?_ ?_ <;> conv => whnf) | fail)
  exact ⟨rfl, trivial⟩
theorem sortNilQ_fn (w : World) : Fn Tryd.prog 59 #[.slice none 0 0] w fun r w' => w' = w ∧ True := by
  have hl := lenQ_fn 0 (by omega)
  have hp : ∀ w, Fn Tryd.prog 74 #[.slice none 0 0, .int .i64 0, .int .i64 0, .int .i64 0] w fun r w' => w' = w ∧ True := by
    intro w
    have hL := Sep.start Tryd.prog w
    have hB := Nat.le_refl w.heap.size
    refine Fn.mk Tryd.func74 rfl (by kernel_rfl) Tryd.ntmps74 rfl (by rw [Tryd.results74]) ?_
    repeat (first | (refine RunH ?_; intro w hL hB; try clear w) | (refine Both.mk ?_ ?_ <;> conv => whnf) | fail)
    refine V.loop (α := Nat) (fun k => [(0, .slice none 0 0), (1, .int .i64 0), (2, .int .i64 0), (3, .int .i64 0)]) (fun k w' => w' = w) (fun k => 0) 0 ⟨rfl, rfl, rfl, rfl, trivial⟩ rfl ?_
    rintro k w1 hw
    rw [hw]
    repeat (first | (refine RunH ?_; intro w hL hB; try clear w) | (refine Both.mk ?_ ?_ <;> conv => whnf) | fail)
    refine (insNil_fn _).mono fun r w' ⟨hw, _⟩ => ?_
    rw [hw]
    conv => whnf
    repeat (first | (refine RunH ?_; intro w hL hB; try clear w) | (refine Both.mk ?_ ?_ <;> conv => whnf) | fail)
    exact ⟨rfl, trivial⟩
  have hL := Sep.start Tryd.prog w
  have hB := Nat.le_refl w.heap.size
  refine Fn.mk Tryd.func59 rfl (by kernel_rfl) Tryd.ntmps59 rfl (by rw [Tryd.results59]) ?_
  repeat (first | (refine RunH ?_; intro w hL hB; try clear w) | (refine Both.mk ?_ ?_ <;> conv => whnf) | (refine (hl _).mono fun r w1 hr => ?_; obtain ⟨hr, hw⟩ := hr; subst hr; subst hw; conv => whnf) | fail)
  refine (hp _).mono fun r w' ⟨hw, _⟩ => ?_
  rw [hw]
  conv => whnf
  repeat (first | (refine RunH ?_; intro w hL hB; try clear w) | (refine Both.mk ?_ ?_ <;> conv => whnf) | fail)
  exact ⟨rfl, trivial⟩
end Go.Proofs.YtpkealgeigpjpaaDoor
