/- wal: Cut. Nothing is claimed here. -/
import Derived.Test.YtjafamiaahabgaaDoorAm
namespace Go.Proofs.YtjafamiaahabgaaDoor
open Go.RowKit Go.Lib
set_option linter.unusedVariables false
set_option linter.unusedSimpArgs false
set_option maxRecDepth 100000

theorem Wn.init {g c : Nat} {pr post ps : List Value} {p : Value} (hok : (Wn.at g pr post c).ok (ps ++ [p])) :
    (Wn.at g pr (p :: post) c).val ps = .slice (some ⟨g, pr.length, none⟩) ps.length c ∧ (Wn.at g pr (p :: post) c).ok ps ∧ (Wn.at g pr (p :: post) c).res ps = (Wn.at g pr post c).res (ps ++ [p]) := by
  obtain ⟨k1, k2, k3⟩ := hok
  rw [List.length_append, List.length_singleton] at k1 k3
  exact ⟨rfl, ⟨by omega, k2, by rw [List.length_cons]; omega⟩, by simp [Wn.res]⟩
/-- from the last segment on: those that begin at i or behind it go -/
def cutRev (pre : ByteArray) (i : Int) : List Wg → List Fl → List Wg × List Fl
  | [], S => ([], S)
  | g :: gs, S => if i ≤ (g.first : Int) then cutRev pre i gs (delS S (wnm pre g.first)) else (g :: gs, S)
def Wg.cut (g : Wg) (i : Int) : Wg := ⟨g.first, g.es.take (i - g.first).toNat, g.dirty⟩
def cutFin (pre : ByteArray) (i : Int) : List Wg × List Fl → List Wg × List Fl
  | ([], S) => ([], S)
  | (g :: gs, S) => if i < (g.next : Nat) then ((g.cut i :: gs).reverse, cutS S (wnm pre g.first) ((g.cut i).size : Int)) else ((g :: gs).reverse, S)
def cutG (pre : ByteArray) (i : Int) (G : List Wg) (S : List Fl) : List Wg × List Fl := cutFin pre i (cutRev pre i G.reverse S)
def headP (rs : List Sg) : Value := match rs with
  | [] => .pointer none
  | s :: _ => .pointer (some ⟨s.b, 0, none⟩)
theorem headP_last (rs : List Sg) : (ptrs rs.reverse).getLast?.getD (.pointer none) = headP rs := by
  cases rs with
  | nil => rfl
  | cons s r => simp [ptrs, headP]
theorem perm_ex {α : Type} (l h e x : α) (A Y M Fr D : List α) : (l :: h :: (((A ++ (Y ++ ((e :: x :: M) ++ []))) ++ Fr) ++ D)).Perm (l :: h :: e :: x :: ((A ++ (Y ++ M) ++ Fr) ++ D)) := by
  refine (List.Perm.cons _ ?_).cons _
  have h1 := List.perm_append_comm_assoc (A ++ Y) [e, x] (M ++ Fr ++ D)
  simpa using h1
theorem perm_cutfin {α : Type} (l h e x : α) (A Y M Fr D : List α) : (l :: h :: e :: x :: ((A ++ (Y ++ M) ++ Fr) ++ D)).Perm (l :: ((A ++ (Y ++ (h :: e :: x :: M)) ++ Fr) ++ D)) := by
  refine List.Perm.cons _ ?_
  have h1 := List.perm_append_comm_assoc [h, e, x] (A ++ Y) (M ++ Fr ++ D)
  simpa using h1
end Go.Proofs.YtjafamiaahabgaaDoor
