/- wal: Drop. Nothing is claimed here. -/
import Derived.Test.YtjafamiaahabgaaDoorAl
namespace Go.Proofs.YtjafamiaahabgaaDoor
open Go.RowKit Go.Lib
set_option linter.unusedVariables false
set_option linter.unusedSimpArgs false
set_option maxRecDepth 100000

theorem Wn.tail {g c : Nat} {pr post ps : List Value} {p : Value} (hok : (Wn.at g pr post c).ok (p :: ps)) {o1 n1 c1 : Nat} (h1 : 1 < c → o1 = pr.length + 1) (h2 : 1 = c → o1 = pr.length) (h3 : n1 = ps.length) (h4 : c1 = c - 1) :
    ∃ n2 : Wn, n2.val ps = .slice (some ⟨g, o1, none⟩) n1 c1 ∧ n2.ok ps ∧ n2.res ps = (Wn.at g pr post c).res (p :: ps) := by
  obtain ⟨k1, k2, k3⟩ := hok
  rw [List.length_cons] at k1 k3
  subst h3; subst h4
  by_cases hc : c = 1
  · subst hc
    obtain rfl := h2 rfl
    obtain rfl := List.eq_nil_of_length_eq_zero (show ps.length = 0 by omega)
    exact ⟨.at g pr (p :: post) 0, rfl, ⟨by simp, by simp, by simp⟩, by simp [Wn.res]⟩
  · obtain rfl := h1 (by omega)
    exact ⟨.at g (pr ++ [p]) post (c - 1), by simp [Wn.val], ⟨by omega, by omega, by omega⟩, by simp [Wn.res]⟩
def dropR (pre : ByteArray) (i : Int) (af : Nat) : List Wg → List Fl → List Wg × List Fl
  | [], S => ([], S)
  | g :: gs, S => if i < (g.next : Nat) ∨ (gs = [] ∧ i ≠ (af : Int)) then (g :: gs, S) else dropR pre i af gs (delS S (wnm pre g.first))
def lowW (G : List Wg) (af : Nat) : Nat := match G with
  | [] => af
  | g :: _ => g.first
def mayW (G : List Wg) (af : Nat) (i : Int) : Bool := decide ((lowW G af : Int) ≤ i ∧ i ≤ (af : Int))
end Go.Proofs.YtjafamiaahabgaaDoor
