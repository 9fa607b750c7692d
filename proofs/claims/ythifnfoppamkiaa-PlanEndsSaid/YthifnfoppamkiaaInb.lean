/- Plan: PlanEnds, plain and in parts. Nothing is claimed here. -/
import Derived.Test.YthifnfoppamkiaaIna
namespace Go.Proofs.Ythifnfoppamkiaa
open Go.RowKit
set_option linter.unusedVariables false
set_option linter.unusedSimpArgs false
set_option maxRecDepth 100000

def modI (n S : Int) : Int := if n.tmod S < 0 then n.tmod S + S else n.tmod S
theorem modI_rng {n S : Int} (h : 0 < S) : 0 ≤ modI n S ∧ modI n S < S := by
  have h1 := Int.tmod_lt_of_pos n h
  have h2 := Int.lt_tmod_of_pos n h
  unfold modI
  split <;> omega
def stepD (S : Int) (acc : List Int) (n : Int) : List Int := if modI n S ∈ acc then acc else acc ++ [modI n S]
def foldD (S : Int) (ns : List Int) : List Int := ns.foldl (stepD S) []
theorem foldD_snoc (S : Int) (ns : List Int) (n : Int) : foldD S (ns ++ [n]) = stepD S (foldD S ns) n := by simp [foldD, List.foldl_append]
theorem list_snoc {α : Type} {P : List α → Prop} (h0 : P []) (h1 : ∀ l x, P l → P (l ++ [x])) : ∀ l, P l := by
  intro l
  have : ∀ n (l : List α), l.length = n → P l := by
    intro n
    induction n with
    | zero => intro l hl; rw [List.length_eq_zero_iff.1 hl]; exact h0
    | succ n ih =>
      intro l hl
      have hne : l ≠ [] := fun e => by rw [e] at hl; simp at hl
      have := h1 l.dropLast (l.getLast hne) (ih _ (by simp [hl]))
      rwa [List.dropLast_concat_getLast hne] at this
  exact this _ l rfl
theorem foldD_props {S : Int} (h : 0 < S) (ns : List Int) : (foldD S ns).Nodup ∧ (∀ x ∈ foldD S ns, 0 ≤ x ∧ x < S) ∧ (foldD S ns).length ≤ ns.length := by
  induction ns using list_snoc with
  | h0 => exact ⟨List.nodup_nil, by simp [foldD], Nat.le_refl _⟩
  | h1 l x ih =>
    obtain ⟨h1, h2, h3⟩ := ih
    rw [foldD_snoc]
    unfold stepD
    split
    · exact ⟨h1, h2, by simp; omega⟩
    · rename_i hn
      refine ⟨?_, ?_, by simp; omega⟩
      · rw [List.nodup_append]
        exact ⟨h1, by simp, fun a ha b hb => by
          rw [List.mem_singleton] at hb
          subst hb
          rintro rfl
          exact hn ha⟩
      · intro y hy
        rcases List.mem_append.1 hy with hy | hy
        · exact h2 y hy
        · rw [List.mem_singleton] at hy
          subst hy
          exact modI_rng h
/-- a volume of the law's script -/
def stE (sts : List Int) (i : Nat) : Int := match sts[i]? with
  | none => 0
  | some s => if 0 < s then s.tmod 2 else 0
def ndE (S : Int) (cp : Int) (i : Nat) (ns : List Int) : List Int := if foldD S (ns.take cp.toNat) = [] then [(i : Int).tmod S] else foldD S (ns.take cp.toNat)
def volE (S : Int) (cp : Int) (sts : List Int) (fz : List Bool) (i : Nat) (ns : List Int) : PV := ⟨(i : Int) + 1, stE sts i, 1, ndE S cp i ns, (fz[i]?).getD false, 0⟩
def volsE (S : Int) (cp : Int) (sts : List Int) (fz : List Bool) (nss : List (List Int)) (z : Nat) : List PV := (List.range z).map fun i => volE S cp sts fz i ((nss[i]?).getD [])
theorem volsE_succ (S : Int) (cp : Int) (sts : List Int) (fz : List Bool) (nss : List (List Int)) (z : Nat) : volsE S cp sts fz nss (z + 1) = volsE S cp sts fz nss z ++ [volE S cp sts fz z ((nss[z]?).getD [])] := by
  simp [volsE, List.range_succ]
theorem volsE_len (S : Int) (cp : Int) (sts : List Int) (fz : List Bool) (nss : List (List Int)) (z : Nat) : (volsE S cp sts fz nss z).length = z := by simp [volsE]
theorem ndE_props {S : Nat} {cp : Int} {i : Nat} {ns : List Int} (h : 1 ≤ S) (hc : 1 ≤ cp) : ndE S cp i ns ≠ [] ∧ (ndE S cp i ns).Nodup ∧ (∀ n ∈ ndE S cp i ns, 0 ≤ n ∧ n < S) ∧ ((ndE S cp i ns).length : Int) ≤ cp := by
  obtain ⟨h1, h2, h3⟩ := foldD_props (S := (S : Int)) (by omega) (ns.take cp.toNat)
  rw [List.length_take] at h3
  unfold ndE
  split
  · refine ⟨by simp, by simp, fun n hn => ?_, by simp; omega⟩
    rw [List.mem_singleton] at hn
    subst hn
    rw [tmod_nat]
    have := Nat.mod_lt i (show 0 < S by omega)
    omega
  · rename_i hne
    exact ⟨hne, h1, h2, by omega⟩
theorem stE_01 (sts : List Int) (i : Nat) : stE sts i = 0 ∨ stE sts i = 1 := by
  unfold stE
  split
  · exact .inl rfl
  · rename_i s _
    split
    · rename_i hs
      rw [Int.tmod_eq_emod_of_nonneg (by omega)]
      omega
    · exact .inl rfl
theorem volsE_end {S : Nat} {c : PC} {sts : List Int} {fz : List Bool} {nss : List (List Int)} {z : Nat} (h : 1 ≤ S) (hc : 1 ≤ c.cp) (hz : z ≤ 12) : EndI S c (volsE S c.cp sts fz nss z) := by
  refine ⟨by rw [volsE_len]; exact hz, fun i hi => by simp [volsE, volE], fun v hv => ?_⟩
  obtain ⟨i, _, rfl⟩ := List.mem_map.1 hv
  obtain ⟨h1, h2, h3, h4⟩ := ndE_props (S := S) (cp := c.cp) (i := i) (ns := (nss[i]?).getD []) h hc
  exact ⟨h1, h2, h3, .inl ⟨stE_01 sts i, h4⟩⟩
theorem splice_elem {α : Type} {f : α → List Value} {sz : Nat} (hf : ∀ s, (f s).length = sz) (l : List α) (k : Nat) (x : α) (h : k < l.length) : splice (l.flatMap f) (k * sz) (f x) = (l.set k x).flatMap f := by
  have h1 := flat_len hf l
  have h2 : k * sz + sz ≤ l.length * sz := by
    have := Nat.mul_le_mul_right sz (show k + 1 ≤ l.length by omega)
    rw [Nat.add_mul] at this; omega
  have ht : ∀ j, j ≤ l.length → (l.flatMap f).take (j * sz) = (l.take j).flatMap f ∧ (l.flatMap f).drop (j * sz) = (l.drop j).flatMap f := by
    intro j hj
    have e : l.flatMap f = (l.take j).flatMap f ++ (l.drop j).flatMap f := by rw [← List.flatMap_append, List.take_append_drop]
    have e2 : ((l.take j).flatMap f).length = j * sz := by rw [flat_len hf, List.length_take, Nat.min_eq_left hj]
    rw [e]
    exact ⟨List.take_left' e2, List.drop_left' e2⟩
  rw [splice_eq _ _ _ (by rw [hf, h1]; exact h2), hf, (ht k (by omega)).1, show k * sz + sz = (k + 1) * sz by rw [Nat.add_mul]; omega, (ht (k + 1) (by omega)).2, List.set_eq_take_append_cons_drop, if_pos h]
  simp

set_option maxHeartbeats 4000000 in
theorem lawWhole_fn (v : Value) (ps : List (PV × Value)) (c : PC) (w0 : World) (h : VolS w0 v ps) (hc : -100 ≤ c.k ∧ c.k ≤ 100) (hm : -100 ≤ c.m ∧ c.m ≤ 100) (hok : ∀ v ∈ pvs ps, v.fz = false ∧ (v.st ≠ 2 → c.cp ≤ v.ns.length) ∧ (v.st = 2 → (v.ns.length : Int) = c.k + c.m)) :
    Fn Try.prog 13 #[v, cfV c] w0 fun r w' => r = .bool true ∧ Below w0.heap.size w0 w' := by
  obtain ⟨va, vc, rfl⟩ := h.sl.shape
  have hL := Sep.start Try.prog w0
  have hB := Nat.le_refl w0.heap.size
  have hfew := h.few
  unfold cfV
  refine Fn.mk Try.func13 rfl (by kernel_rfl) Try.ntmps13 rfl (by rw [Try.results13]) ?_
  repeat (first | (refine RunH ?_; intro w hL hB; try clear w) | (refine Both.mk ?_ ?_ <;> conv => whnf) | fail)
  (refine Nw.sep hL hB (fun b3 w hL hB hb3 => ?_); conv => whnf)
  repeat (first | (refine RunH ?_; intro w hL hB; try clear w) | (refine Both.mk ?_ ?_ <;> conv => whnf) | fail)
  refine V.loop (α := Nat) (fun z => [(0, .slice va ps.length vc), (3, .pointer (some ⟨b3, 0, none⟩)), (5, .int .i64 z)])
    (fun z w' => z ≤ ps.length ∧ w0.heap.size ≤ w'.heap.size ∧ Sep Try.prog w0.heap.size w0 w' [.blk b3 (cfC c) 26]) (fun z => ps.length - z) 0 ⟨rfl, rfl, rfl, trivial⟩ ⟨Nat.zero_le _, hB, hL⟩ ?_
  clear hL hB
  rintro z w ⟨hz, hB, hL⟩
  repeat (first | (refine RunH ?_; intro w hL hB; try clear w) | (refine Both.mk ?_ ?_ <;> conv => whnf) | fail)
  refine Br.dec (fun hlt => ?_) (fun hlt => ?_)
  · have hke : z < ps.length := by omega
    have hge : ps[z]? = some ps[z] := List.getElem?_eq_getElem hke
    have hmem := List.getElem_mem hke
    have hpv : (ps[z]).1 ∈ pvs ps := List.mem_map_of_mem hmem
    generalize ps[z] = pv at *
    obtain ⟨p, nv⟩ := pv
    have hns := h.ns _ hmem
    have hten := h.ten _ hmem
    dsimp only at hns hten hpv
    obtain ⟨na, nc, hnv⟩ := hns.shape
    rw [numC_len] at hnv
    subst hnv
    obtain ⟨b, o, rfl, _⟩ := h.sl.addr (by omega)
    obtain ⟨h1, h2, h3⟩ := hok p hpv
    repeat (first | (refine RunH ?_; intro w hL hB; try clear w) | (refine Both.mk ?_ ?_ <;> conv => whnf) | fail)
    intro o1 ho1
    conv => whnf
    refine Ld.rowN ttOk pvC_len (h.sl.below hL.below).rowOf rfl rfl rfl hge (by omega) ?_
    conv => whnf
    (refine Nw.sep hL hB (fun b6 w hL hB hb6 => ?_); conv => whnf)
    repeat (first | (refine RunH ?_; intro w hL hB; try clear w) | (refine Both.mk ?_ ?_ <;> conv => whnf) | fail)
    by_cases hs : p.st = 2
    · have h3' := h3 hs
      repeat (first | (refine RunH ?_; intro w hL hB; try clear w) | (refine Both.mk ?_ ?_ <;> conv => whnf) | fail)
      exact ⟨z + 1, ⟨rfl, rfl, rfl, trivial⟩, ⟨by omega, hB, hL.tl⟩, (by first | omega | (dsimp only; omega))⟩
    · have h2' := h2 hs
      repeat (first | (refine RunH ?_; intro w hL hB; try clear w) | (refine Both.mk ?_ ?_ <;> conv => whnf) | fail)
      exact ⟨z + 1, ⟨rfl, rfl, rfl, trivial⟩, ⟨by omega, hB, hL.tl⟩, (by first | omega | (dsimp only; omega))⟩
  · repeat (first | (refine RunH ?_; intro w hL hB; try clear w) | (refine Both.mk ?_ ?_ <;> conv => whnf) | fail)
    exact ⟨rfl, hL.below⟩
end Go.Proofs.Ythifnfoppamkiaa
