/- What is to be done first, plain. Nothing is claimed here. -/
import Derived.Test.YthifnfoppamkiaaSc
namespace Go.Proofs.Ythifnfoppamkiaa
set_option linter.unusedVariables false
set_option linter.unusedSimpArgs false

structure PV where
  id : Int
  st : Int
  ep : Int
  ns : List Int
  fz : Bool
  job : Int
structure PA where
  kind : Int
  vol : Int
  st : Int
  keep : List Int
  ns : List Int
structure PC where
  ms : Int
  sv : Int
  cp : Int
  k : Int
  m : Int
  room : Int
  lim : Int

def loadS (l : List PV) (s : Int) : Nat := (l.map fun v => v.ns.count s).sum
def liveS (live : List Bool) (n : Int) : Bool := decide (0 ≤ n) && decide (n < 64) && (live[n.toNat]?).getD false
def livingS (live : List Bool) (ns : List Int) : List Int := ns.filter (liveS live)
def numS (k : Nat) : List Int := (List.range k).map fun i : Nat => (i : Int)
def candS (live : List Bool) (ns : List Int) : List Int := (numS (min 64 live.length)).filter fun n => liveS live n && !ns.contains n
def insS (ld : Int → Nat) (out : List Int) (s : Int) : List Int := out.takeWhile (fun x => decide (ld x ≤ ld s)) ++ s :: out.dropWhile (fun x => decide (ld x ≤ ld s))
def freeS (l : List PV) (live : List Bool) (ns : List Int) : List Int := (candS live ns).foldl (insS (loadS l)) []

/-- less: by the load, then by the number -/
def lt2 (ld : Int → Nat) (x y : Int) : Prop := ld x < ld y ∨ (ld x = ld y ∧ x < y)

theorem insS_perm (ld : Int → Nat) (out : List Int) (s : Int) : (insS ld out s).Perm (s :: out) := by
  unfold insS
  refine List.perm_middle.trans ?_
  rw [List.takeWhile_append_dropWhile]
theorem fold_perm (ld : Int → Nat) : ∀ (xs out : List Int), (xs.foldl (insS ld) out).Perm (xs ++ out)
  | [], out => by simp
  | x :: xs, out => by
    rw [List.foldl_cons]
    refine (fold_perm ld xs _).trans ?_
    refine ((insS_perm ld out x).append_left xs).trans ?_
    simp only [List.cons_append]
    exact List.perm_middle
theorem freeS_perm (l : List PV) (live : List Bool) (ns : List Int) : (freeS l live ns).Perm (candS live ns) := by
  have := fold_perm (loadS l) (candS live ns) []
  simpa [freeS] using this
theorem freeS_mem {l : List PV} {live : List Bool} {ns : List Int} {n : Int} : n ∈ freeS l live ns ↔ n ∈ candS live ns := (freeS_perm l live ns).mem_iff
theorem numS_mem {k : Nat} {n : Int} : n ∈ numS k ↔ 0 ≤ n ∧ n < k := by
  unfold numS
  simp only [List.mem_map, List.mem_range]
  constructor
  · rintro ⟨i, hi, rfl⟩; omega
  · rintro ⟨h1, h2⟩; exact ⟨n.toNat, by omega, by omega⟩
theorem liveS_iff {live : List Bool} {n : Int} : liveS live n = true ↔ 0 ≤ n ∧ n < 64 ∧ live[n.toNat]? = some true := by
  unfold liveS
  simp only [Bool.and_eq_true, decide_eq_true_eq]
  cases h : live[n.toNat]? with
  | none => simp
  | some b => simp [and_assoc]
theorem liveS_lt {live : List Bool} {n : Int} (h : liveS live n = true) : 0 ≤ n ∧ n < 64 ∧ n < live.length := by
  obtain ⟨h1, h2, h3⟩ := liveS_iff.1 h
  obtain ⟨h4, _⟩ := List.getElem?_eq_some_iff.1 h3
  omega
theorem candS_mem {live : List Bool} {ns : List Int} {n : Int} : n ∈ candS live ns ↔ liveS live n = true ∧ n ∉ ns := by
  unfold candS
  simp only [List.mem_filter, numS_mem, Bool.and_eq_true, Bool.not_eq_true', List.contains_eq_mem, decide_eq_false_iff_not]
  constructor
  · rintro ⟨_, h⟩; exact h
  · rintro h
    have := liveS_lt h.1
    exact ⟨by omega, h⟩
theorem numS_lt (k : Nat) : (numS k).Pairwise (· < ·) := by
  unfold numS
  rw [List.pairwise_map]
  exact List.pairwise_lt_range.imp (by intro a b h; omega)
theorem candS_lt (live : List Bool) (ns : List Int) : (candS live ns).Pairwise (· < ·) := (numS_lt _).filter _
theorem candS_nodup (live : List Bool) (ns : List Int) : (candS live ns).Nodup := (candS_lt live ns).imp (by intro a b h; omega)
theorem freeS_nodup (l : List PV) (live : List Bool) (ns : List Int) : (freeS l live ns).Nodup := (freeS_perm l live ns).nodup_iff.2 (candS_nodup live ns)

theorem insS_sorted (ld : Int → Nat) (out : List Int) (s : Int) (h : out.Pairwise (lt2 ld)) (hs : ∀ x ∈ out, x < s) : (insS ld out s).Pairwise (lt2 ld) := by
  induction out with
  | nil => simp [insS]
  | cons x out ih =>
    rw [List.pairwise_cons] at h
    by_cases hx : ld x ≤ ld s
    · have e : insS ld (x :: out) s = x :: insS ld out s := by simp [insS, hx]
      rw [e, List.pairwise_cons]
      refine ⟨fun y hy => ?_, ih h.2 fun y hy => hs y (List.mem_cons_of_mem _ hy)⟩
      rcases List.mem_cons.1 ((insS_perm ld out s).mem_iff.1 hy) with rfl | hy
      · have := hs x (List.mem_cons_self ..)
        unfold lt2; omega
      · exact h.1 y hy
    · have e : insS ld (x :: out) s = s :: x :: out := by simp [insS, hx]
      rw [e, List.pairwise_cons, List.pairwise_cons]
      refine ⟨fun y hy => ?_, h⟩
      rcases List.mem_cons.1 hy with rfl | hy
      · unfold lt2; omega
      · have := h.1 y hy
        unfold lt2 at *; omega
theorem fold_sorted (ld : Int → Nat) : ∀ (xs out : List Int), xs.Pairwise (· < ·) → (∀ x ∈ xs, ∀ y ∈ out, y < x) → out.Pairwise (lt2 ld) → (xs.foldl (insS ld) out).Pairwise (lt2 ld)
  | [], out, _, _, h => h
  | x :: xs, out, hx, hy, h => by
    rw [List.foldl_cons]
    rw [List.pairwise_cons] at hx
    refine fold_sorted ld xs _ hx.2 ?_ (insS_sorted ld out x h fun y hy' => hy x (List.mem_cons_self ..) y hy')
    intro a ha b hb
    rcases List.mem_cons.1 ((insS_perm ld out x).mem_iff.1 hb) with rfl | hb
    · exact hx.1 a ha
    · exact hy a (List.mem_cons_of_mem _ ha) b hb
theorem freeS_sorted (l : List PV) (live : List Bool) (ns : List Int) : (freeS l live ns).Pairwise (lt2 (loadS l)) :=
  fold_sorted _ _ _ (candS_lt live ns) (by simp) List.Pairwise.nil
/-- there is one sorted order -/
theorem freeS_uniq (l : List PV) (live : List Bool) (ns : List Int) (d : List Int) (hp : d.Perm (candS live ns)) (hd : d.Pairwise fun x y => ¬ lt2 (loadS l) y x) : d = freeS l live ns := by
  refine List.Perm.eq_of_pairwise (le := fun x y => ¬ lt2 (loadS l) y x) ?_ hd ?_ (hp.trans (freeS_perm l live ns).symm)
  · intro a b _ _ h1 h2
    unfold lt2 at *; omega
  · exact (freeS_sorted l live ns).imp (by intro a b h1 h2; unfold lt2 at *; omega)

def lackS (l : List PV) (live : List Bool) (c : PC) (v : PV) : Option PA :=
  if (v.st ≠ 0 ∧ v.st ≠ 1) ∨ livingS live v.ns = [] ∨ (v.fz = false ∧ (c.cp ≤ (livingS live v.ns).length ∨ freeS l live v.ns = [])) then none
  else some ⟨1, 0, v.st, livingS live v.ns, livingS live v.ns ++ (freeS l live v.ns).take (c.cp - (livingS live v.ns).length).toNat⟩
def patchS (live : List Bool) : List Int → List Int → List Int
  | [], _ => []
  | n :: ns, f => if liveS live n then n :: patchS live ns f else match f with
    | [] => -1 :: patchS live ns []
    | x :: f => x :: patchS live ns f
def deadS (live : List Bool) (n : Int) : Int := if liveS live n then n else -1
def brokeS (l : List PV) (live : List Bool) (c : PC) (v : PV) : Option PA :=
  if v.st ≠ 2 ∨ (livingS live v.ns).length < c.k ∨ (v.fz = false ∧ ((livingS live v.ns).length = v.ns.length ∨ freeS l live (livingS live v.ns) = [])) then none
  else some ⟨3, 0, 2, v.ns.map (deadS live), patchS live v.ns (freeS l live (livingS live v.ns))⟩
def sizeS (sizes : List Int) (i : Nat) : Int := (sizes[i]?).getD 0
def wholeS (live : List Bool) (v : PV) : Prop := (livingS live v.ns).length = v.ns.length
instance (live : List Bool) (v : PV) : Decidable (wholeS live v) := by unfold wholeS; infer_instance
def fullS (live : List Bool) (sizes : List Int) (c : PC) (i : Nat) (v : PV) : Option PA :=
  if v.st ≠ 0 ∨ v.fz = true ∨ ¬ wholeS live v ∨ sizeS sizes i < c.lim then none else some ⟨4, 0, 1, v.ns, v.ns⟩
def stripS (l : List PV) (live : List Bool) (c : PC) (v : PV) : Option PA :=
  if v.st ≠ 1 ∨ v.fz = true ∨ ¬ wholeS live v ∨ (freeS l live []).length < c.k + c.m then none else some ⟨2, 0, 2, v.ns, (freeS l live []).take (c.k + c.m).toNat⟩
/-- the first place of the greatest load, of the first k -/
def mostS (ld : Int → Nat) (ns : List Int) : Nat → Nat
  | 0 => 0
  | k + 1 => if ld (ns[mostS ld ns k]?.getD 0) < ld (ns[k]?.getD 0) then k else mostS ld ns k
def unevenS (l : List PV) (live : List Bool) (v : PV) : Option PA :=
  match freeS l live v.ns with
  | [] => none
  | f :: _ =>
    if (v.st ≠ 0 ∧ v.st ≠ 1) ∨ v.fz = true ∨ ¬ wholeS live v ∨ loadS l (v.ns[mostS (loadS l) v.ns v.ns.length]?.getD 0) < loadS l f + 2 then none
    else some ⟨5, 0, v.st, v.ns, v.ns.set (mostS (loadS l) v.ns v.ns.length) f⟩
/-- the first volume that a rule speaks of -/
def atRuleS (r : Nat → PV → Option PA) (i : Nat) (v : PV) : Option PA := if v.ns = [] then none else (r i v).map fun a => { a with vol := v.id }
def firstS (r : Nat → PV → Option PA) (l : List PV) : Option PA := l.zipIdx.findSome? fun p => atRuleS r p.2 p.1
def okC (c : PC) : Prop := 1 ≤ c.cp ∧ 1 ≤ c.k ∧ 0 ≤ c.m ∧ c.k ≤ 14 ∧ c.m ≤ 14 ∧ c.k + c.m ≤ 14
instance (c : PC) : Decidable (okC c) := by unfold okC; infer_instance
def rulesS (l : List PV) (live : List Bool) (sizes : List Int) (c : PC) : List (Nat → PV → Option PA) :=
  [fun _ v => lackS l live c v, fun _ v => brokeS l live c v, fun i v => fullS live sizes c i v, fun _ v => stripS l live c v, fun _ v => unevenS l live v]
def nextS (l : List PV) (live : List Bool) (sizes : List Int) (c : PC) : Option PA :=
  if okC c then (rulesS l live sizes c).findSome? fun r => firstS r l else none

theorem firstS_none {r : Nat → PV → Option PA} {l : List PV} (h : ∀ (i : Nat) (hi : i < l.length), atRuleS r i l[i] = none) : firstS r l = none := by
  unfold firstS
  rw [List.findSome?_eq_none_iff]
  rintro ⟨v, i⟩ hm
  obtain ⟨h1, h2⟩ := List.mem_zipIdx' hm
  dsimp only at *
  rw [h2]
  exact h i h1
theorem firstS_some {r : Nat → PV → Option PA} {l : List PV} {a : PA} {k : Nat} (hk : k < l.length) (h : ∀ (i : Nat) (hi : i < k), atRuleS r i l[i] = none) (ha : atRuleS r k l[k] = some a) : firstS r l = some a := by
  unfold firstS
  rw [List.findSome?_eq_some_iff]
  refine ⟨(l.zipIdx).take k, (l[k], k), (l.zipIdx).drop (k + 1), ?_, ha, ?_⟩
  · have hz : k < l.zipIdx.length := by simpa using hk
    have e : l.zipIdx[k] = (l[k], k) := by simp
    rw [← e, List.getElem_cons_drop, List.take_append_drop]
  · rintro ⟨v, i⟩ hm
    obtain ⟨j, hj, he⟩ := List.getElem_of_mem hm
    rw [List.getElem_take] at he
    simp only [List.getElem_zipIdx, Nat.zero_add, Prod.mk.injEq] at he
    obtain ⟨rfl, rfl⟩ := he
    rw [List.length_take] at hj
    exact h j (by omega)
theorem firstS_at {r : Nat → PV → Option PA} {l : List PV} {a : PA} (h : firstS r l = some a) : ∃ (k : Nat) (hk : k < l.length), atRuleS r k l[k] = some a := by
  unfold firstS at h
  obtain ⟨⟨v, i⟩, hm, ha⟩ := List.exists_of_findSome?_eq_some h
  obtain ⟨h1, h2⟩ := List.mem_zipIdx' hm
  dsimp only at *
  rw [h2] at ha
  exact ⟨i, h1, ha⟩
end Go.Proofs.Ythifnfoppamkiaa
