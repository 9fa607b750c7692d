/- What is done first comes to an end, plain. Nothing is claimed here. -/
import Derived.Test.YthifnfoppamkiaaIb
namespace Go.Proofs.Ythifnfoppamkiaa
set_option linter.unusedVariables false
set_option linter.unusedSimpArgs false

def putS (v : PV) (a : PA) : PV := { v with st := a.st, ns := a.ns, fz := false }
structure EndC (S : Nat) (live : List Bool) (c : PC) : Prop where
  s0 : 1 ≤ S
  s20 : S ≤ 20
  live : live = List.replicate S true
  cp0 : 1 ≤ c.cp
  cp5 : c.cp ≤ 5
  cpS : c.cp ≤ S
  k0 : 1 ≤ c.k
  k10 : c.k ≤ 10
  m0 : 0 ≤ c.m
  m4 : c.m ≤ 4
structure EndV (S : Nat) (c : PC) (v : PV) : Prop where
  ne : v.ns ≠ []
  nd : v.ns.Nodup
  rng : ∀ n ∈ v.ns, 0 ≤ n ∧ n < S
  st : ((v.st = 0 ∨ v.st = 1) ∧ (v.ns.length : Int) ≤ c.cp) ∨ (v.st = 2 ∧ v.fz = false ∧ (v.ns.length : Int) = c.k + c.m)
structure EndI (S : Nat) (c : PC) (l : List PV) : Prop where
  len : l.length ≤ 12
  ids : ∀ (i : Nat) (h : i < l.length), l[i].id = (i : Int) + 1
  each : ∀ v ∈ l, EndV S c v

def need1 (c : PC) (v : PV) : Bool := decide ((v.st = 0 ∨ v.st = 1) ∧ (v.fz = true ∨ (v.ns.length : Int) < c.cp))
def need3 (sizes : List Int) (c : PC) (i : Nat) (v : PV) : Bool := decide (v.st = 0 ∧ v.fz = false ∧ c.lim ≤ sizeS sizes i)
def need4 (S : Nat) (c : PC) (v : PV) : Bool := decide (v.st = 1 ∧ v.fz = false ∧ c.k + c.m ≤ S)
def busyS (S : Nat) (sizes : List Int) (c : PC) (i : Nat) (v : PV) : Bool := need1 c v || need3 sizes c i v || need4 S c v
def quietS (S : Nat) (sizes : List Int) (c : PC) (l : List PV) : Prop := ∀ i : Fin l.length, busyS S sizes c i l[i] = false
instance (S : Nat) (sizes : List Int) (c : PC) (l : List PV) : Decidable (quietS S sizes c l) := by unfold quietS; infer_instance
def debtS (c : PC) (v : PV) : Nat := if v.st ≤ 1 then (if v.fz = true ∨ (v.ns.length : Int) < c.cp then 1 else 0) + (if v.st = 0 then 1 else 0) + 1 else 0
def debtsS (c : PC) (l : List PV) : Nat := (l.map (debtS c)).sum
def sqS (l : List PV) : Nat := ((numS 64).map fun s => loadS l s * loadS l s).sum
def leftS (S : Nat) (sizes : List Int) (c : PC) (l : List PV) : Nat := if quietS S sizes c l then sqS l / 2 else debtsS c l + 1008

theorem live_all {S : Nat} {live : List Bool} {c : PC} (h : EndC S live c) {n : Int} (h0 : 0 ≤ n) (h1 : n < S) : liveS live n = true := by
  have := h.s20
  rw [liveS_iff, h.live]
  refine ⟨h0, by omega, ?_⟩
  rw [List.getElem?_replicate, if_pos (by omega)]
theorem live_only {S : Nat} {live : List Bool} {c : PC} (h : EndC S live c) {n : Int} (hn : liveS live n = true) : 0 ≤ n ∧ n < S := by
  have := liveS_lt hn
  rw [h.live, List.length_replicate] at this
  omega
theorem numS_len (k : Nat) : (numS k).length = k := by simp [numS]
theorem numS_nodup (k : Nat) : (numS k).Nodup := (numS_lt k).imp (by intro a b h; omega)
theorem freeS_len (l : List PV) (live : List Bool) (ns : List Int) : (freeS l live ns).length = (candS live ns).length := (freeS_perm l live ns).length_eq
theorem free_many {S : Nat} {live : List Bool} {c : PC} (h : EndC S live c) (l : List PV) (ns : List Int) : S ≤ (freeS l live ns).length + ns.length := by
  have h1 : numS S ⊆ freeS l live ns ++ ns := by
    intro n hn
    have hr := numS_mem.1 hn
    rw [List.mem_append]
    by_cases hm : n ∈ ns
    · exact Or.inr hm
    · exact Or.inl (freeS_mem.2 (candS_mem.2 ⟨live_all h hr.1 hr.2, hm⟩))
  have := (numS_nodup S).length_le_of_subset h1
  rw [numS_len, List.length_append] at this
  exact this
theorem free_few {S : Nat} {live : List Bool} {c : PC} (h : EndC S live c) (l : List PV) (ns : List Int) : (freeS l live ns).length ≤ S := by
  have h1 : freeS l live ns ⊆ numS S := by
    intro n hn
    have := live_only h (freeS_live hn).1
    exact numS_mem.2 (by omega)
  have := (freeS_nodup l live ns).length_le_of_subset h1
  rwa [numS_len] at this
theorem living_all {S : Nat} {live : List Bool} {c : PC} (h : EndC S live c) {v : PV} (hv : EndV S c v) : livingS live v.ns = v.ns :=
  List.filter_eq_self.2 fun n hn => live_all h (hv.rng n hn).1 (hv.rng n hn).2
theorem EndC.ok {S : Nat} {live : List Bool} {c : PC} (h : EndC S live c) : okC c := by
  obtain ⟨_, _, _, _, _, _, _, _, _, _⟩ := h
  unfold okC; omega

theorem lack_none {S : Nat} {live : List Bool} {c : PC} (h : EndC S live c) {l : List PV} {v : PV} (hv : EndV S c v) (hn : lackS l live c v = none) : need1 c v = false := by
  unfold lackS at hn
  split at hn
  · rename_i hc
    rw [living_all h hv] at hc
    unfold need1
    rw [decide_eq_false_iff_not]
    rintro ⟨h1, h2⟩
    rcases hc with hc | hc | ⟨hz, hc⟩
    · omega
    · exact hv.ne hc
    · rcases h2 with h2 | h2
      · rw [hz] at h2; cases h2
      · rcases hc with hc | hc
        · omega
        · have := free_many h l v.ns
          rw [hc, List.length_nil] at this
          have := h.cpS
          omega
  · cases hn
theorem broke_none {S : Nat} {live : List Bool} {c : PC} (h : EndC S live c) {l : List PV} {v : PV} (hv : EndV S c v) : brokeS l live c v = none := by
  unfold brokeS
  rw [living_all h hv]
  split
  · rfl
  · rename_i hc
    refine absurd ?_ hc
    rcases hv.st with ⟨h1, _⟩ | ⟨_, h2, _⟩
    · refine Or.inl (by omega)
    · exact Or.inr (Or.inr ⟨h2, Or.inl rfl⟩)
theorem full_none {S : Nat} {live : List Bool} {sizes : List Int} {c : PC} (h : EndC S live c) {i : Nat} {v : PV} (hv : EndV S c v) (hn : fullS live sizes c i v = none) : need3 sizes c i v = false := by
  unfold fullS at hn
  split at hn
  · rename_i hc
    unfold need3
    rw [decide_eq_false_iff_not]
    rintro ⟨h1, h2, h3⟩
    rcases hc with hc | hc | hc | hc
    · exact hc h1
    · rw [h2] at hc; cases hc
    · exact hc (by unfold wholeS; rw [living_all h hv])
    · omega
  · cases hn
theorem strip_none {S : Nat} {live : List Bool} {c : PC} (h : EndC S live c) {l : List PV} {v : PV} (hv : EndV S c v) (hn : stripS l live c v = none) : need4 S c v = false := by
  unfold stripS at hn
  split at hn
  · rename_i hc
    unfold need4
    rw [decide_eq_false_iff_not]
    rintro ⟨h1, h2, h3⟩
    rcases hc with hc | hc | hc | hc
    · exact hc h1
    · rw [h2] at hc; cases hc
    · exact hc (by unfold wholeS; rw [living_all h hv])
    · have := free_many h l []
      rw [List.length_nil] at this
      omega
  · cases hn
theorem at_none {r : Nat → PV → Option PA} {l : List PV} (h : firstS r l = none) {k : Nat} (hk : k < l.length) (h0 : l[k].ns ≠ []) : r k l[k] = none := by
  unfold firstS at h
  rw [List.findSome?_eq_none_iff] at h
  have hz : (l[k], k) ∈ l.zipIdx := by
    have hk' : k < l.zipIdx.length := by simpa using hk
    have e : l.zipIdx[k] = (l[k], k) := by simp
    rw [← e]; exact List.getElem_mem hk'
  have := h _ hz
  unfold atRuleS at this
  rw [if_neg h0] at this
  simpa using this

theorem sum_set (f : PV → Nat) : ∀ (l : List PV) (k : Nat) (hk : k < l.length) (v : PV), ((l.set k v).map f).sum + f l[k] = (l.map f).sum + f v
  | [], k, hk, v => by simp at hk
  | x :: l, 0, hk, v => by simp; omega
  | x :: l, k + 1, hk, v => by
    have := sum_set f l k (by simpa using hk) v
    simp only [List.set_cons_succ, List.map_cons, List.sum_cons, List.getElem_cons_succ]
    omega
theorem sum_le (f : PV → Nat) (b : Nat) : ∀ l : List PV, (∀ v ∈ l, f v ≤ b) → (l.map f).sum ≤ l.length * b
  | [], _ => by simp
  | x :: l, h => by
    have h1 := sum_le f b l fun v hv => h v (List.mem_cons_of_mem _ hv)
    have h2 := h x (List.mem_cons_self ..)
    simp only [List.map_cons, List.sum_cons, List.length_cons, Nat.add_mul]
    omega
theorem debt_le (c : PC) (v : PV) : debtS c v ≤ 3 := by
  unfold debtS
  repeat' split
  all_goals omega
theorem debts_le {S : Nat} {c : PC} {l : List PV} (h : EndI S c l) : debtsS c l ≤ 36 := by
  have := sum_le (debtS c) 3 l fun v _ => debt_le c v
  have := h.len
  unfold debtsS
  omega
theorem mapI_add (f g : Int → Nat) : ∀ xs : List Int, (xs.map fun s => f s + g s).sum = (xs.map f).sum + (xs.map g).sum
  | [] => rfl
  | x :: xs => by simp only [List.map_cons, List.sum_cons, mapI_add f g xs]; omega
theorem mapI_le (f g : Int → Nat) : ∀ xs : List Int, (∀ s ∈ xs, f s ≤ g s) → (xs.map f).sum ≤ (xs.map g).sum
  | [], _ => Nat.le_refl _
  | x :: xs, h => by
    have h1 := mapI_le f g xs fun s hs => h s (List.mem_cons_of_mem _ hs)
    have h2 := h x (List.mem_cons_self ..)
    simp only [List.map_cons, List.sum_cons]; omega
theorem mapI_mul (f : Int → Nat) (k : Nat) : ∀ xs : List Int, (xs.map fun s => k * f s).sum = k * (xs.map f).sum
  | [] => by simp
  | x :: xs => by simp only [List.map_cons, List.sum_cons, mapI_mul f k xs, Nat.mul_add]
theorem zero_sum : ∀ xs : List Int, (xs.map fun _ => 0).sum = 0
  | [] => rfl
  | x :: xs => by simp only [List.map_cons, List.sum_cons, zero_sum xs]
theorem one_le (n : Int) : ∀ xs : List Int, xs.Nodup → (xs.map fun s => if n == s then 1 else 0).sum ≤ 1
  | [], _ => by simp
  | x :: xs, h => by
    rw [List.nodup_cons] at h
    have h1 := one_le n xs h.2
    simp only [List.map_cons, List.sum_cons]
    by_cases e : n = x
    · subst e
      have h0 : (xs.map fun s => if n == s then 1 else 0).sum ≤ (xs.map fun _ => 0).sum := mapI_le _ _ xs fun s hs => by
        by_cases e : n = s
        · subst e; exact absurd hs h.1
        · simp [e]
      have hz := zero_sum xs
      simp only [beq_self_eq_true, if_true]
      omega
    · have e' : (n == x) = false := by simpa using e
      rw [e']
      simp only [Bool.false_eq_true, if_false]
      omega
theorem counts_le (xs : List Int) (hx : xs.Nodup) : ∀ ns : List Int, (xs.map fun s => ns.count s).sum ≤ ns.length
  | [] => by
    have h : (xs.map fun s => ([] : List Int).count s).sum = (xs.map fun _ => 0).sum := by congr 1
    rw [h, zero_sum]; exact Nat.zero_le _
  | n :: ns => by
    have h1 := counts_le xs hx ns
    have h2 := one_le n xs hx
    simp only [List.count_cons, List.length_cons]
    rw [mapI_add]
    omega
theorem loadS_cons (v : PV) (l : List PV) (s : Int) : loadS (v :: l) s = v.ns.count s + loadS l s := by simp [loadS]
theorem loads_sum (xs : List Int) (hx : xs.Nodup) : ∀ l : List PV, (xs.map (loadS l)).sum ≤ (l.map fun v => v.ns.length).sum
  | [] => by
    have h : (xs.map (loadS [])).sum = (xs.map fun _ => 0).sum := by congr 1
    rw [h, zero_sum]; exact Nat.zero_le _
  | v :: l => by
    have h1 := loads_sum xs hx l
    have h2 := counts_le xs hx v.ns
    have e : (xs.map (loadS (v :: l))).sum = (xs.map fun s => v.ns.count s + loadS l s).sum := congrArg List.sum (List.map_congr_left fun s _ => loadS_cons v l s)
    rw [e, mapI_add]
    simp only [List.map_cons, List.sum_cons]
    omega
theorem load_le {l : List PV} (h : ∀ v ∈ l, v.ns.Nodup) (s : Int) : loadS l s ≤ l.length := by
  have := sum_le (fun v => v.ns.count s) 1 l fun v hv => List.nodup_iff_count.1 (h v hv) s
  unfold loadS
  omega
theorem sq_le {S : Nat} {live : List Bool} {c : PC} (h : EndC S live c) {l : List PV} (hI : EndI S c l) : sqS l ≤ 2016 := by
  have h1 : sqS l ≤ ((numS 64).map fun s => 12 * loadS l s).sum := by
    refine mapI_le _ _ _ fun s _ => ?_
    have := load_le (fun v hv => (hI.each v hv).nd) s
    have := hI.len
    exact Nat.mul_le_mul_right _ (by omega)
  rw [mapI_mul] at h1
  have h2 := loads_sum (numS 64) (numS_nodup 64) l
  have h3 := sum_le (fun v => v.ns.length) 14 l fun v hv => by
    have := h.cp5; have := h.k10; have := h.m4
    rcases (hI.each v hv).st with ⟨_, h4⟩ | ⟨_, _, h4⟩ <;> omega
  have h4 := hI.len
  have h5 : ((numS 64).map (loadS l)).sum ≤ 168 := by omega
  omega

theorem two_points {F G : Int → Nat} {xs : List Int} {x y : Int} (hx : xs.Nodup) (h1 : x ∈ xs) (h2 : y ∈ xs) (hxy : x ≠ y) (h : ∀ s, s ≠ x → s ≠ y → G s = F s) :
    (xs.map G).sum + F x + F y = (xs.map F).sum + G x + G y := by
  have hy : y ∈ xs.erase x := (hx.mem_erase_iff).2 ⟨fun e => hxy e.symm, h2⟩
  have hp : xs.Perm (x :: y :: (xs.erase x).erase y) := (List.perm_cons_erase h1).trans ((List.perm_cons_erase hy).cons x)
  have e : ((xs.erase x).erase y).map G = ((xs.erase x).erase y).map F := by
    refine List.map_congr_left fun s hs => ?_
    have hs1 := ((hx.erase x).mem_erase_iff).1 hs
    have hs2 := (hx.mem_erase_iff).1 hs1.2
    exact h s hs2.1 hs1.1
  have hF := (hp.map F).sum_nat
  have hG := (hp.map G).sum_nat
  simp only [List.map_cons, List.sum_cons] at hF hG
  rw [e] at hG
  omega
theorem most_lt (ld : Int → Nat) (ns : List Int) : ∀ k, 0 < k → mostS ld ns k < k
  | 0, h => by omega
  | 1, _ => by simp [mostS]
  | k + 2, _ => by
    have := most_lt ld ns (k + 1) (by omega)
    unfold mostS
    split <;> omega
theorem load_set (l : List PV) (k : Nat) (hk : k < l.length) (v : PV) (s : Int) : loadS (l.set k v) s + l[k].ns.count s = loadS l s + v.ns.count s :=
  sum_set (fun v => v.ns.count s) l k hk v

theorem EndI.set {S : Nat} {c : PC} {l : List PV} (hI : EndI S c l) {k : Nat} (hk : k < l.length) {v : PV} (hid : v.id = l[k].id) (hv : EndV S c v) : EndI S c (l.set k v) := by
  refine ⟨by simpa using hI.len, fun i hi => ?_, fun u hu => ?_⟩
  · rw [List.getElem_set]
    split
    · rename_i e; subst e; rw [hid]; exact hI.ids _ hk
    · exact hI.ids i (by simpa using hi)
  · rcases List.mem_or_eq_of_mem_set hu with hu | rfl
    · exact hI.each u hu
    · exact hv
theorem left_debt {S : Nat} {live : List Bool} {sizes : List Int} {c : PC} (h : EndC S live c) {l : List PV} {k : Nat} (hk : k < l.length) {v : PV} (hI : EndI S c (l.set k v)) (hb : busyS S sizes c k l[k] = true) (hd : debtS c v < debtS c l[k]) :
    leftS S sizes c (l.set k v) < leftS S sizes c l := by
  have hq : ¬ quietS S sizes c l := fun hq => by
    have := hq ⟨k, hk⟩
    (try dsimp only [Fin.getElem_fin] at this)
    rw [hb] at this; cases this
  have e : leftS S sizes c l = debtsS c l + 1008 := by unfold leftS; rw [if_neg hq]
  rw [e]
  have hd' : debtsS c (l.set k v) + debtS c l[k] = debtsS c l + debtS c v := by
    unfold debtsS
    exact sum_set (debtS c) l k hk v
  have hsq := sq_le h hI
  have hn : leftS S sizes c (l.set k v) = sqS (l.set k v) / 2 ∨ leftS S sizes c (l.set k v) = debtsS c (l.set k v) + 1008 := by
    unfold leftS
    split
    · exact Or.inl rfl
    · exact Or.inr rfl
  generalize leftS S sizes c (l.set k v) = A at hn ⊢
  generalize sqS (l.set k v) = B at hsq hn
  generalize debtsS c (l.set k v) = C at hd' hn
  generalize debtS c l[k] = D at hd hd'
  generalize debtS c v = E at hd hd'
  omega
theorem mem_take_len {α : Type} {l : List α} {n : Nat} (h : n ≤ l.length) : (l.take n).length = n := by rw [List.length_take]; omega

/-- each step leads on, and comes nearer -/
theorem next_step {S : Nat} {live : List Bool} {sizes : List Int} {c : PC} (h : EndC S live c) {l : List PV} (hI : EndI S c l) {a : PA} (ha : nextS l live sizes c = some a) :
    ∃ (k : Nat) (hk : k < l.length), a.vol = (k : Int) + 1 ∧ EndI S c (l.set k (putS l[k] a)) ∧ leftS S sizes c (l.set k (putS l[k] a)) < leftS S sizes c l := by
  have hcS := h.cpS
  unfold nextS at ha
  rw [if_pos h.ok] at ha
  simp only [rulesS, List.findSome?_cons, List.findSome?_nil] at ha
  cases h1 : firstS (fun _ v => lackS l live c v) l with
  | some a1 =>
    rw [h1] at ha
    cases ha
    obtain ⟨k, hk, hat⟩ := firstS_at h1
    obtain ⟨h0, b, hb, rfl⟩ := atRuleS_some hat
    have hv := hI.each l[k] (List.getElem_mem hk)
    unfold lackS at hb
    rw [living_all h hv] at hb
    split at hb
    · cases hb
    · rename_i hc
      cases hb
      have hst : l[k].st = 0 ∨ l[k].st = 1 := by
        refine Classical.byContradiction fun e => hc (Or.inl (by omega))
      have hlen : (l[k].ns.length : Int) ≤ c.cp := by
        rcases hv.st with ⟨_, h2⟩ | ⟨h2, _⟩
        · exact h2
        · omega
      have hn : l[k].fz = true ∨ (l[k].ns.length : Int) < c.cp := by
        by_cases hz : l[k].fz = true
        · exact Or.inl hz
        · refine Or.inr (Int.lt_of_not_ge fun e => hc (Or.inr (Or.inr ⟨by simpa using hz, Or.inl e⟩)))
      have hmany := free_many h l l[k].ns
      have htl : ((freeS l live l[k].ns).take (c.cp - l[k].ns.length).toNat).length = (c.cp - l[k].ns.length).toNat := mem_take_len (by omega)
      have hid := hI.ids k hk
      have hV : EndV S c (putS l[k] ⟨1, l[k].id, l[k].st, l[k].ns, l[k].ns ++ (freeS l live l[k].ns).take (c.cp - l[k].ns.length).toNat⟩) := by
        refine ⟨?_, ?_, ?_, Or.inl ⟨hst, ?_⟩⟩
        · simp [putS, h0]
        · show (l[k].ns ++ _).Nodup
          rw [List.nodup_append]
          refine ⟨hv.nd, (freeS_nodup l live l[k].ns).sublist (List.take_sublist _ _), ?_⟩
          rintro x hx y hy rfl
          exact (freeS_live (List.mem_of_mem_take hy)).2 hx
        · intro n hn
          rcases List.mem_append.1 hn with hn | hn
          · exact hv.rng n hn
          · exact live_only h (freeS_live (List.mem_of_mem_take hn)).1
        · show ((l[k].ns ++ _).length : Int) ≤ c.cp
          rw [List.length_append, htl]; omega
      have hI' := hI.set hk (v := putS l[k] ⟨1, l[k].id, l[k].st, l[k].ns, l[k].ns ++ (freeS l live l[k].ns).take (c.cp - l[k].ns.length).toNat⟩) rfl hV
      refine ⟨k, hk, hid, hI', left_debt h hk hI' ?_ ?_⟩
      · unfold busyS need1
        rw [decide_eq_true ⟨hst, hn⟩]; rfl
      · have e1 : ¬ (((l[k].ns ++ (freeS l live l[k].ns).take (c.cp - l[k].ns.length).toNat).length : Int) < c.cp) := by
          rw [List.length_append, htl]; omega
        unfold debtS putS
        dsimp only
        have e2 : ¬ (false = true ∨ ((l[k].ns ++ (freeS l live l[k].ns).take (c.cp - l[k].ns.length).toNat).length : Int) < c.cp) := by
          rintro (e | e)
          · cases e
          · exact e1 e
        simp only [if_pos (show l[k].st ≤ 1 by omega), if_pos hn, if_neg e2]
        omega
  | none =>
    rw [h1] at ha
    (try dsimp only at ha)
    cases h2 : firstS (fun _ v => brokeS l live c v) l with
    | some a2 =>
      obtain ⟨k, hk, hat⟩ := firstS_at h2
      obtain ⟨h0, b, hb, rfl⟩ := atRuleS_some hat
      have hv := hI.each l[k] (List.getElem_mem hk)
      (try dsimp only at hb)
      rw [broke_none h hv] at hb; cases hb
    | none =>
      rw [h2] at ha
      (try dsimp only at ha)
      cases h3 : firstS (fun i v => fullS live sizes c i v) l with
      | some a3 =>
        rw [h3] at ha
        cases ha
        obtain ⟨k, hk, hat⟩ := firstS_at h3
        obtain ⟨h0, b, hb, rfl⟩ := atRuleS_some hat
        have hv := hI.each l[k] (List.getElem_mem hk)
        unfold fullS at hb
        split at hb
        · cases hb
        · rename_i hc
          cases hb
          have hst : l[k].st = 0 := Classical.byContradiction fun e => hc (Or.inl e)
          have hz : l[k].fz = false := by
            cases e : l[k].fz
            · rfl
            · exact absurd (Or.inr (Or.inl e)) hc
          have hsz : c.lim ≤ sizeS sizes k := Int.le_of_not_gt fun e => hc (Or.inr (Or.inr (Or.inr e)))
          have hlen : (l[k].ns.length : Int) ≤ c.cp := by
            rcases hv.st with ⟨_, h2⟩ | ⟨h2, _⟩
            · exact h2
            · omega
          have hI' := hI.set hk (v := putS l[k] ⟨4, l[k].id, 1, l[k].ns, l[k].ns⟩) rfl ⟨hv.ne, hv.nd, hv.rng, Or.inl ⟨Or.inr rfl, hlen⟩⟩
          refine ⟨k, hk, hI.ids k hk, hI', left_debt h hk hI' ?_ ?_⟩
          · unfold busyS need3
            rw [decide_eq_true ⟨hst, hz, hsz⟩]; simp
          · unfold debtS putS
            dsimp only
            rw [hst, hz]
            simp
      | none =>
        rw [h3] at ha
        (try dsimp only at ha)
        cases h4 : firstS (fun _ v => stripS l live c v) l with
        | some a4 =>
          rw [h4] at ha
          cases ha
          obtain ⟨k, hk, hat⟩ := firstS_at h4
          obtain ⟨h0, b, hb, rfl⟩ := atRuleS_some hat
          have hv := hI.each l[k] (List.getElem_mem hk)
          unfold stripS at hb
          split at hb
          · cases hb
          · rename_i hc
            cases hb
            have hst : l[k].st = 1 := Classical.byContradiction fun e => hc (Or.inl e)
            have hz : l[k].fz = false := by
              cases e : l[k].fz
              · rfl
              · exact absurd (Or.inr (Or.inl e)) hc
            have hf : c.k + c.m ≤ (freeS l live []).length := Int.le_of_not_gt fun e => hc (Or.inr (Or.inr (Or.inr e)))
            have hk0 := h.k0
            have hm0 := h.m0
            have hfew := free_few h l []
            have htl : ((freeS l live []).take (c.k + c.m).toNat).length = (c.k + c.m).toNat := mem_take_len (by omega)
            have hI' := hI.set hk (v := putS l[k] ⟨2, l[k].id, 2, l[k].ns, (freeS l live []).take (c.k + c.m).toNat⟩) rfl (by
              refine ⟨fun e => ?_, (freeS_nodup l live []).sublist (List.take_sublist _ _), fun n hn => live_only h (freeS_live (List.mem_of_mem_take hn)).1, Or.inr ⟨rfl, rfl, ?_⟩⟩
              · have := congrArg List.length e
                simp only [putS] at this
                rw [htl, List.length_nil] at this
                omega
              · simp only [putS]; rw [htl]; omega)
            refine ⟨k, hk, hI.ids k hk, hI', left_debt h hk hI' ?_ ?_⟩
            · unfold busyS need4
              rw [decide_eq_true ⟨hst, hz, (by omega : c.k + c.m ≤ (S : Int))⟩]; simp
            · unfold debtS putS
              dsimp only
              rw [hst]
              simp
        | none =>
          rw [h4] at ha
          (try dsimp only at ha)
          cases h5 : firstS (fun _ v => unevenS l live v) l with
          | none => rw [h5] at ha; cases ha
          | some a5 =>
            rw [h5] at ha
            cases ha
            have hq : quietS S sizes c l := by
              rintro ⟨i, hi⟩
              have hv := hI.each l[i] (List.getElem_mem hi)
              (try dsimp only [Fin.getElem_fin])
              unfold busyS
              rw [lack_none h hv (at_none h1 hi hv.ne), full_none h hv (at_none h3 hi hv.ne), strip_none h hv (at_none h4 hi hv.ne)]; rfl
            obtain ⟨k, hk, hat⟩ := firstS_at h5
            obtain ⟨h0, b, hb, rfl⟩ := atRuleS_some hat
            have hv := hI.each l[k] (List.getElem_mem hk)
            obtain ⟨f, t, hf, hst, hz, hw, hl, rfl⟩ := unevenS_some hb
            have hff : f ∈ freeS l live l[k].ns := by rw [hf]; exact List.mem_cons_self ..
            have hfl := freeS_live hff
            have hfr := live_only h hfl.1
            have hlen : (l[k].ns.length : Int) ≤ c.cp := by
              rcases hv.st with ⟨_, h2⟩ | ⟨h2, _⟩
              · exact h2
              · omega
            have hm : mostS (loadS l) l[k].ns l[k].ns.length < l[k].ns.length := most_lt _ _ _ (List.length_pos_iff.2 h0)
            generalize mostS (loadS l) l[k].ns l[k].ns.length = m at hm hl ⊢
            have hI' := hI.set hk (v := putS l[k] ⟨5, l[k].id, l[k].st, l[k].ns, l[k].ns.set m f⟩) rfl (by
              refine ⟨fun e => ?_, set_nodup hv.nd hfl.2 _, fun n hn => ?_, Or.inl ⟨hst, by simpa [putS] using hlen⟩⟩
              · have := congrArg List.length e
                simp only [putS, List.length_set, List.length_nil] at this
                omega
              · rcases List.mem_or_eq_of_mem_set hn with hn | rfl
                · exact hv.rng n hn
                · exact hfr)
            refine ⟨k, hk, hI.ids k hk, hI', ?_⟩
            have hq' : quietS S sizes c (l.set k (putS l[k] ⟨5, l[k].id, l[k].st, l[k].ns, l[k].ns.set m f⟩)) := by
              rintro ⟨i, hi⟩
              (try dsimp only [Fin.getElem_fin])
              rw [List.getElem_set]
              split
              · rename_i e
                subst e
                have := hq ⟨k, hk⟩
                (try dsimp only [Fin.getElem_fin] at this)
                unfold busyS need1 need3 need4 at this ⊢
                simp only [putS, List.length_set, hz] at this ⊢
                exact this
              · exact hq ⟨i, by simpa using hi⟩
            unfold leftS
            rw [if_pos hq, if_pos hq']
            have hx : l[k].ns[m] ∈ l[k].ns := List.getElem_mem hm
            have hxr := hv.rng _ hx
            have hs20 := h.s20
            have hne : l[k].ns[m] ≠ f := fun e => hfl.2 (e ▸ hx)
            rw [List.getElem?_eq_getElem hm, Option.getD_some] at hl
            have hc1 : ∀ s, loadS (l.set k (putS l[k] ⟨5, l[k].id, l[k].st, l[k].ns, l[k].ns.set m f⟩)) s + l[k].ns.count s = loadS l s + (l[k].ns.set m f).count s := fun s => load_set l k hk _ s
            have hcx : l[k].ns.count l[k].ns[m] = 1 := by rw [hv.nd.count, if_pos hx]
            have hcf : l[k].ns.count f = 0 := List.count_eq_zero.2 hfl.2
            have ex := hc1 l[k].ns[m]
            have ef := hc1 f
            rw [List.count_set hm] at ex ef
            have b1 : (l[k].ns[m] == f) = false := by simpa using hne
            have b2 : (f == l[k].ns[m]) = false := by simpa using fun e => hne e.symm
            rw [hcx, b2] at ex
            rw [hcf, b1] at ef
            simp only [beq_self_eq_true, if_true, Bool.false_eq_true, if_false] at ex ef
            have ho : ∀ s, s ≠ l[k].ns[m] → s ≠ f → loadS (l.set k (putS l[k] ⟨5, l[k].id, l[k].st, l[k].ns, l[k].ns.set m f⟩)) s = loadS l s := by
              intro s h1 h2
              have := hc1 s
              rw [List.count_set hm] at this
              have b1 : (l[k].ns[m] == s) = false := by simpa using fun e => h1 e.symm
              have b2 : (f == s) = false := by simpa using fun e => h2 e.symm
              rw [b1, b2] at this
              simp only [Bool.false_eq_true, if_false] at this
              omega
            generalize l.set k (putS l[k] ⟨5, l[k].id, l[k].st, l[k].ns, l[k].ns.set m f⟩) = l' at *
            have htp := two_points (F := fun s => loadS l s * loadS l s) (G := fun s => loadS l' s * loadS l' s) (numS_nodup 64) (numS_mem.2 (by omega) : l[k].ns[m] ∈ numS 64) (numS_mem.2 (by omega) : f ∈ numS 64) hne (fun s h1 h2 => by rw [ho s h1 h2])
            (try dsimp only at htp)
            have e1 : loadS l' l[k].ns[m] = loadS l l[k].ns[m] - 1 := by omega
            have e2 : loadS l' f = loadS l f + 1 := by omega
            rw [e1, e2] at htp
            have hsq : sqS l' + 2 ≤ sqS l := by
              unfold sqS
              generalize (List.map (fun s => loadS l' s * loadS l' s) (numS 64)).sum = A at htp ⊢
              generalize (List.map (fun s => loadS l s * loadS l s) (numS 64)).sum = B at htp ⊢
              obtain ⟨p, hp⟩ : ∃ p, loadS l l[k].ns[m] = loadS l f + 2 + p := ⟨_, (Nat.add_sub_cancel' hl).symm⟩
              rw [hp] at htp
              generalize loadS l f = q at htp
              have e3 : q + 2 + p - 1 = q + 1 + p := by omega
              rw [e3] at htp
              have i1 : (q + 2 + p) * (q + 2 + p) = (q + 1 + p) * (q + 1 + p) + (2 * q + 2 * p + 3) := by
                have : (q + 2 + p) = (q + 1 + p) + 1 := by omega
                rw [this, Nat.add_mul, Nat.mul_add]; omega
              have i2 : (q + 1) * (q + 1) = q * q + (2 * q + 1) := by
                rw [Nat.add_mul, Nat.mul_add]; omega
              omega
            omega

/-- behind the last step each volume has its copies, or all its shards -/
theorem next_end {S : Nat} {live : List Bool} {sizes : List Int} {c : PC} (h : EndC S live c) {l : List PV} (hI : EndI S c l) (ha : nextS l live sizes c = none) :
    ∀ v ∈ l, v.fz = false ∧ (v.st ≠ 2 → c.cp ≤ v.ns.length) ∧ (v.st = 2 → (v.ns.length : Int) = c.k + c.m) := by
  unfold nextS at ha
  rw [if_pos h.ok, List.findSome?_eq_none_iff] at ha
  have h1 := ha (fun _ v => lackS l live c v) (List.mem_cons_self ..)
  intro v hm
  obtain ⟨k, hk, rfl⟩ := List.getElem_of_mem hm
  have hv := hI.each l[k] hm
  have hn := lack_none h hv (at_none h1 hk hv.ne)
  unfold need1 at hn
  rw [decide_eq_false_iff_not] at hn
  rcases hv.st with ⟨h2, h3⟩ | ⟨h2, h3, h4⟩
  · refine ⟨?_, fun _ => ?_, fun e => by omega⟩
    · cases e : l[k].fz
      · rfl
      · exact absurd ⟨h2, Or.inl e⟩ hn
    · exact Int.le_of_not_gt fun e => hn ⟨h2, Or.inr e⟩
  · exact ⟨h3, fun e => absurd h2 e, fun _ => h4⟩
theorem left_le {S : Nat} {live : List Bool} {sizes : List Int} {c : PC} (h : EndC S live c) {l : List PV} (hI : EndI S c l) : leftS S sizes c l ≤ 1044 := by
  have h1 := sq_le h hI
  have h2 := debts_le hI
  unfold leftS
  split <;> omega
end Go.Proofs.Ythifnfoppamkiaa
