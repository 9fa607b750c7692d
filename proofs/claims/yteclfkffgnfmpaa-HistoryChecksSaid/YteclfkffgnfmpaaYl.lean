/- The two readings of a history agree. Nothing is claimed here. -/
import Derived.Test.YteclfkffgnfmpaaYi
namespace Go.Proofs.Yteclfkffgnfmpaa
set_option linter.unusedVariables false

def bad1 (c : Cl) : Prop := c.kind = 1 ∧ c.fin = true ∧ c.err ≠ 0
instance (c : Cl) : Decidable (bad1 c) := by unfold bad1; infer_instance
def nm (c : Cl) : Cl := if bad1 c then { c with fid := ⟨0, 0, 0⟩ } else c
theorem nm_kind (c : Cl) : (nm c).kind = c.kind := by unfold nm; split <;> rfl
theorem nm_fin (c : Cl) : (nm c).fin = c.fin := by unfold nm; split <;> rfl
theorem nm_err (c : Cl) : (nm c).err = c.err := by unfold nm; split <;> rfl
theorem nm_sure (c : Cl) : (nm c).sure = c.sure := by unfold Cl.sure; rw [nm_fin, nm_err]
theorem nm_counts (c : Cl) : (nm c).counts = c.counts := by unfold Cl.counts; rw [nm_kind, nm_sure, nm_err]
theorem nm_asg (c : Cl) : (nm c).asg = c.asg := by unfold Cl.asg; rw [nm_kind, nm_sure, nm_err]
theorem nm_self {c : Cl} (h : c.kind ≠ 1 ∨ c.fin = false ∨ c.err = 0) : nm c = c := by
  unfold nm
  rw [if_neg]
  intro ⟨h1, h2, h3⟩
  rcases h with h | h | h
  · exact h h1
  · rw [h] at h2; cases h2
  · exact h3 h
theorem nm_of_counts {c : Cl} (h : c.counts = true) : nm c = c := nm_self (.inl fun h1 => by simp [Cl.counts, h1] at h)
theorem nm_of_asg {c : Cl} (h : c.asg = true) : nm c = c := by
  simp only [Cl.asg, Bool.and_eq_true, decide_eq_true_eq] at h
  exact nm_self (.inr (.inr h.2))
theorem filter_nm (p q : Cl → Bool) (h1 : ∀ c, q (nm c) = p c) (h2 : ∀ c, p c = true → nm c = c) : ∀ l : List Cl, (l.map nm).filter q = l.filter p
  | [] => rfl
  | c :: l => by
    rw [List.map_cons, List.filter_cons, List.filter_cons, h1, filter_nm p q h1 h2 l]
    split
    · rename_i h; rw [h2 c h]
    · rfl
theorem any_nm (p : Cl → Bool) (h : ∀ c, p (nm c) = p c) (l : List Cl) : (l.map nm).any p = l.any p := by
  rw [List.any_map]
  exact List.any_congr rfl fun c => h c
theorem written_nm (l : List Cl) (k : Int × Nat) : written (l.map nm) k = written l k := any_nm _ (fun c => by
  simp only [Cl.wr, nm_counts, nm_kind]
  cases hc : c.counts
  · simp
  · rw [nm_of_counts hc]) l
theorem given_nm (l : List Cl) (k : Int × Nat) : given (l.map nm) k = given l k := any_nm _ (fun c => by
  rw [nm_asg]
  cases hc : c.asg
  · simp
  · rw [nm_of_asg hc]) l
theorem rowS_nm (cs : List Cl) (k : Int × Nat) : rowS (cs.map nm) (cs.map nm) k = rowS cs cs k := by
  unfold rowS
  refine filter_nm _ _ (fun c => ?_) (fun c hc => ?_) cs
  · simp only [Cl.keep, nm_counts, nm_kind, nm_err, written_nm]
    cases hc : c.counts
    · simp
    · rw [nm_of_counts hc]
  · simp only [Cl.keep, Bool.and_eq_true] at hc
    exact nm_of_counts hc.2.1
theorem twice_nm : ∀ l : List Cl, twiceS (l.map nm) = twiceS l
  | [] => rfl
  | c :: l => by
    rw [List.map_cons]
    simp only [twiceS, twice_nm l, nm_asg]
    cases hc : c.asg
    · simp
    · rw [nm_of_asg hc, given_nm]
theorem row_has {cs : List Cl} {k : Int × Nat} (h : rowS cs cs k ≠ []) : ∃ c ∈ cs, c.counts = true ∧ c.key = k := by
  obtain ⟨d, hd⟩ := List.exists_mem_of_ne_nil _ h
  have h1 := rowS_key hd
  have h2 := (List.mem_filter.1 hd).2
  simp only [Cl.keep, Bool.and_eq_true] at h2
  exact ⟨d, h1.2, h2.2.1, h1.1⟩
theorem long_all (cs : List Cl) : longS cs = true ↔ ∃ k, 16 < (rowS cs cs k).length := by
  simp only [longS, List.any_eq_true, decide_eq_true_eq]
  refine ⟨fun ⟨c, _, h⟩ => ⟨_, h⟩, fun ⟨k, h⟩ => ?_⟩
  obtain ⟨c, hc, _, hk⟩ := row_has (cs := cs) (k := k) (fun he => by rw [he] at h; simp at h)
  exact ⟨c, hc, by rw [hk]; exact h⟩
theorem order_all (cs : List Cl) : orderS cs = true ↔ ∀ k, reachRow (rowS cs cs k) = true := by
  simp only [orderS, List.all_eq_true]
  refine ⟨fun h k => ?_, fun h c _ => h _⟩
  by_cases hne : rowS cs cs k = []
  · rw [hne]; exact reachRow_nil
  · obtain ⟨c, hc, _, hk⟩ := row_has hne
    rw [← hk]; exact h c hc
theorem checkC_nm (cs : List Cl) : checkC (cs.map nm) = checkC cs := by
  have h1 : longS (cs.map nm) = longS cs := by
    rw [Bool.eq_iff_iff, long_all, long_all]
    exact exists_congr fun k => by rw [rowS_nm]
  have h2 : orderS (cs.map nm) = orderS cs := by
    rw [Bool.eq_iff_iff, order_all, order_all]
    exact forall_congr' fun k => by rw [rowS_nm]
  have h3 : twiceS (cs.map nm).reverse = twiceS cs.reverse := by rw [← List.map_reverse, twice_nm]
  unfold checkC
  rw [h1, h2, h3]
def nmP (p : Int × Cl) : Int × Cl := (p.1, nm p.2)
theorem idx_nm (l : List (Int × Cl)) (c : Int) : idx (l.map nmP) c = idx l c := by
  simp only [idx, List.findIdx?_map]
  rfl
theorem finish_nm (i : Nat) (e : Ev) (c : Cl) : nm (finish true i e c) = nm (finish false i e c) := by
  by_cases hk : c.kind = 1
  · by_cases he : e.err = 0
    · simp [finish, hk, he]
    · unfold nm
      rw [if_pos ⟨hk, rfl, he⟩, if_pos ⟨hk, rfl, he⟩]
      simp [finish]
  · simp [finish, hk]
theorem step_nm (n i : Nat) (e : Ev) (a b : List (Int × Cl)) (h : a.map nmP = b.map nmP) : (stepE true n i e a).map (List.map nmP) = (stepE false n i e b).map (List.map nmP) := by
  unfold stepE
  split
  · rfl
  · have hi : idx a e.call = idx b e.call := by rw [← idx_nm a, ← idx_nm b, h]
    rw [hi]
    cases idx b e.call with
    | none =>
      dsimp only
      split
      · rfl
      · simp [h]
    | some k =>
      dsimp only
      have hk : (a.map nmP)[k]? = (b.map nmP)[k]? := by rw [h]
      simp only [List.getElem?_map] at hk
      cases ha : a[k]? with
      | none =>
        cases hb : b[k]? with
        | none => rfl
        | some y => rw [ha, hb] at hk; cases hk
      | some x =>
        cases hb : b[k]? with
        | none => rw [ha, hb] at hk; cases hk
        | some y =>
          rw [ha, hb] at hk
          simp only [Option.map_some, Option.some.injEq, nmP, Prod.mk.injEq] at hk
          obtain ⟨x1, x2⟩ := x
          obtain ⟨y1, y2⟩ := y
          dsimp only at hk ⊢
          obtain ⟨rfl, hk2⟩ := hk
          have hf : x2.fin = y2.fin := by rw [← nm_fin x2, ← nm_fin y2, hk2]
          rw [hf]
          split
          · rename_i hh
            have h1 : nm x2 = x2 := nm_self (.inr (.inl (by rw [hf]; exact hh.2)))
            have h2 : nm y2 = y2 := nm_self (.inr (.inl hh.2))
            rw [h1, h2] at hk2
            subst hk2
            simp only [Option.map_some, Option.some.injEq, List.map_set, nmP, h]
            rw [finish_nm]
          · rfl
theorem readFrom_nm (n : Nat) : ∀ (l : List Ev) (i : Nat) (a b : List (Int × Cl)), a.map nmP = b.map nmP → (readFrom true n i l a).map (List.map nmP) = (readFrom false n i l b).map (List.map nmP)
  | [], i, a, b, h => by simp [readFrom, h]
  | e :: l, i, a, b, h => by
    have hs := step_nm n i e a b h
    simp only [readFrom]
    cases ha : stepE true n i e a with
    | none =>
      cases hb : stepE false n i e b with
      | none => rfl
      | some y => rw [ha, hb] at hs; cases hs
    | some x =>
      cases hb : stepE false n i e b with
      | none => rw [ha, hb] at hs; cases hs
      | some y =>
        rw [ha, hb] at hs
        simp only [Option.map_some, Option.some.injEq] at hs
        exact readFrom_nm n l (i + 1) x y hs
/-- both readings are judged alike -/
theorem checkR_eq (l : List Ev) : checkT l = checkS l := by
  have h := readFrom_nm l.length l 0 [] [] rfl
  unfold checkT checkS readS
  cases ha : readFrom true l.length 0 l [] with
  | none =>
    cases hb : readFrom false l.length 0 l [] with
    | none => rfl
    | some y => rw [ha, hb] at h; cases h
  | some x =>
    cases hb : readFrom false l.length 0 l [] with
    | none => rw [ha, hb] at h; cases h
    | some y =>
      rw [ha, hb] at h
      simp only [Option.map_some, Option.some.injEq] at h
      simp only [Option.map_some]
      rw [← checkC_nm, ← checkC_nm (y.map (·.2))]
      congr 1
      have := congrArg (List.map (·.2)) h
      simpa [List.map_map, nmP, Function.comp_def] using this
end Go.Proofs.Yteclfkffgnfmpaa
