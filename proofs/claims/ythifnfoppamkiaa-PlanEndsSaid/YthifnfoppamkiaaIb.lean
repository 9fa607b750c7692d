/- What is done first is sane, plain. Nothing is claimed here. -/
import Derived.Test.YthifnfoppamkiaaIa
namespace Go.Proofs.Ythifnfoppamkiaa
set_option linter.unusedVariables false
set_option linter.unusedSimpArgs false

def apN (ns : List Int) : Prop := ns.Pairwise fun a b => a ≠ b ∨ b = -1
def alN (live : List Bool) (ns : List Int) : Prop := ∀ n ∈ ns, n = -1 ∨ liveS live n = true
structure SaneS (live : List Bool) (v : PV) (a : PA) : Prop where
  keep0 : a.keep ≠ []
  ns0 : a.ns ≠ []
  has : ∀ n ∈ a.keep, n = -1 ∨ n ∈ v.ns
  keepl : alN live a.keep
  nsl : alN live a.ns
  ap : apN a.ns
  st : v.st ≤ a.st

theorem freeS_live {l : List PV} {live : List Bool} {ns : List Int} {n : Int} (h : n ∈ freeS l live ns) : liveS live n = true ∧ n ∉ ns := candS_mem.1 (freeS_mem.1 h)
theorem livingS_mem {live : List Bool} {ns : List Int} {n : Int} : n ∈ livingS live ns ↔ n ∈ ns ∧ liveS live n = true := by simp [livingS]
theorem neg_dead (live : List Bool) : liveS live (-1) = false := by simp [liveS]
theorem whole_all {live : List Bool} {v : PV} (h : wholeS live v) : ∀ n ∈ v.ns, liveS live n = true := by
  unfold wholeS livingS at h
  exact List.length_filter_eq_length_iff.1 h
theorem all_whole {live : List Bool} {v : PV} (h : ∀ n ∈ v.ns, liveS live n = true) : wholeS live v := by
  unfold wholeS livingS
  exact List.length_filter_eq_length_iff.2 h
theorem nodup_ap {ns : List Int} (h : ns.Nodup) : apN ns := h.imp fun h => Or.inl h
theorem living_nodup {live : List Bool} {ns : List Int} (h : apN ns) : (livingS live ns).Nodup := by
  have h1 : (livingS live ns).Pairwise fun a b => a ≠ b ∨ b = -1 := h.filter _
  refine (List.Pairwise.and_mem.1 h1).imp ?_
  rintro a b ⟨_, hb, h2⟩
  rcases h2 with h2 | h2
  · exact h2
  · have := (livingS_mem.1 hb).2
    rw [h2, neg_dead] at this; cases this

theorem patchS_mem (live : List Bool) : ∀ (ns f : List Int) (n : Int), n ∈ patchS live ns f → n = -1 ∨ n ∈ livingS live ns ∨ n ∈ f
  | [], f, n, h => by simp [patchS] at h
  | x :: ns, f, n, h => by
    unfold patchS at h
    split at h
    · rename_i hx
      rcases List.mem_cons.1 h with rfl | h
      · exact Or.inr (Or.inl (livingS_mem.2 ⟨List.mem_cons_self .., hx⟩))
      · rcases patchS_mem live ns f n h with h | h | h
        · exact Or.inl h
        · exact Or.inr (Or.inl (livingS_mem.2 ⟨List.mem_cons_of_mem _ (livingS_mem.1 h).1, (livingS_mem.1 h).2⟩))
        · exact Or.inr (Or.inr h)
    · split at h
      · rcases List.mem_cons.1 h with rfl | h
        · exact Or.inl rfl
        · rcases patchS_mem live ns [] n h with h | h | h
          · exact Or.inl h
          · exact Or.inr (Or.inl (livingS_mem.2 ⟨List.mem_cons_of_mem _ (livingS_mem.1 h).1, (livingS_mem.1 h).2⟩))
          · cases h
      · rename_i y f'
        rcases List.mem_cons.1 h with rfl | h
        · exact Or.inr (Or.inr (List.mem_cons_self ..))
        · rcases patchS_mem live ns f' n h with h | h | h
          · exact Or.inl h
          · exact Or.inr (Or.inl (livingS_mem.2 ⟨List.mem_cons_of_mem _ (livingS_mem.1 h).1, (livingS_mem.1 h).2⟩))
          · exact Or.inr (Or.inr (List.mem_cons_of_mem _ h))
theorem patchS_ap (live : List Bool) : ∀ (ns f : List Int), apN ns → f.Nodup → (∀ n ∈ f, n ∉ livingS live ns) → apN (patchS live ns f)
  | [], f, _, _, _ => by simp [patchS, apN]
  | x :: ns, f, h1, h2, h3 => by
    unfold patchS
    unfold apN at h1
    rw [List.pairwise_cons] at h1
    have h3' : ∀ n ∈ f, n ∉ livingS live ns := fun n hn hm => h3 n hn (livingS_mem.2 ⟨List.mem_cons_of_mem _ (livingS_mem.1 hm).1, (livingS_mem.1 hm).2⟩)
    split
    · rename_i hx
      unfold apN
      rw [List.pairwise_cons]
      refine ⟨fun n hn => ?_, patchS_ap live ns f h1.2 h2 h3'⟩
      rcases patchS_mem live ns f n hn with h | h | h
      · exact Or.inr h
      · exact h1.1 n (livingS_mem.1 h).1
      · refine Or.inl fun he => ?_
        exact h3 n h (livingS_mem.2 ⟨he ▸ List.mem_cons_self .., he ▸ hx⟩)
    · split
      · unfold apN
        rw [List.pairwise_cons]
        refine ⟨fun n hn => ?_, patchS_ap live ns [] h1.2 List.nodup_nil (by simp)⟩
        by_cases h : n = -1
        · exact Or.inr h
        · exact Or.inl fun he => h he.symm
      · rename_i y f'
        rw [List.nodup_cons] at h2
        unfold apN
        rw [List.pairwise_cons]
        refine ⟨fun n hn => ?_, patchS_ap live ns f' h1.2 h2.2 fun n hn => h3' n (List.mem_cons_of_mem _ hn)⟩
        rcases patchS_mem live ns f' n hn with h | h | h
        · exact Or.inr h
        · exact Or.inl fun he => h3' y (List.mem_cons_self ..) (he ▸ h)
        · exact Or.inl fun he => h2.1 (he ▸ h)
theorem patchS_len (live : List Bool) : ∀ (ns f : List Int), (patchS live ns f).length = ns.length
  | [], f => by simp [patchS]
  | x :: ns, f => by
    unfold patchS
    split
    · simp [patchS_len live ns f]
    · split <;> simp [patchS_len live ns _]

theorem lackS_sane {l : List PV} {live : List Bool} {c : PC} {v : PV} {a : PA} (hv : apN v.ns) (h : lackS l live c v = some a) : SaneS live v a := by
  unfold lackS at h
  split at h
  · cases h
  · rename_i hc
    cases h
    have hn : livingS live v.ns ≠ [] := fun e => hc (Or.inr (Or.inl e))
    refine ⟨hn, by simp [hn], fun n hn => Or.inr (livingS_mem.1 hn).1, fun n hn => Or.inr (livingS_mem.1 hn).2, ?_, ?_, Int.le_refl _⟩
    · intro n hm
      rcases List.mem_append.1 hm with hm | hm
      · exact Or.inr (livingS_mem.1 hm).2
      · exact Or.inr (freeS_live (List.mem_of_mem_take hm)).1
    · refine nodup_ap ?_
      rw [List.nodup_append]
      refine ⟨living_nodup hv, (freeS_nodup l live v.ns).sublist (List.take_sublist _ _), ?_⟩
      rintro x hx y hy rfl
      exact (freeS_live (List.mem_of_mem_take hy)).2 (livingS_mem.1 hx).1
theorem brokeS_sane {l : List PV} {live : List Bool} {c : PC} {v : PV} {a : PA} (hv : apN v.ns) (h0 : v.ns ≠ []) (h : brokeS l live c v = some a) : SaneS live v a := by
  unfold brokeS at h
  split at h
  · cases h
  · rename_i hc
    cases h
    have hst : v.st = 2 := by
      by_cases e : v.st = 2
      · exact e
      · exact absurd (Or.inl e) hc
    refine ⟨by simpa using h0, fun e => ?_, ?_, ?_, ?_, patchS_ap live v.ns _ hv (freeS_nodup ..) fun n hn => (freeS_live hn).2, by dsimp only; omega⟩
    · dsimp only at e
      have := patchS_len live v.ns (freeS l live (livingS live v.ns))
      rw [e] at this
      exact h0 (List.length_eq_zero_iff.1 this.symm)
    · intro n hn
      obtain ⟨m, hm, rfl⟩ := List.mem_map.1 hn
      unfold deadS
      split
      · exact Or.inr hm
      · exact Or.inl rfl
    · intro n hn
      obtain ⟨m, hm, rfl⟩ := List.mem_map.1 hn
      unfold deadS
      split
      · exact Or.inr (by assumption)
      · exact Or.inl rfl
    · intro n hn
      rcases patchS_mem live _ _ n hn with h | h | h
      · exact Or.inl h
      · exact Or.inr (livingS_mem.1 h).2
      · exact Or.inr (freeS_live h).1
theorem fullS_sane {live : List Bool} {sizes : List Int} {c : PC} {i : Nat} {v : PV} {a : PA} (hv : apN v.ns) (h0 : v.ns ≠ []) (h : fullS live sizes c i v = some a) : SaneS live v a := by
  unfold fullS at h
  split at h
  · cases h
  · rename_i hc
    cases h
    have hst : v.st = 0 := by
      by_cases e : v.st = 0
      · exact e
      · exact absurd (Or.inl e) hc
    have hw : wholeS live v := by
      by_cases e : wholeS live v
      · exact e
      · exact absurd (Or.inr (Or.inr (Or.inl e))) hc
    exact ⟨h0, h0, fun n hn => Or.inr hn, fun n hn => Or.inr (whole_all hw n hn), fun n hn => Or.inr (whole_all hw n hn), hv, by dsimp only; omega⟩
theorem stripS_sane {l : List PV} {live : List Bool} {c : PC} {v : PV} {a : PA} (hk : 1 ≤ c.k + c.m) (h0 : v.ns ≠ []) (h : stripS l live c v = some a) : SaneS live v a := by
  unfold stripS at h
  split at h
  · cases h
  · rename_i hc
    cases h
    have hst : v.st = 1 := by
      by_cases e : v.st = 1
      · exact e
      · exact absurd (Or.inl e) hc
    have hw : wholeS live v := by
      by_cases e : wholeS live v
      · exact e
      · exact absurd (Or.inr (Or.inr (Or.inl e))) hc
    have hf : ¬ ((freeS l live []).length : Int) < c.k + c.m := fun e => hc (Or.inr (Or.inr (Or.inr e)))
    refine ⟨h0, fun e => ?_, fun n hn => Or.inr hn, fun n hn => Or.inr (whole_all hw n hn), fun n hn => Or.inr (freeS_live (List.mem_of_mem_take hn)).1, nodup_ap ((freeS_nodup l live []).sublist (List.take_sublist _ _)), by dsimp only; omega⟩
    have := congrArg List.length e
    simp only [List.length_take, List.length_nil] at this
    omega
theorem set_nodup {ns : List Int} {f : Int} (h : ns.Nodup) (hf : f ∉ ns) (m : Nat) : (ns.set m f).Nodup := by
  induction ns generalizing m with
  | nil => simp
  | cons x ns ih =>
    rw [List.nodup_cons] at h
    cases m with
    | zero =>
      rw [List.set_cons_zero, List.nodup_cons]
      exact ⟨fun hm => hf (List.mem_cons_of_mem _ hm), h.2⟩
    | succ m =>
      rw [List.set_cons_succ, List.nodup_cons]
      refine ⟨fun hm => ?_, ih h.2 (fun hm => hf (List.mem_cons_of_mem _ hm)) m⟩
      rcases List.mem_or_eq_of_mem_set hm with hm | rfl
      · exact h.1 hm
      · exact hf (List.mem_cons_self ..)
theorem unevenS_some {l : List PV} {live : List Bool} {v : PV} {a : PA} (h : unevenS l live v = some a) :
    ∃ f t, freeS l live v.ns = f :: t ∧ (v.st = 0 ∨ v.st = 1) ∧ v.fz = false ∧ wholeS live v ∧ loadS l f + 2 ≤ loadS l (v.ns[mostS (loadS l) v.ns v.ns.length]?.getD 0) ∧ a = ⟨5, 0, v.st, v.ns, v.ns.set (mostS (loadS l) v.ns v.ns.length) f⟩ := by
  unfold unevenS at h
  split at h
  · cases h
  · rename_i f t hf
    split at h
    · cases h
    · rename_i hc
      cases h
      refine ⟨f, t, hf, ?_, ?_, ?_, ?_, rfl⟩
      · refine Classical.byContradiction fun e => hc (Or.inl ?_)
        omega
      · cases e : v.fz
        · rfl
        · exact absurd (Or.inr (Or.inl e)) hc
      · refine Classical.byContradiction fun e => hc (Or.inr (Or.inr (Or.inl e)))
      · refine Nat.le_of_not_lt fun e => hc (Or.inr (Or.inr (Or.inr e)))
theorem unevenS_sane {l : List PV} {live : List Bool} {v : PV} {a : PA} (hv : apN v.ns) (h0 : v.ns ≠ []) (h : unevenS l live v = some a) : SaneS live v a := by
  obtain ⟨f, t, hf, hst, hz, hw, hl, rfl⟩ := unevenS_some h
  have hff : f ∈ freeS l live v.ns := by rw [hf]; exact List.mem_cons_self ..
  have hfl := freeS_live hff
  refine ⟨h0, fun e => h0 ?_, fun n hn => Or.inr hn, fun n hn => Or.inr (whole_all hw n hn), ?_, ?_, Int.le_refl _⟩
  · have := congrArg List.length e
    simp only [List.length_set, List.length_nil] at this
    exact List.length_eq_zero_iff.1 this
  · intro n hn
    rcases List.mem_or_eq_of_mem_set hn with hn | rfl
    · exact Or.inr (whole_all hw n hn)
    · exact Or.inr hfl.1
  · refine nodup_ap (set_nodup ?_ hfl.2 _)
    have := living_nodup (live := live) hv
    have e : livingS live v.ns = v.ns := List.filter_eq_self.2 (whole_all hw)
    rwa [e] at this

theorem atRuleS_some {r : Nat → PV → Option PA} {i : Nat} {v : PV} {a : PA} (h : atRuleS r i v = some a) : v.ns ≠ [] ∧ ∃ b, r i v = some b ∧ a = { b with vol := v.id } := by
  unfold atRuleS at h
  split at h
  · cases h
  · rename_i h0
    obtain ⟨b, hb, rfl⟩ := Option.map_eq_some_iff.1 h
    exact ⟨h0, b, hb, rfl⟩
theorem SaneS.vol {live : List Bool} {v : PV} {b : PA} (h : SaneS live v b) (x : Int) : SaneS live v { b with vol := x } := ⟨h.keep0, h.ns0, h.has, h.keepl, h.nsl, h.ap, h.st⟩
/-- which rule spoke, of which volume -/
theorem nextS_some {l : List PV} {live : List Bool} {sizes : List Int} {c : PC} {a : PA} (h : nextS l live sizes c = some a) :
    okC c ∧ ∃ r ∈ rulesS l live sizes c, ∃ (k : Nat) (hk : k < l.length) (b : PA), l[k].ns ≠ [] ∧ r k l[k] = some b ∧ a = { b with vol := l[k].id } := by
  unfold nextS at h
  split at h
  · rename_i hc
    obtain ⟨r, hr, hf⟩ := List.exists_of_findSome?_eq_some h
    obtain ⟨k, hk, ha⟩ := firstS_at hf
    obtain ⟨h0, b, hb, he⟩ := atRuleS_some ha
    exact ⟨hc, r, hr, k, hk, b, h0, hb, he⟩
  · cases h
theorem nextS_sane {l : List PV} {live : List Bool} {sizes : List Int} {c : PC} {a : PA} (hap : ∀ v ∈ l, apN v.ns) (h : nextS l live sizes c = some a) :
    ∃ (k : Nat) (hk : k < l.length), a.vol = l[k].id ∧ SaneS live l[k] a := by
  obtain ⟨hc, r, hr, k, hk, b, h0, hb, rfl⟩ := nextS_some h
  refine ⟨k, hk, rfl, SaneS.vol ?_ _⟩
  have hv := hap l[k] (List.getElem_mem hk)
  unfold okC at hc
  simp only [rulesS, List.mem_cons, List.not_mem_nil, or_false] at hr
  rcases hr with rfl | rfl | rfl | rfl | rfl
  · exact lackS_sane hv hb
  · exact brokeS_sane hv h0 hb
  · exact fullS_sane hv h0 hb
  · exact stripS_sane (by omega) h0 hb
  · exact unevenS_sane hv h0 hb
end Go.Proofs.Ythifnfoppamkiaa
