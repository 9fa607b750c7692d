/- Regions whose order is open, taken along a plan: operations that look at no world as they stand, the others each when it is the only one left. Nothing is claimed here. -/
import Derived.Test.YtlldgodjfpgbcaaVu
namespace Go.Proofs.Ytlldgodjfpgbcaa
set_option linter.unusedVariables false
set_option linter.unusedSimpArgs false

def schedV (P : Program) (T : Tab) (N : Nat) (all : List Oper) : List (Nat × Bool) → Env → World → (Env → World → Prop) → Prop
  | [], e, w, K => K e w
  | (i, p) :: rest, e, w, K => match lget all i with
    | none => False
    | some o => match p with
      | true => guardV all o.guard e (fun e => pureV P T o.op e fun v => putV N o.dst v e fun e' => schedV P T N all rest e' w K) (fun e => putV N o.dst undef e fun e' => schedV P T N all rest e' w K)
      | false => stepV P T N all o e w fun e' w' => schedV P T N all rest e' w' K

def schedB (ops : Array Oper) : List (Nat × Bool) → Array Bool → Bool
  | [], listed => (Region.ready .any ops listed).isEmpty
  | (i, true) :: rest, listed => (Region.ready .any ops listed).contains i && Region.free .any ops listed i && schedB ops rest (listed.setIfInBounds i true)
  | (i, false) :: rest, listed => decide (Region.ready .any ops listed = [i]) && schedB ops rest (listed.setIfInBounds i true)

theorem schedV_any {P : Program} {T : Tab} (hT : TabOk P T) {N : Nat} {all : List Oper} {Q : Exit → Act → World → Prop} {K : Env → World → Prop} (hns : Region.noSelect all.toArray = true)
    (hQ : ∀ e a w, Fits N e a → K e w → Q .normal a w) (hQp : ∀ c a w, ¬ Q (.panic c) a w) : ∀ (pl : List (Nat × Bool)) (listed : Array Bool) (e : Env) (a : Act) (w : World), Fits N e a → schedB all.toArray pl listed = true →
      schedV P T N all pl e w K → wpAny P .any all.toArray Q pl.length listed a w
  | [], listed, e, a, w, ha, hB, h => by
    refine wpAny_done (by simpa [schedB] using hB) (hQ e a w ha h) 0
  | (i, true) :: pl, listed, e, a, w, ha, hB, h => by
    simp only [schedB, Bool.and_eq_true] at hB
    obtain ⟨⟨hr, hf⟩, hB⟩ := hB
    simp only [schedV] at h
    split at h
    · exact h.elim
    rename_i o ho
    rw [lget_eq] at ho
    have ho' : all.toArray[i]? = some o := by simpa using ho
    rcases guardV_wanted ha h with ⟨hw, e', ha', h'⟩ | ⟨hw, e', ha', h'⟩
    · obtain ⟨v, hv, hk⟩ := pureV_next hT ha' o h'
      obtain ⟨e2, ha2, hk2⟩ := putV_fits ha' hk
      exact wpAny_take ho' hns hf hr (fun c a w hq => (hQp c _ w hq).elim) (.inl ⟨hw, hv⟩) (schedV_any hT hns hQ hQp pl _ e2 _ w ha2 hB hk2)
    · obtain ⟨e2, ha2, hk2⟩ := putV_fits ha' h'
      exact wpAny_take ho' hns hf hr (fun c a w hq => (hQp c _ w hq).elim) (.inr ⟨hw, rfl⟩) (schedV_any hT hns hQ hQp pl _ e2 _ w ha2 hB hk2)
  | (i, false) :: pl, listed, e, a, w, ha, hB, h => by
    simp only [schedB, Bool.and_eq_true, decide_eq_true_eq] at hB
    obtain ⟨hr, hB⟩ := hB
    simp only [schedV] at h
    split at h
    · exact h.elim
    rename_i o ho
    rw [lget_eq] at ho
    have ho' : all.toArray[i]? = some o := by simpa using ho
    refine wpAny_all hr (by simp) fun j hj => ?_
    obtain rfl : j = i := by simpa using hj
    unfold wpOp
    simp only [ho']
    simp only [stepV] at h
    rcases guardV_wanted ha h with ⟨hw, e', ha', h'⟩ | ⟨hw, e', ha', h'⟩
    · rw [if_pos hw]
      refine .inl (Oper.wp_mono (fun a' w' ⟨v, he, hk⟩ => ?_) (opV_wp hT ha' o h'))
      subst he
      obtain ⟨e2, ha2, hk2⟩ := putV_fits ha' hk
      exact schedV_any hT hns hQ hQp pl _ e2 _ w' ha2 hB hk2
    · rw [if_neg (by simp [hw])]
      obtain ⟨e2, ha2, hk2⟩ := putV_fits ha' h'
      exact schedV_any hT hns hQ hQp pl _ e2 _ w ha2 hB hk2

def planB (ops : Array Oper) (pl : List (Nat × Bool)) : Bool := Region.noSelect ops && Nat.beq pl.length ops.size && schedB ops pl (Array.replicate ops.size false)

/-- a region whose order is open, along a plan -/
theorem V.plan {P : Program} {T : Tab} (hT : TabOk P T) {N : Nat} {Q : Exit → Env → World → Prop} {e : Env} {w : World} {id : Nat} {ops : Array Oper} (pl : List (Nat × Bool)) (hm : P.follows .mixedOrders = true)
    (hB : planB ops pl = true) (h : schedV P T N ops.toList pl e w.drew fun e' w' => Q .normal e' w') : V P N (.region id ops true) Q e w := by
  simp only [planB, Bool.and_eq_true] at hB
  obtain ⟨⟨hns, hl⟩, hB⟩ := hB
  have hl' : pl.length = ops.size := Nat.eq_of_beq_eq_true hl
  refine .mk fun a ha => ?_
  refine wp_mono (Q := fun x a' w' => x = .normal ∧ ∃ e', Fits N e' a' ∧ Q .normal e' w') (wp_region_any hm ?_) fun x a' w' ⟨hx, e', hf, hq⟩ => by subst hx; exact ⟨e', hf, hq⟩
  have := schedV_any hT (N := N) (all := ops.toList) (Q := fun x a' w' => x = .normal ∧ ∃ e', Fits N e' a' ∧ Q .normal e' w') (by simpa using hns) (fun e a w hf hk => ⟨rfl, e, hf, hk⟩) (fun c a w hq => by cases hq.1) pl _ e a w.drew ha (by simpa using hB) h
  rw [hl'] at this
  simpa using this

/-- a plan: all but the ones that are named stand still; they come in their order -/
def planOf : Nat → List Nat → List (Nat × Bool)
  | n, loud => (List.range n).map fun i => (i, !(loud.contains i))

end Go.Proofs.Ytlldgodjfpgbcaa
