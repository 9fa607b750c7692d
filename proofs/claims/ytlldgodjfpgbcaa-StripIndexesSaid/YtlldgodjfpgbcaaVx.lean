/- Regions whose order is open, along a tree: what only reads comes first; of the others, each that may come next has its own way. Nothing is claimed here. -/
import Derived.Test.YtlldgodjfpgbcaaVw
namespace Go.Proofs.Ytlldgodjfpgbcaa
set_option linter.unusedVariables false
set_option linter.unusedSimpArgs false

inductive Pl where
  | nil
  | q (i : Nat) (r : Pl)
  | alt (i : Nat) (r more : Pl)
  | stop

def Pl.len : Pl → Nat
  | .nil => 0
  | .q _ r => r.len + 1
  | .alt _ r _ => r.len + 1
  | .stop => 0
def Pl.heads : Pl → List Nat
  | .alt i _ m => i :: m.heads
  | _ => []
def Pl.isStop : Pl → Bool
  | .stop => true
  | _ => false

def schedT (ops : Array Oper) : Pl → Option Nat → Array Bool → Bool
  | .stop, md, _ => md.isSome
  | .nil, md, l => md.isNone && (Region.ready .any ops l).isEmpty
  | .q i r, md, l => md.isNone && (Region.ready .any ops l).contains i && Region.free .any ops l i && schedT ops r none (l.setIfInBounds i true)
  | .alt i r m, md, l => (match md with
    | none => decide (Region.ready .any ops l = i :: m.heads)
    | some n => Nat.beq r.len n) && schedT ops r none (l.setIfInBounds i true) && schedT ops m (some r.len) l

/-- two ways, both to be gone -/
structure Both (A B : Prop) : Prop where
  i ::
  o : A ∧ B
theorem Both.mk {A B : Prop} (h : A) (h' : B) : Both A B := ⟨⟨h, h'⟩⟩

def heldT (P : Program) (T : Tab) (N : Nat) (C : World → Prop) (all : List Oper) : Pl → Env → World → (Env → World → Prop) → Prop
  | .nil, e, w, K => K e w
  | .stop, e, w, K => True
  | .q i r, e, w, K => match lget all i with
    | none => False
    | some o => guardV all o.guard e (fun e => holdV P T C o e fun v => putV N o.dst v e fun e' => heldT P T N C all r e' w K) (fun e => putV N o.dst undef e fun e' => heldT P T N C all r e' w K)
  | .alt i r m, e, w, K => match lget all i with
    | none => False
    | some o => match m.isStop with
      | true => stepV P T N all o e w fun e' w' => C w' ∧ heldT P T N C all r e' w' K
      | false => Both (stepV P T N all o e w fun e' w' => C w' ∧ heldT P T N C all r e' w' K) (heldT P T N C all m e w K)

theorem heldT_alt {P : Program} {T : Tab} {N : Nat} {C : World → Prop} {all : List Oper} {i : Nat} {r m : Pl} {e : Env} {w : World} {K : Env → World → Prop} (h : heldT P T N C all (.alt i r m) e w K) :
    ∃ o, lget all i = some o ∧ (stepV P T N all o e w fun e' w' => C w' ∧ heldT P T N C all r e' w' K) ∧ (m.isStop = false → heldT P T N C all m e w K) := by
  unfold heldT at h
  split at h
  · exact h.elim
  · rename_i o ho
    split at h
    · rename_i hm
      exact ⟨o, ho, h, fun h' => by rw [hm] at h'; cases h'⟩
    · exact ⟨o, ho, h.o.1, fun _ => h.o.2⟩

theorem heldT_any {P : Program} {T : Tab} (hT : TabOk P T) {N : Nat} {C : World → Prop} {all : List Oper} {Q : Exit → Act → World → Prop} {K : Env → World → Prop} (hns : Region.noSelect all.toArray = true)
    (hQ : ∀ e a w, Fits N e a → K e w → Q .normal a w) (hQp : ∀ c a w, ¬ Q (.panic c) a w) : ∀ (pl : Pl) (listed : Array Bool) (e : Env) (a : Act) (w : World), Fits N e a → C w → 
      (schedT all.toArray pl none listed = true → heldT P T N C all pl e w K → wpAnyH P .any all.toArray Q C pl.len listed a w) ∧
      (∀ n, schedT all.toArray pl (some n) listed = true → (pl.isStop = false → heldT P T N C all pl e w K) → ∀ j ∈ pl.heads, wpOp P all.toArray Q j (fun a' w' => C w' ∧ wpAnyH P .any all.toArray Q C n (listed.setIfInBounds j true) a' w') a w)
  | .nil, listed, e, a, w, ha, hC => by
    refine ⟨fun hB h => ?_, fun n hB _ j hj => by simp [Pl.heads] at hj⟩
    simp only [schedT, Option.isNone_none, Bool.true_and, List.isEmpty_iff] at hB
    exact wpAnyH_done hB (hQ e a w ha h) 0
  | .stop, listed, e, a, w, ha, hC => by
    refine ⟨fun hB h => ?_, fun n hB _ j hj => by simp [Pl.heads] at hj⟩
    simp [schedT] at hB
  | .q i r, listed, e, a, w, ha, hC => by
    refine ⟨fun hB h => ?_, fun n hB _ j hj => by simp [Pl.heads] at hj⟩
    simp only [schedT, Option.isNone_none, Bool.true_and, Bool.and_eq_true] at hB
    obtain ⟨⟨hr, hf⟩, hB⟩ := hB
    simp only [heldT] at h
    split at h
    · exact h.elim
    rename_i o ho
    rw [lget_eq] at ho
    have ho' : all.toArray[i]? = some o := by simpa using ho
    rcases guardV_wanted ha h with ⟨hw, e', ha', h'⟩ | ⟨hw, e', ha', h'⟩
    · obtain ⟨v, hv, hk⟩ := holdV_held hT ha' o h'
      obtain ⟨e2, ha2, hk2⟩ := putV_fits ha' hk
      exact wpAnyH_take ho' hns hf hr (fun c a w hq => (hQp c _ w hq).elim) (.inl ⟨hw, hv⟩) hC ((heldT_any hT hns hQ hQp r _ e2 _ w ha2 hC).1 hB hk2)
    · obtain ⟨e2, ha2, hk2⟩ := putV_fits ha' h'
      exact wpAnyH_take ho' hns hf hr (fun c a w hq => (hQp c _ w hq).elim) (.inr ⟨hw, rfl⟩) hC ((heldT_any hT hns hQ hQp r _ e2 _ w ha2 hC).1 hB hk2)
  | .alt i r m, listed, e, a, w, ha, hC => by
    have one : schedT all.toArray r none (listed.setIfInBounds i true) = true → ∀ o, lget all i = some o → (stepV P T N all o e w fun e' w' => C w' ∧ heldT P T N C all r e' w' K) →
        wpOp P all.toArray Q i (fun a' w' => C w' ∧ wpAnyH P .any all.toArray Q C r.len (listed.setIfInBounds i true) a' w') a w := by
      intro hB o ho h
      rw [lget_eq] at ho
      have ho' : all.toArray[i]? = some o := by simpa using ho
      unfold wpOp
      simp only [ho']
      simp only [stepV] at h
      rcases guardV_wanted ha h with ⟨hw, e', ha', h'⟩ | ⟨hw, e', ha', h'⟩
      · rw [if_pos hw]
        refine .inl (Oper.wp_mono (fun a' w' ⟨v, he, hk⟩ => ?_) (opV_wp hT ha' o h'))
        subst he
        obtain ⟨e2, ha2, hC2, hk2⟩ := putV_fits ha' hk
        exact ⟨hC2, (heldT_any hT hns hQ hQp r _ e2 _ w' ha2 hC2).1 hB hk2⟩
      · rw [if_neg (by simp [hw])]
        obtain ⟨e2, ha2, hC2, hk2⟩ := putV_fits ha' h'
        exact ⟨hC2, (heldT_any hT hns hQ hQp r _ e2 _ w ha2 hC2).1 hB hk2⟩
    refine ⟨fun hB h => ?_, fun n hB h j hj => ?_⟩
    · simp only [schedT, Bool.and_eq_true, decide_eq_true_eq] at hB
      obtain ⟨⟨hr, hB⟩, hB2⟩ := hB
      obtain ⟨o, ho, h1, h2⟩ := heldT_alt h
      have hm := (heldT_any hT hns hQ hQp m listed e a w ha hC).2 _ hB2 h2
      refine wpAnyH_all hr (by simp) fun j hj => ?_
      rcases List.mem_cons.1 hj with rfl | hj
      · exact one hB o ho h1
      · exact hm j hj
    · simp only [schedT, Bool.and_eq_true] at hB
      obtain ⟨⟨hr, hB⟩, hB2⟩ := hB
      obtain ⟨o, ho, h1, h2⟩ := heldT_alt (h rfl)
      have hn := Nat.eq_of_beq_eq_true hr
      have hm := (heldT_any hT hns hQ hQp m listed e a w ha hC).2 _ hB2 h2
      rw [← hn]
      rcases List.mem_cons.1 hj with rfl | hj
      · exact one hB o ho h1
      · exact hm j hj

def treeB (ops : Array Oper) (pl : Pl) : Bool := Region.noSelect ops && Nat.beq pl.len ops.size && schedT ops pl none (Array.replicate ops.size false)

theorem V.tree {P : Program} {T : Tab} (hT : TabOk P T) {N : Nat} {Q : Exit → Env → World → Prop} {e : Env} {w : World} {id : Nat} {ops : Array Oper} (C : World → Prop) (pl : Pl) (hm : P.follows .mixedOrders = true)
    (hB : treeB ops pl = true) (hC : C w.drew) (h : heldT P T N C ops.toList pl e w.drew fun e' w' => Q .normal e' w') : V P N (.region id ops true) Q e w := by
  simp only [treeB, Bool.and_eq_true] at hB
  obtain ⟨⟨hns, hl⟩, hB⟩ := hB
  have hl' : pl.len = ops.size := Nat.eq_of_beq_eq_true hl
  refine .mk fun a ha => ?_
  refine wp_mono (Q := fun x a' w' => x = .normal ∧ ∃ e', Fits N e' a' ∧ Q .normal e' w') (wp_region_held (S := C) hm ?_) fun x a' w' ⟨hx, e', hf, hq⟩ => by subst hx; exact ⟨e', hf, hq⟩
  have := (heldT_any hT (N := N) (C := C) (all := ops.toList) (Q := fun x a' w' => x = .normal ∧ ∃ e', Fits N e' a' ∧ Q .normal e' w') (by simpa using hns) (fun e a w hf hk => ⟨rfl, e, hf, hk⟩) (fun c a w hq => by cases hq.1) pl _ e a w.drew ha hC).1 (by simpa using hB) h
  rw [hl'] at this
  simpa using this
end Go.Proofs.Ytlldgodjfpgbcaa
