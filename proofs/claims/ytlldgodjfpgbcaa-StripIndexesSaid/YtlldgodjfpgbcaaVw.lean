/- Regions whose order is open, taken along a plan: operations that look at no world as they stand, the others each when it is the only one left. Nothing is claimed here. -/
import Derived.Test.YtlldgodjfpgbcaaVu
import Derived.OrdersHeld
namespace Go.Proofs.Ytlldgodjfpgbcaa
set_option linter.unusedVariables false
set_option linter.unusedSimpArgs false

def schedV (P : Program) (T : Tab) (N : Nat) (all : List Oper) : List (Nat × Bool) → Env → World → (Env → World → Prop) → Prop
  | [], e, w, K => K e w
  | (i, p) :: rest, e, w, K => match lget all i with
    | none => False
    | some o => match p with
      | true => guardV all o.guard e (fun e => pureV P T o.op e fun v => putV N o.dst v e fun e' => schedV P T N all rest e' w K) (fun e => putV N o.dst undef e fun e' => schedV P T N all rest e' w K)
      | false => stepV P T N all o e w fun e' w' => schedV P T N all rest e' w' K

def schedB (ops : Array Oper) : List (Nat × Bool) → Array Bool → Bool
  | [], listed => (Region.ready .any ops listed).isEmpty
  | (i, true) :: rest, listed => (Region.ready .any ops listed).contains i && Region.free .any ops listed i && schedB ops rest (listed.setIfInBounds i true)
  | (i, false) :: rest, listed => decide (Region.ready .any ops listed = [i]) && schedB ops rest (listed.setIfInBounds i true)

theorem schedV_any {P : Program} {T : Tab} (hT : TabOk P T) {N : Nat} {all : List Oper} {Q : Exit → Act → World → Prop} {K : Env → World → Prop} (hns : Region.noSelect all.toArray = true)
    (hQ : ∀ e a w, Fits N e a → K e w → Q .normal a w) (hQp : ∀ c a w, ¬ Q (.panic c) a w) : ∀ (pl : List (Nat × Bool)) (listed : Array Bool) (e : Env) (a : Act) (w : World), Fits N e a → schedB all.toArray pl listed = true →
      schedV P T N all pl e w K → wpAny P .any all.toArray Q pl.length listed a w
  | [], listed, e, a, w, ha, hB, h => by
    refine wpAny_done (by simpa [schedB] using hB) (hQ e a w ha h) 0
  | (i, true) :: pl, listed, e, a, w, ha, hB, h => by
    simp only [schedB, Bool.and_eq_true] at hB
    obtain ⟨⟨hr, hf⟩, hB⟩ := hB
    simp only [schedV] at h
    split at h
    · exact h.elim
    rename_i o ho
    rw [lget_eq] at ho
    have ho' : all.toArray[i]? = some o := by simpa using ho
    rcases guardV_wanted ha h with ⟨hw, e', ha', h'⟩ | ⟨hw, e', ha', h'⟩
    · obtain ⟨v, hv, hk⟩ := pureV_next hT ha' o h'
      obtain ⟨e2, ha2, hk2⟩ := putV_fits ha' hk
      exact wpAny_take ho' hns hf hr (fun c a w hq => (hQp c _ w hq).elim) (.inl ⟨hw, hv⟩) (schedV_any hT hns hQ hQp pl _ e2 _ w ha2 hB hk2)
    · obtain ⟨e2, ha2, hk2⟩ := putV_fits ha' h'
      exact wpAny_take ho' hns hf hr (fun c a w hq => (hQp c _ w hq).elim) (.inr ⟨hw, rfl⟩) (schedV_any hT hns hQ hQp pl _ e2 _ w ha2 hB hk2)
  | (i, false) :: pl, listed, e, a, w, ha, hB, h => by
    simp only [schedB, Bool.and_eq_true, decide_eq_true_eq] at hB
    obtain ⟨hr, hB⟩ := hB
    simp only [schedV] at h
    split at h
    · exact h.elim
    rename_i o ho
    rw [lget_eq] at ho
    have ho' : all.toArray[i]? = some o := by simpa using ho
    refine wpAny_all hr (by simp) fun j hj => ?_
    obtain rfl : j = i := by simpa using hj
    unfold wpOp
    simp only [ho']
    simp only [stepV] at h
    rcases guardV_wanted ha h with ⟨hw, e', ha', h'⟩ | ⟨hw, e', ha', h'⟩
    · rw [if_pos hw]
      refine .inl (Oper.wp_mono (fun a' w' ⟨v, he, hk⟩ => ?_) (opV_wp hT ha' o h'))
      subst he
      obtain ⟨e2, ha2, hk2⟩ := putV_fits ha' hk
      exact schedV_any hT hns hQ hQp pl _ e2 _ w' ha2 hB hk2
    · rw [if_neg (by simp [hw])]
      obtain ⟨e2, ha2, hk2⟩ := putV_fits ha' h'
      exact schedV_any hT hns hQ hQp pl _ e2 _ w ha2 hB hk2

def planB (ops : Array Oper) (pl : List (Nat × Bool)) : Bool := Region.noSelect ops && Nat.beq pl.length ops.size && schedB ops pl (Array.replicate ops.size false)

/-- a region whose order is open, along a plan -/
theorem V.plan {P : Program} {T : Tab} (hT : TabOk P T) {N : Nat} {Q : Exit → Env → World → Prop} {e : Env} {w : World} {id : Nat} {ops : Array Oper} (pl : List (Nat × Bool)) (hm : P.follows .mixedOrders = true)
    (hB : planB ops pl = true) (h : schedV P T N ops.toList pl e w.drew fun e' w' => Q .normal e' w') : V P N (.region id ops true) Q e w := by
  simp only [planB, Bool.and_eq_true] at hB
  obtain ⟨⟨hns, hl⟩, hB⟩ := hB
  have hl' : pl.length = ops.size := Nat.eq_of_beq_eq_true hl
  refine .mk fun a ha => ?_
  refine wp_mono (Q := fun x a' w' => x = .normal ∧ ∃ e', Fits N e' a' ∧ Q .normal e' w') (wp_region_any hm ?_) fun x a' w' ⟨hx, e', hf, hq⟩ => by subst hx; exact ⟨e', hf, hq⟩
  have := schedV_any hT (N := N) (all := ops.toList) (Q := fun x a' w' => x = .normal ∧ ∃ e', Fits N e' a' ∧ Q .normal e' w') (by simpa using hns) (fun e a w hf hk => ⟨rfl, e, hf, hk⟩) (fun c a w hq => by cases hq.1) pl _ e a w.drew ha (by simpa using hB) h
  rw [hl'] at this
  simpa using this

/-- a plan: all but the ones that are named stand still; they come in their order -/
def planOf : Nat → List Nat → List (Nat × Bool)
  | n, loud => (List.range n).map fun i => (i, !(loud.contains i))

/-! ### Regions whose order is open, under a condition that holds all along: what reads comes first, what writes after it -/
/-- one operation that in every world of the class hands on one value at once -/
def holdV (P : Program) (T : Tab) (C : World → Prop) (o : Oper) (e : Env) (K : Value → Prop) : Prop :=
  match o.op with
  | .load t x => match ov e x with
    | some (.pointer (some a)) => Lq P C t a K
    | _ => False
  | .lookup t x i ok => match ov e x, ov e i with
    | some u, some v => Rq P C (Instr.lookup t u v ok) K
    | _, _ => False
  | .convert s t x => match loudC T s t with
    | true => match ov e x with
      | some v => Rq P C (convert s t v) K
      | none => False
    | false => pureV P T (.convert s t x) e K
  | .call c => match c.callee with
    | .builtin b => match ovs e c.args.toList with
      | some vs => match loudB b vs with
        | some s => Rq P C (s c.argTypes o.type vs.toArray) K
        | none => bpureV T b c.argTypes.toList vs K
      | none => False
    | _ => False
  | op => pureV P T op e K

def Held1 (P : Program) (C : World → Prop) (s : Sem Next) (v : Value) : Prop := ∀ w, C w → s.run P w = .ok (.value v) w
theorem Held1.of_rq {P : Program} {C : World → Prop} {a : Act} {o : Oper} {s : Sem Value} {K : Value → Prop} (he : execOp a.eval o = (do pure (.value (← s)))) (h : Rq P C s K) : ∃ v, Held1 P C (execOp a.eval o) v ∧ K v := by
  obtain ⟨v, hv, hk⟩ := h.o
  refine ⟨v, fun w hw => ?_, hk⟩
  rw [he]
  simp only [Sem.run_bind, hv w hw, Result.andThen_ok, Sem.run_pure]
theorem Held1.of_next {P : Program} {C : World → Prop} {s : Sem Next} {K : Value → Prop} (h : Next1 P s K) : ∃ v, Held1 P C s v ∧ K v := by
  obtain ⟨v, hv, hk⟩ := h
  exact ⟨v, fun w _ => hv w, hk⟩

set_option maxHeartbeats 1000000 in
theorem holdV_held {P : Program} {T : Tab} (hT : TabOk P T) {C : World → Prop} {N : Nat} {e : Env} {a : Act} (ha : Fits N e a) (o : Oper) {K : Value → Prop} (h : holdV P T C o e K) :
    ∃ v, Held1 P C (execOp a.eval o) v ∧ K v := by
  obtain ⟨dst, op, ty, pos, after, guard⟩ := o
  unfold holdV at h
  split at h
  case h_1 =>
    rename_i t x hx
    simp only at hx; subst hx
    split at h
    · rename_i ad hv
      obtain ⟨v, hr, hk⟩ := h.o
      refine Held1.of_rq (s := Instr.loadAt t (a.eval x)) rfl (Rq.mk v (fun w hw => ?_) hk)
      rw [ha.ov hv]
      simp [Instr.loadAt, Instr.sureAddr, hr w hw]
    · exact h.elim
  case h_2 =>
    rename_i t x i ok hx
    simp only at hx; subst hx
    split at h
    · rename_i u v hu hv
      exact Held1.of_rq (by rw [← ha.ov hu, ← ha.ov hv]; rfl) h
    · exact h.elim
  case h_3 =>
    rename_i s t x hx
    simp only at hx; subst hx
    split at h
    · split at h
      · rename_i v hv
        exact Held1.of_rq (s := convert s t (a.eval x)) rfl (by rw [ha.ov hv]; exact h)
      · exact h.elim
    · exact Held1.of_next (pureV_next hT ha ⟨dst, .convert s t x, ty, pos, after, guard⟩ h)
  case h_4 =>
    rename_i c hx
    simp only at hx; subst hx
    obtain ⟨callee, args, ats⟩ := c
    split at h
    · rename_i b hb
      simp only at hb; subst hb
      split at h
      · rename_i vs hvs
        have e1 : args.map a.eval = vs.toArray := by apply Array.ext'; simpa using ha.ovs hvs
        split at h
        · rename_i s hs
          refine Held1.of_rq ?_ h
          rw [BigFrame.execOp_builtin, e1, loudB_run (P := P) hs]
        · obtain ⟨v, hv, hk⟩ := bpureV_gives hT (ty := ty) (cs := args.map fun | .const _ => true | _ => false) h
          refine Held1.of_next ⟨v, fun w => ?_, hk⟩
          rw [BigFrame.execOp_builtin, e1]
          exact hv w
      · exact h.elim
    · exact h.elim
  case h_5 => exact Held1.of_next (pureV_next hT ha ⟨dst, op, ty, pos, after, guard⟩ h)

def heldV (P : Program) (T : Tab) (N : Nat) (C : World → Prop) (all : List Oper) : List (Nat × Bool) → Env → World → (Env → World → Prop) → Prop
  | [], e, w, K => K e w
  | (i, p) :: rest, e, w, K => match lget all i with
    | none => False
    | some o => match p with
      | true => guardV all o.guard e (fun e => holdV P T C o e fun v => putV N o.dst v e fun e' => heldV P T N C all rest e' w K) (fun e => putV N o.dst undef e fun e' => heldV P T N C all rest e' w K)
      | false => stepV P T N all o e w fun e' w' => C w' ∧ heldV P T N C all rest e' w' K

theorem heldV_any {P : Program} {T : Tab} (hT : TabOk P T) {N : Nat} {C : World → Prop} {all : List Oper} {Q : Exit → Act → World → Prop} {K : Env → World → Prop} (hns : Region.noSelect all.toArray = true)
    (hQ : ∀ e a w, Fits N e a → K e w → Q .normal a w) (hQp : ∀ c a w, ¬ Q (.panic c) a w) : ∀ (pl : List (Nat × Bool)) (listed : Array Bool) (e : Env) (a : Act) (w : World), Fits N e a → C w → schedB all.toArray pl listed = true →
      heldV P T N C all pl e w K → wpAnyH P .any all.toArray Q C pl.length listed a w
  | [], listed, e, a, w, ha, hC, hB, h => wpAnyH_done (by simpa [schedB] using hB) (hQ e a w ha h) 0
  | (i, true) :: pl, listed, e, a, w, ha, hC, hB, h => by
    simp only [schedB, Bool.and_eq_true] at hB
    obtain ⟨⟨hr, hf⟩, hB⟩ := hB
    simp only [heldV] at h
    split at h
    · exact h.elim
    rename_i o ho
    rw [lget_eq] at ho
    have ho' : all.toArray[i]? = some o := by simpa using ho
    rcases guardV_wanted ha h with ⟨hw, e', ha', h'⟩ | ⟨hw, e', ha', h'⟩
    · obtain ⟨v, hv, hk⟩ := holdV_held hT ha' o h'
      obtain ⟨e2, ha2, hk2⟩ := putV_fits ha' hk
      exact wpAnyH_take ho' hns hf hr (fun c a w hq => (hQp c _ w hq).elim) (.inl ⟨hw, hv⟩) hC (heldV_any hT hns hQ hQp pl _ e2 _ w ha2 hC hB hk2)
    · obtain ⟨e2, ha2, hk2⟩ := putV_fits ha' h'
      exact wpAnyH_take ho' hns hf hr (fun c a w hq => (hQp c _ w hq).elim) (.inr ⟨hw, rfl⟩) hC (heldV_any hT hns hQ hQp pl _ e2 _ w ha2 hC hB hk2)
  | (i, false) :: pl, listed, e, a, w, ha, hC, hB, h => by
    simp only [schedB, Bool.and_eq_true, decide_eq_true_eq] at hB
    obtain ⟨hr, hB⟩ := hB
    simp only [heldV] at h
    split at h
    · exact h.elim
    rename_i o ho
    rw [lget_eq] at ho
    have ho' : all.toArray[i]? = some o := by simpa using ho
    refine wpAnyH_all hr (by simp) fun j hj => ?_
    obtain rfl : j = i := by simpa using hj
    unfold wpOp
    simp only [ho']
    simp only [stepV] at h
    rcases guardV_wanted ha h with ⟨hw, e', ha', h'⟩ | ⟨hw, e', ha', h'⟩
    · rw [if_pos hw]
      refine .inl (Oper.wp_mono (fun a' w' ⟨v, he, hk⟩ => ?_) (opV_wp hT ha' o h'))
      subst he
      obtain ⟨e2, ha2, hC2, hk2⟩ := putV_fits ha' hk
      exact ⟨hC2, heldV_any hT hns hQ hQp pl _ e2 _ w' ha2 hC2 hB hk2⟩
    · rw [if_neg (by simp [hw])]
      obtain ⟨e2, ha2, hC2, hk2⟩ := putV_fits ha' h'
      exact ⟨hC2, heldV_any hT hns hQ hQp pl _ e2 _ w ha2 hC2 hB hk2⟩

theorem V.held {P : Program} {T : Tab} (hT : TabOk P T) {N : Nat} {Q : Exit → Env → World → Prop} {e : Env} {w : World} {id : Nat} {ops : Array Oper} (C : World → Prop) (pl : List (Nat × Bool)) (hm : P.follows .mixedOrders = true)
    (hB : planB ops pl = true) (hC : C w.drew) (h : heldV P T N C ops.toList pl e w.drew fun e' w' => Q .normal e' w') : V P N (.region id ops true) Q e w := by
  simp only [planB, Bool.and_eq_true] at hB
  obtain ⟨⟨hns, hl⟩, hB⟩ := hB
  have hl' : pl.length = ops.size := Nat.eq_of_beq_eq_true hl
  refine .mk fun a ha => ?_
  refine wp_mono (Q := fun x a' w' => x = .normal ∧ ∃ e', Fits N e' a' ∧ Q .normal e' w') (wp_region_held (S := C) hm ?_) fun x a' w' ⟨hx, e', hf, hq⟩ => by subst hx; exact ⟨e', hf, hq⟩
  have := heldV_any hT (N := N) (C := C) (all := ops.toList) (Q := fun x a' w' => x = .normal ∧ ∃ e', Fits N e' a' ∧ Q .normal e' w') (by simpa using hns) (fun e a w hf hk => ⟨rfl, e, hf, hk⟩) (fun c a w hq => by cases hq.1) pl _ e a w.drew ha hC (by simpa using hB) h
  rw [hl'] at this
  simpa using this

/-- a plan: those that only read, then the others, each in the text's order -/
def planFrom (T : Tab) (q : Bool) : Nat → List Oper → List (Nat × Bool)
  | _, [] => []
  | i, o :: l => match stillOp T o.op with
    | true => match q with
      | true => (i, true) :: planFrom T q (Nat.succ i) l
      | false => planFrom T q (Nat.succ i) l
    | false => match q with
      | true => planFrom T q (Nat.succ i) l
      | false => (i, false) :: planFrom T q (Nat.succ i) l
def planQ (T : Tab) (ops : List Oper) : List (Nat × Bool) := planFrom.app (planFrom T true 0 ops) (planFrom T false 0 ops)
where planFrom.app : List (Nat × Bool) → List (Nat × Bool) → List (Nat × Bool)
  | [], m => m
  | x :: l, m => x :: planFrom.app l m

end Go.Proofs.Ytlldgodjfpgbcaa
