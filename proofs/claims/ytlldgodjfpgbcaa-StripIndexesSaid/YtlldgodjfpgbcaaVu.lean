/- Regions whose order is open, over partial frames: those that only read; those that read ahead of a tail. Nothing is claimed here. -/
import Derived.Test.YtlldgodjfpgbcaaVt
import Derived.StillTail
namespace Go.Proofs.Ytlldgodjfpgbcaa
set_option linter.unusedVariables false
set_option linter.unusedSimpArgs false

structure Lq (P : Program) (C : World → Prop) (t : TypeId) (a : Addr) (K : Value → Prop) : Prop where
  i ::
  o : ∃ v, (∀ w, C w → (loadVar t a).run P w = .ok v w) ∧ K v
structure Rq (P : Program) (C : World → Prop) (s : Sem Value) (K : Value → Prop) : Prop where
  i ::
  o : ∃ v, (∀ w, C w → s.run P w = .ok v w) ∧ K v
structure Fq (P : Program) (C : World → Prop) (f : FuncId) (args : Array Value) (K : Value → Prop) : Prop where
  i ::
  o : ∃ v, (∀ w, C w → Fn P f args w fun u w' => u = v ∧ C w') ∧ K v
theorem Lq.mk {P : Program} {C : World → Prop} {t : TypeId} {a : Addr} {K : Value → Prop} (v : Value) (h : ∀ w, C w → (loadVar t a).run P w = .ok v w) (hk : K v) : Lq P C t a K := ⟨⟨v, h, hk⟩⟩
theorem Rq.mk {P : Program} {C : World → Prop} {s : Sem Value} {K : Value → Prop} (v : Value) (h : ∀ w, C w → s.run P w = .ok v w) (hk : K v) : Rq P C s K := ⟨⟨v, h, hk⟩⟩
theorem Fq.mk {P : Program} {C : World → Prop} {f : FuncId} {args : Array Value} {K : Value → Prop} (v : Value) (h : ∀ w, C w → Fn P f args w fun u w' => u = v ∧ C w') (hk : K v) : Fq P C f args K := ⟨⟨v, h, hk⟩⟩
theorem Lq.one {P : Program} {T : Tab} (hT : TabOk P T) {C : World → Prop} {t : TypeId} {a : Addr} {K : Value → Prop} {v : Value} {d : Td} (hl : look T t = some d) (ha : d.sh.agg = false) (hc : ∀ w, C w → w.cell? a = some v) (hk : K v) : Lq P C t a K := by
  refine Lq.mk v (fun w hw => ?_) hk
  have h1 := (hT _ _ hl).run_agg w
  rw [ha] at h1
  simp only [loadVar, Sem.run_bind, h1, Result.andThen_ok, Bool.false_eq_true, if_false, run_load, hc w hw]

def qopV (P : Program) (T : Tab) (C : World → Prop) (o : Oper) (e : Env) (K : Value → Prop) : Prop :=
  match o.op with
  | .load t x => match ov e x with
    | some (.pointer (some a)) => Lq P C t a K
    | _ => False
  | .lookup t x i ok => match ov e x, ov e i with
    | some u, some v => Rq P C (Instr.lookup t u v ok) K
    | _, _ => False
  | .convert s t x => match loudC T s t with
    | true => match ov e x with
      | some v => Rq P C (convert s t v) K
      | none => False
    | false => pureV P T (.convert s t x) e K
  | .call c => match c.callee with
    | .builtin b => match ovs e c.args.toList with
      | some vs => match loudB b vs with
        | some s => Rq P C (s c.argTypes o.type vs.toArray) K
        | none => bpureV T b c.argTypes.toList vs K
      | none => False
    | .value f => match ov e f, ovs e c.args.toList with
      | some (.func (.func id) fs cs), some vs => Fq P C id (callArgs fs.toList vs cs.toList).toArray K
      | _, _ => False
    | .invoke _ _ => False
  | op => pureV P T op e K

/-- in every world of the class one value, handed back at once or by a call -/
def Quiet1 (P : Program) (C : World → Prop) (s : Sem Next) (v : Value) : Prop :=
  ∀ w, C w → s.run P w = .ok (.value v) w ∨ ∃ f args, s.run P w = .ok (.enter f args) w ∧ Calls P f args w fun e w' => e = .returned v ∧ C w'

theorem Quiet1.of_rq {P : Program} {C : World → Prop} {a : Act} {o : Oper} {s : Sem Value} {K : Value → Prop} (he : execOp a.eval o = (do pure (.value (← s)))) (h : Rq P C s K) : ∃ v, Quiet1 P C (execOp a.eval o) v ∧ K v := by
  replace h := h.o
  obtain ⟨v, hv, hk⟩ := h
  refine ⟨v, fun w hw => .inl ?_, hk⟩
  rw [he]
  simp only [Sem.run_bind, hv w hw, Result.andThen_ok, Sem.run_pure]

theorem Quiet1.of_next {P : Program} {C : World → Prop} {s : Sem Next} {K : Value → Prop} (h : Next1 P s K) : ∃ v, Quiet1 P C s v ∧ K v := by
  obtain ⟨v, hv, hk⟩ := h
  exact ⟨v, fun w _ => .inl (hv w), hk⟩

set_option maxHeartbeats 1000000 in
theorem qopV_quiet {P : Program} {T : Tab} (hT : TabOk P T) {C : World → Prop} {N : Nat} {e : Env} {a : Act} (ha : Fits N e a) (o : Oper) {K : Value → Prop} (h : qopV P T C o e K) :
    ∃ v, Quiet1 P C (execOp a.eval o) v ∧ K v := by
  obtain ⟨dst, op, ty, pos, after, guard⟩ := o
  unfold qopV at h
  split at h
  case h_1 =>
    rename_i t x hx
    simp only at hx; subst hx
    split at h
    · rename_i ad hv
      replace h := h.o
      obtain ⟨v, hr, hk⟩ := h
      refine Quiet1.of_rq (s := Instr.loadAt t (a.eval x)) rfl (Rq.mk v (fun w hw => ?_) hk)
      rw [ha.ov hv]
      simp [Instr.loadAt, Instr.sureAddr, hr w hw]
    · exact h.elim
  case h_2 =>
    rename_i t x i ok hx
    simp only at hx; subst hx
    split at h
    · rename_i u v hu hv
      exact Quiet1.of_rq (by rw [← ha.ov hu, ← ha.ov hv]; rfl) h
    · exact h.elim
  case h_3 =>
    rename_i s t x hx
    simp only at hx; subst hx
    split at h
    · split at h
      · rename_i v hv
        exact Quiet1.of_rq (s := convert s t (a.eval x)) rfl (by rw [ha.ov hv]; exact h)
      · exact h.elim
    · exact Quiet1.of_next (pureV_next hT ha ⟨dst, .convert s t x, ty, pos, after, guard⟩ h)
  case h_4 =>
    rename_i c hx
    simp only at hx; subst hx
    obtain ⟨callee, args, ats⟩ := c
    split at h
    · rename_i b hb
      simp only at hb; subst hb
      split at h
      · rename_i vs hvs
        have e1 : args.map a.eval = vs.toArray := by apply Array.ext'; simpa using ha.ovs hvs
        split at h
        · rename_i s hs
          refine Quiet1.of_rq ?_ h
          rw [BigFrame.execOp_builtin, e1, loudB_run (P := P) hs]
        · obtain ⟨v, hv, hk⟩ := bpureV_gives hT (ty := ty) (cs := args.map fun | .const _ => true | _ => false) h
          refine Quiet1.of_next ⟨v, fun w => ?_, hk⟩
          rw [BigFrame.execOp_builtin, e1]
          exact hv w
      · exact h.elim
    · rename_i f hb
      simp only at hb; subst hb
      split at h
      · rename_i id fs cs vs hf hvs
        have e1 : args.map a.eval = vs.toArray := by apply Array.ext'; simpa using ha.ovs hvs
        have e2 : (callArgs fs.toList vs cs.toList).toArray = fs ++ args.map a.eval ++ cs := by
          rw [callArgs_eq, e1]
          apply Array.ext'
          simp
        rw [e2] at h
        replace h := h.o
        obtain ⟨v, hv, hk⟩ := h
        refine ⟨v, fun w hw => .inr ⟨id, fs ++ args.map a.eval ++ cs, ?_, ?_⟩, hk⟩
        · have h1 := hv w hw
          replace h1 := h1.o
          obtain ⟨⟨fn, hf', hn, hb⟩, hc⟩ := h1
          have : execOp a.eval { dst, op := .call { callee := .value f, args, argTypes := ats }, type := ty, pos, after, guard } = callFunc id (fs ++ args.map a.eval ++ cs) := by
            simp only [execOp, resolve, ha.ov hf, Deferred.ofValue, invoke, pure_bind]
          rw [this]
          simp only [callFunc, Sem.run_bind, run_program, Result.andThen_ok, hf', hn, hb, Bool.false_eq_true, if_false, Sem.run_pure]
        · exact (hv w hw).calls.mono fun e w' ⟨u, he, hu, hc⟩ => ⟨by rw [he, hu], hc⟩
      · exact h.elim
    · exact h.elim
  case h_5 => exact Quiet1.of_next (pureV_next hT ha ⟨dst, op, ty, pos, after, guard⟩ h)

def quietV (P : Program) (T : Tab) (N : Nat) (C : World → Prop) (all : List Oper) : List Oper → Env → (Env → Prop) → Prop
  | [], e, K => K e
  | o :: rest, e, K => guardV all o.guard e (fun e => qopV P T C o e fun v => putV N o.dst v e fun e' => quietV P T N C all rest e' K) (fun e => putV N o.dst undef e fun e' => quietV P T N C all rest e' K)

theorem quietV_quiet {P : Program} {T : Tab} (hT : TabOk P T) {C : World → Prop} {N : Nat} {all : List Oper} {Q : Act → Prop} {K : Env → Prop} (hQ : ∀ e a, Fits N e a → K e → Q a) :
    ∀ (l : List Oper) (e : Env) (a : Act), Fits N e a → quietV P T N C all l e K → wpQuiet P all.toArray C Q l a
  | [], e, a, ha, h => hQ e a ha h
  | o :: l, e, a, ha, h => by
    simp only [quietV] at h
    unfold wpQuiet
    rcases guardV_wanted ha h with ⟨hw, e', ha', h'⟩ | ⟨hw, e', ha', h'⟩
    · rw [if_pos hw]
      obtain ⟨v, hv, hk⟩ := qopV_quiet hT ha' o h'
      obtain ⟨e2, ha2, hk2⟩ := putV_fits ha' hk
      refine ⟨v, fun w hc => ?_, quietV_quiet hT hQ l e2 _ ha2 hk2⟩
      unfold Oper.quietAt
      rcases hv w hc with h1 | ⟨f, args, h1, h2⟩
      · rw [h1]; exact ⟨rfl, rfl⟩
      · rw [h1]; exact ⟨rfl, h2⟩
    · rw [if_neg (by simp [hw])]
      obtain ⟨e2, ha2, hk2⟩ := putV_fits ha' h'
      exact quietV_quiet hT hQ l e2 _ ha2 hk2

theorem quietV_still {P : Program} {T : Tab} (hT : TabOk P T) {w : World} {N : Nat} {all : List Oper} {Q : Act → Prop} {K : Env → Prop} (hQ : ∀ e a, Fits N e a → K e → Q a) :
    ∀ (l : List Oper) (e : Env) (a : Act), Fits N e a → quietV P T N (fun x => x = w) all l e K → wpStill P all.toArray w Q l a
  | [], e, a, ha, h => hQ e a ha h
  | o :: l, e, a, ha, h => by
    simp only [quietV] at h
    unfold wpStill
    rcases guardV_wanted ha h with ⟨hw, e', ha', h'⟩ | ⟨hw, e', ha', h'⟩
    · rw [if_pos hw]
      obtain ⟨v, hv, hk⟩ := qopV_quiet hT ha' o h'
      obtain ⟨e2, ha2, hk2⟩ := putV_fits ha' hk
      have hrest := quietV_still hT hQ l e2 _ ha2 hk2
      unfold Oper.still
      rcases hv w rfl with h1 | ⟨f, args, h1, h2⟩
      · rw [h1]; exact ⟨rfl, hrest⟩
      · rw [h1]; exact ⟨rfl, v, h2, hrest⟩
    · rw [if_neg (by simp [hw])]
      obtain ⟨e2, ha2, hk2⟩ := putV_fits ha' h'
      exact quietV_still hT hQ l e2 _ ha2 hk2

/-- a region whose order is open and whose operations give, in every world of a class, one value -/
theorem V.quiet {P : Program} {T : Tab} (hT : TabOk P T) {N : Nat} {Q : Exit → Env → World → Prop} {e : Env} {w : World} {id : Nat} {ops : Array Oper} (C : World → Prop) (hm : P.follows .mixedOrders = true)
    (hB : Region.lexB .any ops = true) (hC : C w.drew) (h : quietV P T N C ops.toList ops.toList e fun e' => ∀ w', C w' → Q .normal e' w') : V P N (.region id ops true) Q e w := by
  refine .mk fun a ha => wp_region_quiet (C := C) hm hB hC ?_
  have := quietV_quiet hT (N := N) (all := ops.toList) (Q := fun a' => ∀ w', C w' → ∃ e', Fits N e' a' ∧ Q .normal e' w') (fun e a hf hk w' hc => ⟨e, hf, hk w' hc⟩) ops.toList e a ha h
  simpa using this

/-- a region whose order is open: the first n operations read the world as it stands; those behind them follow one another -/
theorem V.tail {P : Program} {T : Tab} (hT : TabOk P T) {N : Nat} {Q : Exit → Env → World → Prop} {e : Env} {w : World} {id : Nat} {ops : Array Oper} (n : Nat) (hm : P.follows .mixedOrders = true)
    (hB : Region.lexTailB .any ops n = true) (h : quietV P T N (fun x => x = w.drew) ops.toList (ops.toList.take n) e fun e' => runV P T N ops.toList (ops.toList.drop n) e' w.drew fun e2 w2 => Q .normal e2 w2) : V P N (.region id ops true) Q e w := by
  refine .mk fun a ha => ?_
  have hops : ops = ops.toList.toArray := by simp
  rw [hops]
  refine wp_region_still_tail n hm (by rw [← hops]; exact hB) ?_
  refine quietV_still hT (N := N) (all := ops.toList) (fun e a hf hk => ?_) (ops.toList.take n) e a ha h
  exact runV_list hT (N := N) (all := ops.toList) (Q := fun x a' w' => ∃ e', Fits N e' a' ∧ Q x e' w') (K := fun e2 w2 => Q .normal e2 w2) (fun e a w hf hk => ⟨e, hf, hk⟩) _ _ _ _ hf hk

/-- operations that only read -/
def stillOp (T : Tab) : Op → Bool
  | .store _ _ _ | .alloc _ | .box _ _ | .buildSlice _ _ _ | .makeSlice _ _ _ | .makeMap _ _ | .mapUpdate _ _ _ _ | .insert _ _ _ _ | .mapEntry _ _ _ | .entryStore _ _ _ _ | .range _ _ | .next _ _ | .entry _ => false
  | .call c => match c.callee with
    | .builtin .append | .builtin .copy | .builtin .delete | .builtin .clear => false
    | .builtin _ => true
    | _ => false
  | _ => true
def firstLoud (T : Tab) : List Oper → Nat
  | [] => 0
  | o :: l => match stillOp T o.op with
    | true => Nat.succ (firstLoud T l)
    | false => 0
/-- V.tail, its number found -/
theorem V.tailA {P : Program} {T : Tab} (hT : TabOk P T) {N : Nat} {Q : Exit → Env → World → Prop} {e : Env} {w : World} {id : Nat} {ops : Array Oper} (hm : P.follows .mixedOrders = true)
    (hB : Region.lexTailB .any ops (firstLoud T ops.toList) = true) (h : quietV P T N (fun x => x = w.drew) ops.toList (ops.toList.take (firstLoud T ops.toList)) e fun e' => runV P T N ops.toList (ops.toList.drop (firstLoud T ops.toList)) e' w.drew fun e2 w2 => Q .normal e2 w2) : V P N (.region id ops true) Q e w :=
  V.tail hT _ hm hB h

end Go.Proofs.Ytlldgodjfpgbcaa
