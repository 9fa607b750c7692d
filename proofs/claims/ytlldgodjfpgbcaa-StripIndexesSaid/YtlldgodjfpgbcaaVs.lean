/- All operations of a region, and a region, run by reduction. Nothing is claimed here. -/
import Derived.Test.YtlldgodjfpgbcaaVr
namespace Go.Proofs.Ytlldgodjfpgbcaa
set_option linter.unusedVariables false
set_option linter.unusedSimpArgs false

def cellsL (v : Value) : List Value := match v with
  | .agg cs => cs.toList
  | v => [v]
theorem cellsL_eq (v : Value) : v.cells = (cellsL v).toArray := by cases v <;> simp [Value.cells, cellsL]

def llen {α : Type} : List α → Nat
  | [] => 0
  | _ :: l => Nat.succ (llen l)
theorem llen_eq {α : Type} : ∀ l : List α, llen l = l.length
  | [] => rfl
  | _ :: l => by simp [llen, llen_eq l]

/-- parts number n, n + 1, .., each of that many cells -/
def seqParts (sz : Nat) : Nat → List (Nat × Operand) → List Value → Option (List Value)
  | _, [], [] => some []
  | n, (i, _) :: ps, v :: vs => match Nat.beq i n with
    | true => match Nat.beq (llen (cellsL v)) sz with
      | true => match seqParts sz (n + 1) ps vs with
        | some cs => some (apnd (cellsL v) cs)
        | none => none
      | false => none
    | false => none
  | _, _, _ => none
where apnd : List Value → List Value → List Value
  | [], ys => ys
  | x :: xs, ys => x :: apnd xs ys

def apnd {α : Type} : List α → List α → List α
  | [], ys => ys
  | x :: xs, ys => x :: apnd xs ys
theorem apnd_eq {α : Type} : ∀ l m : List α, apnd l m = l ++ m
  | [], _ => rfl
  | x :: xs, ys => by simp [apnd, apnd_eq xs ys]

def callArgs (fs vs cs : List Value) : List Value := match fs, cs with
  | [], [] => vs
  | fs, cs => apnd fs (apnd vs cs)
theorem callArgs_eq (fs vs cs : List Value) : callArgs fs vs cs = fs ++ (vs ++ cs) := by
  unfold callArgs
  split
  · simp
  · simp [apnd_eq]

def loudB (b : Builtin) (vs : List Value) : Option (Array TypeId → TypeId → Array Value → Sem Value) :=
  match b with
  | .append => some Builtin.append_
  | .copy => some Builtin.copy_
  | .delete => some Builtin.delete_
  | .clear => some Builtin.clear_
  | .len => match vs with
    | [.map (some _)] => some Builtin.len_
    | _ => none
  | _ => none

theorem loudB_run {P : Program} {b : Builtin} {vs : List Value} {s : Array TypeId → TypeId → Array Value → Sem Value} (h : loudB b vs = some s) (ats : Array TypeId) (ty : TypeId) (cs : Array Bool) (args : Array Value) :
    builtin b ats ty cs args = (do pure (.value (← s ats ty args))) := by
  unfold loudB at h
  split at h <;> first
    | (injection h with h; subst h; rfl)
    | (split at h <;> first | (injection h with h; subst h; rfl) | cases h)
    | cases h

/-- shapes of a conversion that reads or makes memory -/
def loudC (T : Tab) (s t : TypeId) : Bool :=
  match look T s, look T t with
  | some ⟨a, _, _, _⟩, some ⟨b, _, _, _⟩ => match a, b with
    | .str, .slice _ => true
    | .slice _, .str => true
    | .slice _, .slice _ => true
    | _, _ => false
  | _, _ => false

/-- a new block -/
structure Nw (w : World) (o : Obj) (K : Nat → World → Prop) : Prop where
  i ::
  o : K w.heap.size (w.alloc o)
theorem Nw.out {w : World} {o : Obj} {K : Nat → World → Prop} (h : Nw w o K) : K w.heap.size (w.alloc o) := h.o
theorem Nw.mk {w : World} {o : Obj} {K : Nat → World → Prop} (h : K w.heap.size (w.alloc o)) : Nw w o K := ⟨h⟩

def opV (P : Program) (T : Tab) (o : Oper) (e : Env) (w : World) (K : Value → World → Prop) : Prop :=
  match o.op with
  | .alloc t => match look T t with
    | some ⟨_, _, _, z⟩ => Nw w (.cells (cellsL z).toArray t) fun b w' => K (.pointer (some ⟨b, 0, none⟩)) w'
    | none => False
  | .box t x => match ov e x with
    | some v => Nw w (.cells (cellsL v).toArray t) fun b w' => K (.pointer (some ⟨b, 0, none⟩)) w'
    | none => False
  | .buildSlice t len parts => match look T t, ovs e (parts.toList.map (·.2)) with
    | some ⟨sh, _, _, _⟩, some vs => match sh with
      | .slice el => Rv P (Instr.buildSlice t len ((parts.toList.map (·.1)).zip vs).toArray) w K
      | _ => False
    | _, _ => False
  | .load t x => match ov e x with
    | some (.pointer (some a)) => Ld P w t a fun v => K v w
    | _ => False
  | .store t x y => match ov e x, ov e y with
    | some (.pointer (some a)), some v => St P w t a v fun w' => K undef w'
    | _, _ => False
  | .makeSlice t l c => match ov e l, ov e c with
    | some l, some c => Rv P (Instr.makeSlice t l c) w K
    | _, _ => False
  | .makeMap t none => Nw w (.map #[] 0) fun b w' => K (.map (some b)) w'
  | .makeMap t (some x) => match ov e x with
    | some v => Rv P (Instr.makeMap t (some v)) w K
    | none => False
  | .lookup t x i ok => match ov e x, ov e i with
    | some u, some v => Rv P (Instr.lookup t u v ok) w K
    | _, _ => False
  | .mapUpdate t m k x | .insert t m k x => match ov e m, ov e k, ov e x with
    | some m, some k, some v => Ru P (Instr.mapUpdate t m k v) w fun w' => K undef w'
    | _, _, _ => False
  | .mapEntry t m k => match ov e m, ov e k with
    | some m, some k => Rv P (Instr.mapEntry t m k) w K
    | _, _ => False
  | .entryStore t m s x => match ov e m, ov e s, ov e x with
    | some m, some s, some v => Ru P (Instr.entryStore t m s v) w fun w' => K undef w'
    | _, _, _ => False
  | .range t x => match ov e x with
    | some v => Rv P (Instr.range t v) w K
    | none => False
  | .next it s => match ov e it with
    | some v => Rv P (Instr.next v s o.type) w K
    | none => False
  | .entry it => match ov e it with
    | some v => Rv P (Instr.entry v) w K
    | none => False
  | .convert s t x => match loudC T s t with
    | true => match ov e x with
      | some v => Rv P (convert s t v) w K
      | none => False
    | false => pureV P T (.convert s t x) e fun v => K v w
  | .call c => match c.callee with
    | .builtin b => match ovs e c.args.toList with
      | some vs => match loudB b vs with
        | some s => Rv P (s c.argTypes o.type vs.toArray) w K
        | none => bpureV T b c.argTypes.toList vs fun v => K v w
      | none => False
    | .value f => match ov e f, ovs e c.args.toList with
      | some (.func (.func id) fs cs), some vs => Fn P id (callArgs fs.toList vs cs.toList).toArray w K
      | _, _ => False
    | .invoke _ _ => False
  | op => pureV P T op e fun v => K v w

theorem Next1.wp {P : Program} {o : Oper} {a : Act} {w : World} {K : Value → World → Prop} {Q : Exit → Act → World → Prop} (h : Next1 P (execOp a.eval o) fun v => K v w) :
    o.wp P a w (fun a' w' => ∃ v, a' = a.put o.dst v ∧ K v w') Q := by
  obtain ⟨v, hv, hk⟩ := h
  unfold Oper.wp
  rw [hv w]
  exact ⟨v, rfl, hk⟩

theorem Rv.wp {P : Program} {o : Oper} {a : Act} {w : World} {K : Value → World → Prop} {Q : Exit → Act → World → Prop} {s : Sem Value} (he : execOp a.eval o = (do pure (.value (← s)))) (h : Rv P s w K) :
    o.wp P a w (fun a' w' => ∃ v, a' = a.put o.dst v ∧ K v w') Q := by
  replace h := h.o
  obtain ⟨v, w', hv, hk⟩ := h
  unfold Oper.wp
  rw [he]
  simp only [Sem.run_bind, hv, Result.andThen_ok, Sem.run_pure]
  exact ⟨v, rfl, hk⟩

theorem Ru.wp {P : Program} {o : Oper} {a : Act} {w : World} {K : Value → World → Prop} {Q : Exit → Act → World → Prop} {s : Sem Unit} (he : execOp a.eval o = (do s; pure .skip)) (h : Ru P s w fun w' => K undef w') :
    o.wp P a w (fun a' w' => ∃ v, a' = a.put o.dst v ∧ K v w') Q := by
  replace h := h.o
  obtain ⟨w', hv, hk⟩ := h
  unfold Oper.wp
  rw [he]
  simp only [Sem.run_bind, hv, Result.andThen_ok, Sem.run_pure]
  exact ⟨undef, rfl, hk⟩

theorem Fn.wp {P : Program} {o : Oper} {a : Act} {w : World} {K : Value → World → Prop} {Q : Exit → Act → World → Prop} {f : FuncId} {args : Array Value} (he : execOp a.eval o = callFunc f args) (h : Fn P f args w K) :
    o.wp P a w (fun a' w' => ∃ v, a' = a.put o.dst v ∧ K v w') Q := by
  replace h := h.o
  obtain ⟨⟨fn, hf, hn, hb⟩, hc⟩ := h
  unfold Oper.wp
  have : (execOp a.eval o).run P w = .ok (.enter f args) w := by
    rw [he]
    simp only [callFunc, Sem.run_bind, run_program, Result.andThen_ok, hf, hn, hb, Bool.false_eq_true, if_false, Sem.run_pure]
  rw [this]
  refine hc.mono fun e w' ⟨v, he, hk⟩ => ?_
  subst he
  exact ⟨v, rfl, hk⟩

set_option maxHeartbeats 1000000 in
theorem opV_wp {P : Program} {T : Tab} (hT : TabOk P T) {N : Nat} {e : Env} {a : Act} (ha : Fits N e a) (o : Oper) {w : World} {K : Value → World → Prop} {Q : Exit → Act → World → Prop}
    (h : opV P T o e w K) : o.wp P a w (fun a' w' => ∃ v, a' = a.put o.dst v ∧ K v w') Q := by
  obtain ⟨dst, op, ty, pos, after, guard⟩ := o
  unfold opV at h
  split at h
  case h_1 =>
    rename_i t hx
    simp only at hx; subst hx
    split at h
    · rename_i _ _ _ z hl
      have hz := (hT _ _ hl).run_zero w
      refine Rv.wp (s := Instr.alloc t true (.tuple #[])) rfl (Rv.mk ?_ h.out)
      simp [Instr.alloc, hz, newVar, newRow, cellsL_eq]
    · exact h.elim
  case h_2 =>
    rename_i t x hx
    simp only at hx; subst hx
    split at h
    · rename_i v hv
      refine Rv.wp (s := Instr.box t (a.eval x)) rfl (Rv.mk ?_ h.out)
      rw [ha.ov hv]
      simp [Instr.box, newVar, newRow, cellsL_eq]
    · exact h.elim
  case h_3 =>
    rename_i t len parts hx
    simp only at hx; subst hx
    split at h
    · rename_i sh _ _ _ vs hl hvs
      have e1 : parts.map (fun p => (p.1, a.eval p.2)) = ((parts.toList.map (·.1)).zip vs).toArray := by
        apply Array.ext'
        simpa using parts_zip ha parts.toList hvs
      split at h
      · exact Rv.wp (by rw [← e1]; rfl) h
      · exact h.elim
    · exact h.elim
  case h_4 =>
    rename_i t x hx
    simp only at hx; subst hx
    split at h
    · rename_i ad hv
      replace h := h.o
      obtain ⟨v, hr, hk⟩ := h
      refine Rv.wp (s := Instr.loadAt t (a.eval x)) rfl (Rv.mk ?_ hk)
      rw [ha.ov hv]
      simp [Instr.loadAt, Instr.sureAddr, hr]
    · exact h.elim
  case h_5 =>
    rename_i t x y hx
    simp only at hx; subst hx
    split at h
    · rename_i ad v hu hv
      replace h := h.o
      obtain ⟨w', hr, hk⟩ := h
      refine Ru.wp (s := Instr.storeAt t (a.eval x) (a.eval y)) rfl (Ru.mk ?_ hk)
      rw [ha.ov hu, ha.ov hv]
      simp [Instr.storeAt, Instr.sureAddr, hr]
    · exact h.elim
  case h_6 =>
    rename_i t l c hx
    simp only at hx; subst hx
    split at h
    · rename_i l' c' hu hv
      exact Rv.wp (by rw [← ha.ov hu, ← ha.ov hv]; rfl) h
    · exact h.elim
  case h_7 =>
    rename_i t hx
    simp only at hx; subst hx
    refine Rv.wp (s := Instr.makeMap t none) rfl (Rv.mk ?_ h.out)
    simp [Instr.makeMap]
  case h_8 =>
    rename_i t x hx
    simp only at hx; subst hx
    split at h
    · rename_i v hv
      exact Rv.wp (by rw [← ha.ov hv]; rfl) h
    · exact h.elim
  case h_9 =>
    rename_i t x i ok hx
    simp only at hx; subst hx
    split at h
    · rename_i u v hu hv
      exact Rv.wp (by rw [← ha.ov hu, ← ha.ov hv]; rfl) h
    · exact h.elim
  case h_10 =>
    rename_i t m k x hx
    simp only at hx; subst hx
    split at h
    · rename_i m' k' v hm hk hv
      exact Ru.wp (by rw [← ha.ov hm, ← ha.ov hk, ← ha.ov hv]; rfl) h
    · exact h.elim
  case h_11 =>
    rename_i t m k x hx
    simp only at hx; subst hx
    split at h
    · rename_i m' k' v hm hk hv
      exact Ru.wp (by rw [← ha.ov hm, ← ha.ov hk, ← ha.ov hv]; rfl) h
    · exact h.elim
  case h_12 =>
    rename_i t m k hx
    simp only at hx; subst hx
    split at h
    · rename_i m' k' hm hk
      exact Rv.wp (by rw [← ha.ov hm, ← ha.ov hk]; rfl) h
    · exact h.elim
  case h_13 =>
    rename_i t m s x hx
    simp only at hx; subst hx
    split at h
    · rename_i m' k' v hm hk hv
      exact Ru.wp (by rw [← ha.ov hm, ← ha.ov hk, ← ha.ov hv]; rfl) h
    · exact h.elim
  case h_14 =>
    rename_i t x hx
    simp only at hx; subst hx
    split at h
    · rename_i v hv
      exact Rv.wp (by rw [← ha.ov hv]; rfl) h
    · exact h.elim
  case h_15 =>
    rename_i it s hx
    simp only at hx; subst hx
    split at h
    · rename_i v hv
      exact Rv.wp (by rw [← ha.ov hv]; rfl) h
    · exact h.elim
  case h_16 =>
    rename_i it hx
    simp only at hx; subst hx
    split at h
    · rename_i v hv
      exact Rv.wp (by rw [← ha.ov hv]; rfl) h
    · exact h.elim
  case h_17 =>
    rename_i s t x hx
    simp only at hx; subst hx
    split at h
    · split at h
      · rename_i v hv
        exact Rv.wp (by rw [← ha.ov hv]; rfl) h
      · exact h.elim
    · exact Next1.wp (pureV_next hT ha ⟨dst, .convert s t x, ty, pos, after, guard⟩ h)
  case h_18 =>
    rename_i c hx
    simp only at hx; subst hx
    obtain ⟨callee, args, ats⟩ := c
    split at h
    · rename_i b hb
      simp only at hb; subst hb
      split at h
      · rename_i vs hvs
        have e1 : args.map a.eval = vs.toArray := by apply Array.ext'; simpa using ha.ovs hvs
        split at h
        · rename_i s hs
          refine Rv.wp ?_ h
          rw [BigFrame.execOp_builtin, e1, loudB_run (P := P) hs]
        · obtain ⟨v, hv, hk⟩ := bpureV_gives hT (ty := ty) (cs := args.map fun | .const _ => true | _ => false) h
          refine Next1.wp ⟨v, fun w => ?_, hk⟩
          rw [BigFrame.execOp_builtin, e1]
          exact hv w
      · exact h.elim
    · rename_i f hb
      simp only at hb; subst hb
      split at h
      · rename_i id fs cs vs hf hvs
        have e1 : args.map a.eval = vs.toArray := by apply Array.ext'; simpa using ha.ovs hvs
        refine Fn.wp ?_ h
        have e2 : (callArgs fs.toList vs cs.toList).toArray = fs ++ args.map a.eval ++ cs := by
          rw [callArgs_eq, e1]
          apply Array.ext'
          simp
        rw [e2]
        simp only [execOp, resolve, ha.ov hf, Deferred.ofValue, invoke, pure_bind]
      · exact h.elim
    · exact h.elim
  case h_19 => exact Next1.wp (pureV_next hT ha ⟨dst, op, ty, pos, after, guard⟩ h)

end Go.Proofs.Ytlldgodjfpgbcaa
