/- Regions and code over partial frames. Nothing is claimed here. -/
import Derived.Test.YtlldgodjfpgbcaaVs
import Derived.Deep.LoopGhost
namespace Go.Proofs.Ytlldgodjfpgbcaa
set_option linter.unusedVariables false
set_option linter.unusedSimpArgs false

/-! ### A region in the order of the text -/
def putV (N : Nat) (dst : Option Nat) (v : Value) (e : Env) (K : Env → Prop) : Prop := match dst with
  | none => K e
  | some d => match Nat.blt d N with
    | true => K ((d, v) :: e)
    | false => False

def guardSlot (all : List Oper) (j : Nat) : Option Nat := match lget all j with
  | some o => o.dst
  | none => none

/-- what is done where the guard says yes, what where it says no -/
def guardV (all : List Oper) (g : Option (Nat × Bool)) (e : Env) (yes no : Env → Prop) : Prop :=
  match g with
  | none => yes e
  | some (j, want) => match guardSlot all j with
    | some d => match look e d with
      | some (.bool b) => match want with
        | true => Br b (yes ((d, .bool true) :: e)) (no ((d, .bool false) :: e))
        | false => Br b (no ((d, .bool true) :: e)) (yes ((d, .bool false) :: e))
      | some (.tuple _) => no e
      | _ => False
    | none => False

def stepV (P : Program) (T : Tab) (N : Nat) (all : List Oper) (o : Oper) (e : Env) (w : World) (K : Env → World → Prop) : Prop :=
  guardV all o.guard e (fun e => opV P T o e w fun v w' => putV N o.dst v e fun e' => K e' w') (fun e => putV N o.dst undef e fun e' => K e' w)

def runV (P : Program) (T : Tab) (N : Nat) (all : List Oper) : List Oper → Env → World → (Env → World → Prop) → Prop
  | [], e, w, K => K e w
  | o :: rest, e, w, K => stepV P T N all o e w fun e' w' => runV P T N all rest e' w' K

theorem putV_fits {N : Nat} {dst : Option Nat} {v : Value} {e : Env} {K : Env → Prop} {a : Act} (ha : Fits N e a) (h : putV N dst v e K) : ∃ e', Fits N e' (a.put dst v) ∧ K e' := by
  unfold putV at h
  split at h
  · exact ⟨e, ha, h⟩
  · rename_i d
    split at h
    · rename_i hd
      exact ⟨_, ha.put (show d < N from by simpa using hd) v, h⟩
    · exact h.elim

theorem Fits.again {N : Nat} {e : Env} {a : Act} (ha : Fits N e a) {d : Nat} {v : Value} (h : look e d = some v) : Fits N ((d, v) :: e) a :=
  ⟨ha.defers, ha.size, fun j u hj => by
    rw [look_cons] at hj
    by_cases hdj : d = j
    · subst hdj
      rw [if_pos rfl] at hj
      injection hj with hj
      subst hj
      exact ha.get _ _ h
    · rw [if_neg hdj] at hj
      exact ha.get j u hj⟩

theorem guardV_wanted {all : List Oper} {o : Oper} {e : Env} {N : Nat} {a : Act} (ha : Fits N e a) {yes no : Env → Prop} (h : guardV all o.guard e yes no) :
    (Region.wanted o (yielded all.toArray a.tmps) = true ∧ ∃ e', Fits N e' a ∧ yes e') ∨ (Region.wanted o (yielded all.toArray a.tmps) = false ∧ ∃ e', Fits N e' a ∧ no e') := by
  unfold guardV at h
  split at h
  · rename_i hg
    exact .inl ⟨by simp [Region.wanted, hg], e, ha, h⟩
  · rename_i j want hg
    split at h
    case h_2 => exact h.elim
    rename_i d hd
    unfold guardSlot at hd
    split at hd
    case h_2 => cases hd
    rename_i oj hoj
    rw [lget_eq] at hoj
    have hop : ((all.toArray[j]?).bind (·.dst)) = some d := by simp [hoj, hd]
    split at h
    · rename_i b hb
      have hv := ha.get _ _ hb
      have hy : yielded all.toArray a.tmps j = some b := by
        unfold yielded
        rw [hop]
        simp only [Option.bind_some]
        cases ht : a.tmps[d]? with
        | none => simp [ht, undef] at hv
        | some u =>
          have : u = .bool b := by simpa [ht] using hv
          simp [this]
      have yesT : b = true → Fits N ((d, .bool true) :: e) a := fun hbt => ha.again (by rw [hb, hbt])
      have noT : b = false → Fits N ((d, .bool false) :: e) a := fun hbf => ha.again (by rw [hb, hbf])
      split at h
      · have h' := h.out
        cases hbv : b with
        | true => exact .inl ⟨by simp [Region.wanted, hg, hy, hbv], _, yesT hbv, h'.1 hbv⟩
        | false => exact .inr ⟨by simp [Region.wanted, hg, hy, hbv], _, noT hbv, h'.2 hbv⟩
      · have h' := h.out
        cases hbv : b with
        | true => exact .inr ⟨by simp [Region.wanted, hg, hy, hbv], _, yesT hbv, h'.1 hbv⟩
        | false => exact .inl ⟨by simp [Region.wanted, hg, hy, hbv], _, noT hbv, h'.2 hbv⟩
    · rename_i vs hb
      have hv := ha.get _ _ hb
      refine .inr ⟨?_, e, ha, h⟩
      have hy : yielded all.toArray a.tmps j = none := by
        unfold yielded
        rw [hop]
        simp only [Option.bind_some]
        cases ht : a.tmps[d]? with
        | none => rfl
        | some u =>
          have : u = .tuple vs := by simpa [ht] using hv
          simp [this]
      simp [Region.wanted, hg, hy]
    · exact h.elim

theorem runV_list {P : Program} {T : Tab} (hT : TabOk P T) {N : Nat} {all : List Oper} {Q : Exit → Act → World → Prop} {K : Env → World → Prop}
    (hQ : ∀ e a w, Fits N e a → K e w → Q .normal a w) : ∀ (l : List Oper) (e : Env) (a : Act) (w : World), Fits N e a → runV P T N all l e w K → wpList P all.toArray Q l a w
  | [], e, a, w, ha, h => hQ e a w ha h
  | o :: l, e, a, w, ha, h => by
    simp only [runV, stepV] at h
    unfold wpList
    rcases guardV_wanted ha h with ⟨hw, e', ha', h'⟩ | ⟨hw, e', ha', h'⟩
    · rw [if_pos hw]
      refine .inl ?_
      refine Oper.wp_mono (fun a' w' ⟨v, he, hk⟩ => ?_) (opV_wp hT ha' o h')
      subst he
      obtain ⟨e2, ha2, hk2⟩ := putV_fits ha' hk
      exact runV_list hT hQ l e2 _ w' ha2 hk2
    · rw [if_neg (by simp [hw])]
      obtain ⟨e2, ha2, hk2⟩ := putV_fits ha' h'
      exact runV_list hT hQ l e2 _ w ha2 hk2

/-! ### Code -/
structure V (P : Program) (N : Nat) (c : Code) (Q : Exit → Env → World → Prop) (e : Env) (w : World) : Prop where
  i ::
  o :
  ∀ a, Fits N e a → c.wp P (fun x a' w' => ∃ e', Fits N e' a' ∧ Q x e' w') a w

theorem V.mk {P : Program} {N : Nat} {c : Code} {Q : Exit → Env → World → Prop} {e : Env} {w : World} (h : ∀ a, Fits N e a → c.wp P (fun x a' w' => ∃ e', Fits N e' a' ∧ Q x e' w') a w) : V P N c Q e w := ⟨h⟩
theorem V.out {P : Program} {N : Nat} {c : Code} {Q : Exit → Env → World → Prop} {e : Env} {w : World} (h : V P N c Q e w) : ∀ a, Fits N e a → c.wp P (fun x a' w' => ∃ e', Fits N e' a' ∧ Q x e' w') a w := h.o
theorem V.mono {P : Program} {N : Nat} {c : Code} {Q Q' : Exit → Env → World → Prop} {e : Env} {w : World} (h : V P N c Q e w) (hq : ∀ x e w, Q x e w → Q' x e w) : V P N c Q' e w :=
  .mk fun a ha => wp_mono (h.out a ha) fun x a' w' ⟨e', hf, hx⟩ => ⟨e', hf, hq _ _ _ hx⟩
/-- what is known of the frame may be forgotten -/
theorem V.sub {P : Program} {N : Nat} {c : Code} {Q : Exit → Env → World → Prop} {e e' : Env} {w : World} (h : V P N c Q e' w) (hs : Sub e' e) : V P N c Q e w :=
  .mk fun a ha => h.out a (ha.sub hs)

def sq (P : Program) (N : Nat) (b : Code) (Q : Exit → Env → World → Prop) : Exit → Env → World → Prop := fun x e w => match x with
  | .normal => V P N b Q e w
  | x => Q x e w
def bq (id : Nat) (Q : Exit → Env → World → Prop) : Exit → Env → World → Prop := fun x e w => match x with
  | .exit id' => match Nat.beq id' id with
    | true => Q .normal e w
    | false => Q (.exit id') e w
  | x => Q x e w

/-- one statement -/
def W (P : Program) (T : Tab) (N : Nat) (c : Code) (Q : Exit → Env → World → Prop) (e : Env) (w : World) : Prop :=
  match c with
  | .skip => Q .normal e w
  | .region _ ops draw => match draw with
    | false => runV P T N ops.toList ops.toList e w fun e' w' => Q .normal e' w'
    | true => False
  | .seq a b => V P N a (sq P N b Q) e w
  | .cond c x y => match ov e c with
    | some (.bool b) => Br b (V P N x Q e w) (V P N y Q e w)
    | _ => False
  | .block id c => V P N c (bq id Q) e w
  | .exit id => Q (.exit id) e w
  | .ret => Q .ret e w
  | .label _ => Q .normal e w
  | _ => False

theorem V.step {P : Program} {T : Tab} (hT : TabOk P T) {N : Nat} {c : Code} {Q : Exit → Env → World → Prop} {e : Env} {w : World} (h : W P T N c Q e w) : V P N c Q e w := by
  refine .mk fun a ha => ?_
  unfold W at h
  split at h
  · exact wp_skip ⟨e, ha, h⟩
  · rename_i id ops draw
    split at h
    · refine wp_region_list ?_
      have := runV_list hT (N := N) (all := ops.toList) (Q := fun x a' w' => ∃ e', Fits N e' a' ∧ Q x e' w') (K := fun e' w' => Q .normal e' w') (fun e a w hf hk => ⟨e, hf, hk⟩) ops.toList e a w ha h
      simpa using this
    · exact h.elim
  · refine wp_seq (wp_mono (h.out a ha) fun x a' w' ⟨e', hf, hx⟩ => ?_)
    cases x <;> first
      | exact hx.out _ hf
      | exact ⟨e', hf, hx⟩
  · split at h
    · rename_i b hb
      have h' := h.out
      exact wp_cond_split (ha.ov hb) (fun ht => (h'.1 ht).out a ha) (fun hf => (h'.2 hf).out a ha)
    · exact h.elim
  · rename_i id c
    refine wp_block (wp_mono (h.out a ha) fun x a' w' ⟨e', hf, hx⟩ => ?_)
    cases x with
    | exit id' =>
      simp only [bq] at hx
      simp only [Exit.inBlock]
      by_cases hid : id' = id
      · subst hid
        rw [if_pos rfl]
        simp only [Nat.beq_refl] at hx
        exact ⟨e', hf, hx⟩
      · rw [if_neg hid]
        have : Nat.beq id' id = false := by
          cases hb : Nat.beq id' id
          · rfl
          · exact absurd (Nat.eq_of_beq_eq_true hb) hid
        rw [this] at hx
        exact ⟨e', hf, hx⟩
    | _ => exact ⟨e', hf, hx⟩
  · exact wp_exit ⟨e, ha, h⟩
  · exact wp_ret ⟨e, ha, h⟩
  · exact wp_label ⟨e, ha, h⟩
  · exact h.elim

section
variable {P : Program} {T : Tab} {N : Nat} {Q : Exit → Env → World → Prop} {e : Env} {w : World}
theorem V.seq {a b : Code} (h : V P N a (sq P N b Q) e w) : V P N (.seq a b) Q e w :=
  .mk fun x hx => wp_seq (wp_mono (h.out x hx) fun x a' w' ⟨e', hf, hx⟩ => by
    cases x <;> first
      | exact hx.out _ hf
      | exact ⟨e', hf, hx⟩)
theorem V.reg (hT : TabOk P T) {id : Nat} {ops : Array Oper} (h : runV P T N ops.toList ops.toList e w fun e' w' => Q .normal e' w') : V P N (.region id ops false) Q e w := V.step hT h
theorem V.cnd {c : Operand} {x y : Code} {b : Bool} (hc : ov e c = some (.bool b)) (h : Br b (V P N x Q e w) (V P N y Q e w)) : V P N (.cond c x y) Q e w :=
  V.step (T := []) tabOk_nil (by unfold W; simp only [hc]; exact h)
theorem V.blk {id : Nat} {c : Code} (h : V P N c (bq id Q) e w) : V P N (.block id c) Q e w := V.step (T := []) tabOk_nil h
theorem V.ext {id : Nat} (h : Q (.exit id) e w) : V P N (.exit id) Q e w := V.step (T := []) tabOk_nil h
theorem V.rt (h : Q .ret e w) : V P N .ret Q e w := V.step (T := []) tabOk_nil h
theorem V.skp (h : Q .normal e w) : V P N .skip Q e w := V.step (T := []) tabOk_nil h
theorem V.lab {l : Nat} (h : Q .normal e w) : V P N (.label l) Q e w := V.step (T := []) tabOk_nil h
end

/-! ### Loops; ways that meet again -/
def lq {α : Type} (E : α → Env) (I : α → World → Prop) (μ : α → Nat) (z : α) (Q : Exit → Env → World → Prop) : Exit → Env → World → Prop := fun x e' w' => match x with
  | .normal => ∃ z', subL (E z') e' ∧ I z' w' ∧ μ z' < μ z
  | x => Q x e' w'

/-- a loop: what holds at each round's head, with names for what the frame holds there; a number that each round lowers -/
theorem V.loop {P : Program} {N : Nat} {c : Code} {Q : Exit → Env → World → Prop} {e : Env} {w : World} {α : Type} (E : α → Env) (I : α → World → Prop) (μ : α → Nat) (z0 : α)
    (h0 : subL (E z0) e) (hI : I z0 w) (round : ∀ z w, I z w → V P N c (lq E I μ z Q) (E z) w) : V P N (.loop c) Q e w := by
  refine .mk fun a ha => ?_
  refine wp_loop_ghost (fun n a' w' => ∃ z, Fits N (E z) a' ∧ I z w' ∧ μ z = n) (μ z0) ⟨z0, ha.sub h0.sub, hI, rfl⟩ ?_
  rintro n a' w' ⟨z, hf, hz, rfl⟩
  refine wp_mono ((round z w' hz).out a' hf) fun x a2 w2 ⟨e', hf', hx⟩ => ?_
  cases x with
  | normal =>
    obtain ⟨z', hs, hI', hlt⟩ := hx
    exact ⟨_, hlt, z', hf'.sub hs.sub, hI', rfl⟩
  | _ => exact ⟨e', hf', hx⟩

def jq {α : Type} (E : α → Env) (I : α → World → Prop) (Q : Exit → Env → World → Prop) : Exit → Env → World → Prop := fun x e' w' => match x with
  | .normal => ∃ z, subL (E z) e' ∧ I z w'
  | x => Q x e' w'

/-- a statement behind which all ways meet: what is known there -/
theorem V.seqJoin {P : Program} {N : Nat} {a b : Code} {Q : Exit → Env → World → Prop} {e : Env} {w : World} {α : Type} (E : α → Env) (I : α → World → Prop)
    (h : V P N a (jq E I Q) e w) (h' : ∀ z w, I z w → V P N b Q (E z) w) : V P N (.seq a b) Q e w := by
  refine .mk fun a ha => wp_seq (wp_mono (h.out a ha) fun x a' w' ⟨e', hf, hx⟩ => ?_)
  cases x with
  | normal =>
    obtain ⟨z, hs, hI⟩ := hx
    exact (h' z w' hI).out _ (hf.sub hs.sub)
  | _ => exact ⟨e', hf, hx⟩

/-- the same at a statement that has been reached already -/
theorem V.join {P : Program} {N : Nat} {a b : Code} {Q : Exit → Env → World → Prop} {e : Env} {w : World} {α : Type} (E : α → Env) (I : α → World → Prop)
    (h : V P N a (jq E I Q) e w) (h' : ∀ z w, I z w → V P N b Q (E z) w) : V P N a (sq P N b Q) e w := by
  refine h.mono fun x e w hx => ?_
  cases x with
  | normal =>
    obtain ⟨z, hs, hI⟩ := hx
    exact (h' z w hI).sub hs.sub
  | _ => exact hx

/-! ### A function -/
/-- what is handed back -/
def resV (P : Program) (e : Env) (w : World) : List ResultVar → (List Value → Prop) → Prop
  | [], K => K []
  | .tmp t :: rs, K => match look e t with
    | some v => resV P e w rs fun vs => K (v :: vs)
    | none => False
  | .cell t ty :: rs, K => match look e t with
    | some (.pointer (some a)) => Ld P w ty a fun v => resV P e w rs fun vs => K (v :: vs)
    | _ => False

def retV (P : Program) (rs : List ResultVar) (R : Value → World → Prop) (e : Env) (w : World) : Prop :=
  resV P e w rs fun vs => match vs with
    | [v] => R v w
    | vs => R (.tuple vs.toArray) w

def rq (P : Program) (rs : List ResultVar) (R : Value → World → Prop) : Exit → Env → World → Prop := fun x e w => match x with
  | .normal => retV P rs R e w
  | .ret => retV P rs R e w
  | _ => False

def argE : Nat → List Value → Env
  | _, [] => []
  | n, v :: vs => (n, v) :: argE (n + 1) vs

theorem argE_look : ∀ (vs : List Value) (n j : Nat) (v : Value), look (argE n vs) j = some v → n ≤ j ∧ vs[j - n]? = some v
  | [], _, _, _, h => by simp [argE, look] at h
  | u :: vs, n, j, v, h => by
    simp only [argE, look_cons] at h
    by_cases hn : n = j
    · subst hn
      rw [if_pos rfl] at h
      simpa using h
    · rw [if_neg hn] at h
      have := argE_look vs (n + 1) j v h
      refine ⟨by omega, ?_⟩
      rw [show j - n = (j - (n + 1)) + 1 from by omega]
      simpa using this.2

def resOf (tmps : Array Value) : ResultVar → Sem Value
  | .tmp t => pure (tmps.getD t undef)
  | .cell c t => do loadVar t (← asAddr (tmps.getD c undef))

theorem resV_run {P : Program} {e : Env} {w : World} {N : Nat} {a : Act} (ha : Fits N e a) : ∀ (rs : List ResultVar) {K : List Value → Prop}, resV P e w rs K →
    ∃ vs, (rs.mapM (resOf a.tmps)).run P w = .ok vs w ∧ K vs
  | [], K, h => ⟨[], by simp, h⟩
  | .tmp t :: rs, K, h => by
    simp only [resV] at h
    split at h
    · rename_i v hv
      obtain ⟨vs, hr, hk⟩ := resV_run ha rs h
      refine ⟨v :: vs, ?_, hk⟩
      have h1 : (resOf a.tmps (.tmp t)).run P w = .ok v w := by rw [← ha.get _ _ hv]; rfl
      rw [List.mapM_cons]
      simp only [Sem.run_bind, h1, Sem.run_pure, Result.andThen_ok, hr]
    · exact h.elim
  | .cell t ty :: rs, K, h => by
    simp only [resV] at h
    split at h
    · rename_i ad hv
      replace h := h.o
      obtain ⟨v, hl, h⟩ := h
      obtain ⟨vs, hr, hk⟩ := resV_run ha rs h
      refine ⟨v :: vs, ?_, hk⟩
      have h1 : (resOf a.tmps (.cell t ty)).run P w = .ok v w := by
        unfold resOf
        simp only [ha.get _ _ hv]
        exact hl
      rw [List.mapM_cons]
      simp only [Sem.run_bind, h1, Sem.run_pure, Result.andThen_ok, hr]
    · exact h.elim

theorem retV_run {P : Program} {e : Env} {w : World} {N : Nat} {a : Act} (ha : Fits N e a) {fn : Func} {R : Value → World → Prop} (h : retV P fn.results.toList R e w) :
    ∃ v, (results fn a.tmps).run P w = .ok v w ∧ R v w := by
  obtain ⟨vs, hr, hk⟩ := resV_run ha _ h
  have hres : (results fn a.tmps) = (do let vs ← fn.results.mapM (resOf a.tmps); pure (if h : vs.size = 1 then vs[0] else .tuple vs)) := by
    unfold results
    congr 1
  rw [hres, Array.mapM_eq_mapM_toList]
  refine ⟨if h : vs.toArray.size = 1 then vs.toArray[0] else .tuple vs.toArray, ?_, ?_⟩
  · simp only [Sem.run_bind, Sem.run_map, hr, Result.andThen_ok, Sem.run_pure]
  · match vs, hk with
    | [], hk => simpa using hk
    | [v], hk => simpa using hk
    | v :: u :: vs, hk => simpa using hk

theorem Fn.mk {P : Program} {f : FuncId} {fn : Func} {c : Code} {args : List Value} {w : World} {R : Value → World → Prop} (hf : P.funcs[f]? = some fn) (hb : fn.body = some c)
    (hn : (fn.name == "runtime.NumGoroutine") = false) {n : Nat} (ht : fn.ntmps = n) (hl : Nat.ble (llen args) n = true) {rs : List ResultVar} (hrs : fn.results.toList = rs)
    (h : V P n c (rq P rs R) (argE 0 args) w) : Fn P f args.toArray w R := by
  refine ⟨⟨fn, hf, hn, by simp [hb]⟩, calls_of_wp hf hb ?_⟩
  have ha : Fits n (argE 0 args) { tmps := args.toArray ++ Array.replicate (fn.ntmps - args.toArray.size) undef, defers := [] } := by
    have hl' : args.length ≤ n := by rw [← llen_eq]; exact Nat.le_of_ble_eq_true hl
    refine ⟨rfl, by simp [ht]; omega, fun j v hj => ?_⟩
    have := (argE_look args 0 j v hj).2
    simp only [Nat.sub_zero] at this
    have hlt := (List.getElem?_eq_some_iff.1 this).1
    simp only [Array.getD_eq_getD_getElem?]
    rw [Array.getElem?_append_left (by simpa using hlt)]
    simp [this]
  refine wp_mono (h.out _ ha) fun x a' w' ⟨e', hf', hx⟩ => ?_
  subst hrs
  cases x with
  | normal =>
    obtain ⟨v, hr, hk⟩ := retV_run hf' hx
    exact ⟨hf'.defers, v, hr, v, rfl, hk⟩
  | ret =>
    obtain ⟨v, hr, hk⟩ := retV_run hf' hx
    exact ⟨hf'.defers, v, hr, v, rfl, hk⟩
  | _ => exact hx.elim

theorem Fn.calls {P : Program} {f : FuncId} {args : Array Value} {w : World} {R : Value → World → Prop} (h : Fn P f args w R) : Calls P f args w fun e w' => ∃ v, e = .returned v ∧ R v w' := by
  exact h.o.2
theorem Fn.mono {P : Program} {f : FuncId} {args : Array Value} {w : World} {R R' : Value → World → Prop} (h : Fn P f args w R) (hr : ∀ v w', R v w' → R' v w') : Fn P f args w R' := by
  exact ⟨h.o.1, h.o.2.mono fun e w' ⟨v, he, hk⟩ => ⟨v, he, hr _ _ hk⟩⟩

end Go.Proofs.Ytlldgodjfpgbcaa
