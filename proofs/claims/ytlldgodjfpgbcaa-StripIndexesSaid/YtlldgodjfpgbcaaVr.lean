/- Operations of a region that leave the world alone: that the reduction is sound. Nothing is claimed here. -/
import Derived.Test.YtlldgodjfpgbcaaVq
namespace Go.Proofs.Ytlldgodjfpgbcaa
set_option linter.unusedVariables false
set_option linter.unusedSimpArgs false

theorem parts_zip {N : Nat} {e : Env} {a : Act} (ha : Fits N e a) : ∀ (l : List (Nat × Operand)) {vs : List Value}, ovs e (l.map (·.2)) = some vs → l.map (fun p => (p.1, a.eval p.2)) = (l.map (·.1)).zip vs
  | [], vs, h => by simp
  | p :: l, vs, h => by
    simp only [List.map_cons, ovs] at h
    split at h
    · rename_i v hv
      split at h
      · rename_i us hus
        injection h with h
        subst h
        simp only [List.map_cons, List.zip_cons_cons, parts_zip ha l hus, ha.ov hv]
      · cases h
    · cases h

/-- an operation gives the value v in every world -/
def Next1 (P : Program) (s : Sem Next) (K : Value → Prop) : Prop := ∃ v, (∀ w, s.run P w = .ok (.value v) w) ∧ K v
theorem Next1.of {P : Program} {s : Sem Value} {K : Value → Prop} (h : Gives P s K) : Next1 P (do pure (.value (← s))) K := by
  obtain ⟨v, hv, hk⟩ := h
  exact ⟨v, fun w => by simp [hv], hk⟩

set_option maxHeartbeats 1000000 in
theorem pureV_next {P : Program} {T : Tab} (hT : TabOk P T) {N : Nat} {e : Env} {a : Act} (ha : Fits N e a) (o : Oper) {K : Value → Prop} (h : pureV P T o.op e K) : Next1 P (execOp a.eval o) K := by
  obtain ⟨dst, op, ty, pos, after, guard⟩ := o
  unfold pureV at h
  split at h
  case h_1 =>
    rename_i x hx
    simp only at hx; subst hx
    split at h
    · rename_i v hv
      exact ⟨v, fun w => by simp [execOp, ha.ov hv], h⟩
    · exact h.elim
  case h_2 =>
    rename_i x hx
    simp only at hx; subst hx
    split at h
    · rename_i v hv
      exact ⟨v, fun w => by simp [execOp, ha.ov hv], h⟩
    · exact h.elim
  case h_3 =>
    rename_i c x y hx
    simp only at hx; subst hx
    split at h
    · rename_i b hb
      split at h
      · split at h
        · rename_i v hv
          exact ⟨v, fun w => by simp [execOp, asBool, ha.ov hv, ha.ov hb], h⟩
        · exact h.elim
      · split at h
        · rename_i v hv
          exact ⟨v, fun w => by simp [execOp, asBool, ha.ov hv, ha.ov hb], h⟩
        · exact h.elim
    · exact h.elim
  case h_4 =>
    rename_i op t x y t' hx
    simp only at hx; subst hx
    split at h
    · rename_i _ a' b' hl hu hv
      split at h
      · obtain ⟨r, hr, hg, hk⟩ := h.o
        refine ⟨.bool r, fun w => ?_, hk⟩
        simp [execOp, ha.ov hu, ha.ov hv, eqGuard, hg, binOp, hr w]
      · obtain ⟨r, hr, hg, hk⟩ := h.o
        refine ⟨.bool (!r), fun w => ?_, hk⟩
        simp [execOp, ha.ov hu, ha.ov hv, eqGuard, hg, binOp, hr w]
      · exact h.elim
    · rename_i sh _ _ _ u v _ hl hu hv
      have := binV_gives (P := P) (t := t) (hT _ _ hl).sh x y h
      refine Next1.of (s := do eqGuard op t x y (a.eval x) (a.eval y); binOp op t (a.eval x) (a.eval y)) ?_
      rw [ha.ov hu, ha.ov hv]
      exact this
    · exact h.elim
  case h_5 =>
    rename_i op t x hx
    simp only at hx; subst hx
    refine Next1.of (s := Op.unary op (a.eval x)) ?_
    split at h
    · rename_i k n hn
      rw [ha.ov hn]
      split at h
      · exact .of_eq (by simp [Op.unary, Op.intArith]) h.out
      · exact .of_eq (by simp [Op.unary, Op.intBits, bits]) h.out
      · exact h.elim
    · rename_i b hb
      rw [ha.ov hb]
      split at h
      · exact .of_eq (by simp [Op.unary]) h
      · exact h.elim
    · exact h.elim
  case h_6 =>
    rename_i s t x hx
    simp only at hx; subst hx
    refine Next1.of (s := convert s t (a.eval x)) ?_
    split at h
    · rename_i ds sh _ _ _ v hs ht hv
      rw [ha.ov hv]
      obtain ⟨us, hus, _⟩ := shOf_cases hT hs
      obtain ⟨ut, hut, het⟩ := shOf_cases hT ht
      split at h
      · cases ut <;> simp only [shOf, reduceCtorEq, Sh.int.injEq] at het
        subst het
        refine ⟨_, fun w => ?_, h.out⟩
        simp [convert, run_underlying hus, run_underlying hut, Conv.intToInt]
      · cases ut <;> simp only [shOf, reduceCtorEq] at het
        refine ⟨_, fun w => ?_, h⟩
        simp [convert, run_underlying hus, run_underlying hut]
      · exact h.elim
    · exact h.elim
  case h_7 =>
    rename_i x i hx
    simp only at hx; subst hx
    refine Next1.of (s := Instr.extract (a.eval x) i) ?_
    split at h
    · rename_i vs hvs
      rw [ha.ov hvs]
      split at h
      · rename_i v hv
        rw [lget_eq] at hv
        exact .of_eq (by simp [Instr.extract, show vs[i]? = some v by simpa using hv]) h
      · exact h.elim
    · exact h.elim
  case h_8 =>
    rename_i t x f hx
    simp only at hx; subst hx
    refine Next1.of (s := Instr.field t (a.eval x) f) ?_
    split at h
    · rename_i sh _ _ _ cs hl hcs
      rw [ha.ov hcs]
      obtain ⟨u, hu, hs⟩ := shOf_cases hT hl
      split at h
      · rename_i fs
        cases u <;> simp only [shOf, reduceCtorEq, Sh.struct.injEq] at hs
        rename_i fields
        split at h
        · rename_i off ft hf
          rw [lget_eq, ← hs] at hf
          simp only [List.getElem?_map, Option.map_eq_some_iff] at hf
          obtain ⟨fd, hfd, hfe⟩ := hf
          injection hfe with h1 h2
          subst h1; subst h2
          obtain ⟨v, hv, hk⟩ := partV_gives hT h
          refine ⟨v, fun w => ?_, hk⟩
          have hfd' : fields[f]? = some fd := by simpa using hfd
          simp [Instr.field, run_underlying hu, hfd', asAgg, hv]
        · exact h.elim
      · exact h.elim
    · exact h.elim
  case h_9 =>
    rename_i t x f hx
    simp only at hx; subst hx
    refine Next1.of (s := Instr.fieldAt t (a.eval x) f) ?_
    split at h
    · rename_i sh _ _ _ b o hl hcs
      rw [ha.ov hcs]
      obtain ⟨u, hu, hs⟩ := shOf_cases hT hl
      split at h
      · rename_i fs
        cases u <;> simp only [shOf, reduceCtorEq, Sh.struct.injEq] at hs
        rename_i fields
        split at h
        · rename_i off ft hf
          rw [lget_eq, ← hs] at hf
          simp only [List.getElem?_map, Option.map_eq_some_iff] at hf
          obtain ⟨fd, hfd, hfe⟩ := hf
          injection hfe with h1 h2
          subst h1; subst h2
          have hfd' : fields[f]? = some fd := by simpa using hfd
          split at h
          · rename_i _ sz _ _ hft
            split at h
            · exact h.elim
            · refine ⟨_, fun w => ?_, h⟩
              have hz := (hT _ _ hft).run_size w
              simp [Instr.fieldAt, run_underlying hu, hfd', Instr.sureAddr, fieldPlace, hz, Addr.add_lit]
          · exact h.elim
        · exact h.elim
      · exact h.elim
    · exact h.elim
  case h_10 =>
    rename_i t x i hx
    simp only at hx; subst hx
    refine Next1.of (s := Instr.indexAt t (a.eval x) (a.eval i)) ?_
    split at h
    · rename_i sh _ _ _ v k j hl hv hj
      rw [ha.ov hv, ha.ov hj]
      obtain ⟨u, hu, hs⟩ := shOf_cases hT hl
      split at h
      · rename_i el b o n c
        cases u <;> simp only [shOf, reduceCtorEq, Sh.slice.injEq] at hs
        subst hs
        split at h
        · rename_i _ sz _ _ hel
          obtain ⟨⟨h0, h1⟩, hk⟩ := h.out
          refine ⟨_, fun w => ?_, hk (o + j.toNat * sz) (by rw [Int.natCast_add, Int.natCast_mul, show ((j.toNat : Nat) : Int) = j from by omega])⟩
          have hz := (hT _ _ hel).run_size w
          simp [Instr.indexAt, asIntOf, run_underlying hu, h0, h1, hz, Addr.add_lit]
        · exact h.elim
      · rename_i n el b o
        cases u <;> simp only [shOf, reduceCtorEq, Sh.array.injEq] at hs
        obtain ⟨rfl, rfl⟩ := hs
        split at h
        · rename_i _ sz _ _ hel
          obtain ⟨⟨h0, h1⟩, hk⟩ := h.out
          refine ⟨_, fun w => ?_, hk (o + j.toNat * sz) (by rw [Int.natCast_add, Int.natCast_mul, show ((j.toNat : Nat) : Int) = j from by omega])⟩
          have hz := (hT _ _ hel).run_size w
          simp [Instr.indexAt, asIntOf, run_underlying hu, h0, h1, hz, Addr.add_lit, Instr.sureAddr]
        · exact h.elim
      · exact h.elim
    · exact h.elim
  case h_11 =>
    rename_i t x i hx
    simp only at hx; subst hx
    refine Next1.of (s := Instr.index t (a.eval x) (a.eval i)) ?_
    split at h
    · rename_i sh _ _ _ v k j hl hv hj
      rw [ha.ov hv, ha.ov hj]
      obtain ⟨u, hu, hs⟩ := shOf_cases hT hl
      split at h
      · rename_i s
        cases u <;> simp only [shOf, reduceCtorEq] at hs
        obtain ⟨⟨h0, h1⟩, hk⟩ := h.out
        have hlt : j.toNat < s.size := by omega
        have hlt' : j.toNat < s.data.toList.length := by simpa using hlt
        refine ⟨_, fun w => ?_, hk s[j.toNat] (by rw [List.getElem?_eq_getElem hlt']; rfl)⟩
        simp [Instr.index, asIntOf, run_underlying hu, h0, hlt]
      · rename_i n el cs
        cases u <;> simp only [shOf, reduceCtorEq, Sh.array.injEq] at hs
        obtain ⟨rfl, rfl⟩ := hs
        split at h
        · rename_i _ sz _ _ hel
          obtain ⟨⟨h0, h1⟩, hk⟩ := h.out
          obtain ⟨v, hv, hk⟩ := partV_gives hT hk
          refine ⟨v, fun w => ?_, hk⟩
          have hz := (hT _ _ hel).run_size w
          simp [Instr.index, asIntOf, run_underlying hu, h0, h1, hz, hv]
        · exact h.elim
      · exact h.elim
    · exact h.elim
  case h_12 =>
    rename_i t x lo hi mx hx
    simp only at hx; subst hx
    split at h
    · rename_i v hv
      refine Next1.of (s := Instr.sliceAt t (a.eval x) (lo.map a.eval) (hi.map a.eval) (mx.map a.eval)) ?_
      rw [ha.ov hv]
      split at h
      · exact h.elim
      · rename_i hno
        refine sliceV_gives hT ha (fun hhi => ?_) h
        cases mx with
        | none => rfl
        | some m => exact (hno m hhi rfl).elim
    · exact h.elim
  case h_13 =>
    rename_i x hx
    simp only at hx; subst hx
    split at h
    · rename_i ad hv
      exact ⟨_, fun w => by simp [execOp, ha.ov hv], h⟩
    · rename_i f u v hv
      exact ⟨_, fun w => by simp [execOp, ha.ov hv], h⟩
    · exact h.elim
  case h_14 =>
    rename_i fn xs ys hx
    simp only at hx; subst hx
    split at h
    · rename_i us vs hu hv
      refine ⟨_, fun w => ?_, h⟩
      have e1 : xs.map a.eval = us.toArray := by apply Array.ext'; simpa using ha.ovs hu
      have e2 : ys.map a.eval = vs.toArray := by apply Array.ext'; simpa using ha.ovs hv
      simp [execOp, Instr.makeFunc, e1, e2]
    · exact h.elim
  case h_15 =>
    rename_i t x hx
    simp only at hx; subst hx
    refine Next1.of (s := Instr.makeInterface t (a.eval x)) ?_
    split at h
    · rename_i sh _ _ _ v hl hv
      rw [ha.ov hv]
      obtain ⟨u, hu, hs⟩ := shOf_cases hT hl
      split at h
      · exact h.elim
      · exact h.elim
      · rename_i h1 h2
        refine ⟨_, fun w => ?_, h⟩
        cases u <;> first
          | (simp [Instr.makeInterface, run_underlying hu]; done)
          | (exact (h1 hs.symm).elim)
          | (exact (h2 hs.symm).elim)
    · exact h.elim
  case h_16 =>
    rename_i t parts hx
    simp only at hx; subst hx
    split at h
    · rename_i vs hvs
      replace h := h.o
      obtain ⟨v, hv, hk⟩ := h
      refine ⟨v, fun w => ?_, hk⟩
      have e1 : parts.map (fun p => (p.1, a.eval p.2)) = ((parts.toList.map (·.1)).zip vs).toArray := by
        apply Array.ext'
        simpa using parts_zip ha parts.toList hvs
      have : execOp a.eval { dst, op := .build t parts, type := ty, pos, after, guard } = (do pure (.value (← Instr.build t (parts.map (fun p => (p.1, a.eval p.2)))))) := rfl
      rw [this, e1]
      simp [hv]
    · exact h.elim
  case h_17 =>
    rename_i c hx
    simp only at hx; subst hx
    split at h
    · rename_i b hb
      split at h
      · rename_i vs hvs
        obtain ⟨v, hv, hk⟩ := bpureV_gives hT (ty := ty) (cs := c.args.map fun | .const _ => true | _ => false) h
        refine ⟨v, fun w => ?_, hk⟩
        have e1 : c.args.map a.eval = vs.toArray := by apply Array.ext'; simpa using ha.ovs hvs
        obtain ⟨callee, args, ats⟩ := c
        simp only at hb e1; subst hb
        rw [BigFrame.execOp_builtin, e1]
        exact hv w
      · exact h.elim
    · exact h.elim
  case h_18 => exact h.elim

end Go.Proofs.Ytlldgodjfpgbcaa
