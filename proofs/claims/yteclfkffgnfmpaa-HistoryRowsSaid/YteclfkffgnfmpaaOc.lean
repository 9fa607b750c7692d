/- Calls that came in. Nothing is claimed here. -/
import Derived.Test.YteclfkffgnfmpaaOb
import Derived.Test.YteclfkffgnfmpaaYy
namespace Go.Proofs.Yteclfkffgnfmpaa
set_option linter.unusedVariables false
set_option linter.unusedSimpArgs false
theorem six {l : List Value} (h : l.length = 6) : ∃ a b c d e f, l = [a, b, c, d, e, f] := by
  match l, h with
  | [a, b, c, d, e, f], _ => exact ⟨a, b, c, d, e, f, rfl⟩
theorem rc_open {w : World} {l : List Value} {d : Nat} (h : opn TT w (d + 2) 47 l) : ∃ c : Rc, l = rcC c ∧ okU c.cookie := by
  obtain ⟨hlen, h1, h2, h3, h4, h5, h6, _⟩ := h
  obtain ⟨a, b, c, d, e, f, rfl⟩ := six hlen
  obtain ⟨n1, e1, w1⟩ := h1
  obtain ⟨n2, e2, w2⟩ := h2
  obtain ⟨n3, e3, w3⟩ := h3
  obtain ⟨n4, e4, w4⟩ := h4
  obtain ⟨n5, e5, w5⟩ := h5
  obtain ⟨n6, e6, w6⟩ := h6
  have e1' : [a] = [.int .i64 n1] := e1
  have e2' : [b] = [.int .i64 n2] := e2
  have e3' : [c] = [.int .u32 n3] := e3
  have e4' : [d] = [.int .u8 n4] := e4
  have e5' : [e] = [.int .i64 n5] := e5
  have e6' : [f] = [.int .u8 n6] := e6
  injection e1' with e1'
  injection e2' with e2'
  injection e3' with e3'
  injection e4' with e4'
  injection e5' with e5'
  injection e6' with e6'
  obtain ⟨m3, rfl⟩ := wf_nat32 w3
  obtain ⟨m4, rfl⟩ := wf_nat8 w4
  obtain ⟨m6, rfl⟩ := wf_nat8 w6
  subst e1'; subst e2'; subst e3'; subst e4'; subst e5'; subst e6'
  exact ⟨⟨n1, n2, m3, m4, n5, m6⟩, rfl, w3⟩
theorem rc_arg {w : World} {base : Nat} {H : Type} {enc : TypeId × Value → H} {v : Value} {d : DataW H} {ps : List MemPlace} (hok : Value.okWide Try.prog w .any base 47 v) (h : DataW.Trod enc Try.prog w 0 (fun _ => true) true 47 v d ps) :
    ∃ c : Rc, v = rcV c ∧ okU c.cookie := by
  obtain ⟨fuel, hf⟩ := h
  obtain ⟨s, hs, hk⟩ := rc_open (d := 1) (trod_opn ttOk 3 fuel _ _ _ hf)
  refine ⟨s, ?_, hk⟩
  simp only [Value.okWide, Try.underlying47] at hok
  obtain ⟨cs, rfl, _⟩ := hok
  simp only [Value.cells] at hs
  have : cs = cs.toList.toArray := by simp
  rw [this, hs]; rfl
structure RcS (w : World) (v : Value) (cs : List Rc) : Prop where
  sl : SlN w 6 v cs.length (cs.flatMap rcC)
  ok : ∀ c ∈ cs, okU c.cookie
theorem RcS.below {w w' : World} {v : Value} {cs : List Rc} (h : RcS w v cs) (hb : RowKit.Below w.heap.size w w') : RcS w' v cs := ⟨h.sl.below hb, h.ok⟩
theorem calls_arg {w : World} {base : Nat} {H : Type} {enc : TypeId × Value → H} {v : Value} {d : DataW H} {ps : List MemPlace} (hok : Value.okWide Try.prog w .any base 44 v) (h : DataW.Trod enc Try.prog w 0 (fun _ => true) true 44 v d ps) :
    ∃ cs : List Rc, RcS w v cs := by
  obtain ⟨fuel, hf⟩ := h
  have ho := trod_opn ttOk 5 fuel _ _ _ hf
  obtain ⟨a, n, c, rfl⟩ := WideShapes.okWide_slice Try.underlying44 hok
  unfold opn at ho
  simp only [tl44, tl47] at ho
  rcases ho with ho | ⟨x, n', c', ho, h1, h2, h3⟩
  · simp only [Value.cells] at ho
    injection ho with ho
    injection ho with e1 e2 e3
    subst e1; subst e2; subst e3
    exact ⟨[], SlN.nil w 6, by simp⟩
  · simp only [Value.cells] at ho
    injection ho with ho
    injection ho with e1 e2 e3
    subst e1; subst e2; subst e3
    simp only [Value.okWide, Try.underlying44, Cell.okWide, Cell.ok, World.has] at hok
    have hs : x.spot = none := hok.2.2.2.1
    obtain ⟨bb, o, s⟩ := x
    simp only at hs; subst hs
    have hev : ∀ i, i < n → ∃ p : Rc, (∀ j x, (rcC p)[j]? = some x → w.cell? ⟨bb, o + (i * 6 + j), none⟩ = some x) ∧ okU p.cookie := fun i hi => by
      obtain ⟨es, q1, q2, q3⟩ := h3 i (by omega)
      obtain ⟨p, rfl, q4⟩ := rc_open (d := 2) q3
      refine ⟨p, fun j x hx => ?_, q4⟩
      have := q2 j x hx
      rwa [Addr.add_lit, Addr.add_lit, Nat.add_assoc] at this
    refine ⟨(List.range n).map fun i => if h : i < n then (hev i h).choose else ⟨0, 0, 0, 0, 0, 0⟩, ?_, ?_⟩
    · have hl : ((List.range n).map fun i => if h : i < n then (hev i h).choose else ⟨0, 0, 0, 0, 0, 0⟩).length = n := by simp
      rw [hl]
      refine SlN.some' (by rw [flat_len rcC_len, hl]) h1 h2 fun k x hx => ?_
      have hk : k < n * 6 := by have := (List.getElem?_eq_some_iff.1 hx).1; rw [flat_len rcC_len, hl] at this; exact this
      have hkn : k / 6 < n := by omega
      have hkk : k = k / 6 * 6 + k % 6 := by omega
      rw [hkk, flat_get rcC_len (k := k / 6) (s := (hev (k / 6) hkn).choose) (k % 6) (by simp [hkn]) (by omega)] at hx
      have := (hev (k / 6) hkn).choose_spec.1 (k % 6) x hx
      rwa [← hkk] at this
    · intro p hp
      obtain ⟨i, hi, rfl⟩ := List.mem_map.1 hp
      have hin := List.mem_range.1 hi
      simp only [hin, dif_pos]
      exact (hev i hin).choose_spec.2
end Go.Proofs.Yteclfkffgnfmpaa
