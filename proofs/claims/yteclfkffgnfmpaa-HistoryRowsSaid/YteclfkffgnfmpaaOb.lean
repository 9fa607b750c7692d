/- Histories that came in. Nothing is claimed here. -/
import Derived.Test.YteclfkffgnfmpaaOa
namespace Go.Proofs.Yteclfkffgnfmpaa
set_option linter.unusedVariables false
set_option linter.unusedSimpArgs false
theorem cell_spot {w : World} {a : Addr} {x : Value} (h : w.cell? a = some x) : a.spot = none := by
  unfold World.cell? at h
  split at h
  · split at h
    · cases h
    · rename_i hs
      cases hsp : a.spot with
      | none => rfl
      | some s => simp [hsp] at hs
  · cases h
theorem bytesE_open {w : World} {v : Value} {d : Nat} (h : opn TT w (d + 2) 28 [v]) : ∃ l : List UInt8, SlE w v (bv l) := by
  have h0 := h
  unfold opn at h
  simp only [tl28, tl5] at h
  rcases h with h | ⟨x, n, c, h, h1, h2, h3⟩
  · injection h with h
    subst h
    exact ⟨[], SlE.nil w⟩
  · injection h with h
    subst h
    rcases Nat.eq_zero_or_pos c with hc | hc
    · subst hc
      obtain rfl : n = 0 := by omega
      exact ⟨[], ⟨.inr ⟨x, rfl, rfl⟩⟩⟩
    · obtain ⟨l, hl⟩ := bytes_open (d := d) tl28 tl5 (fun y hy => by
        injection hy with hy
        subst hy
        obtain ⟨es, q1, q2, q3⟩ := h3 0 hc
        match es, q1 with
        | [u], _ =>
          have := cell_spot (q2 0 u rfl)
          simpa [Addr.add] using this) h0
      exact ⟨l, hl.e⟩
theorem eight {l : List Value} (h : l.length = 8) : ∃ a b c d e f g i, l = [a, b, c, d, e, f, g, i] := by
  match l, h with
  | [a, b, c, d, e, f, g, i], _ => exact ⟨a, b, c, d, e, f, g, i, rfl⟩
theorem event_open {w : World} {l : List Value} (h : opn TT w 4 49 l) : ∃ p : Ev × Value, l = evC p ∧ SlE w p.2 (bv p.1.data) ∧ okF' p.1.fid ∧ okI p.1.call := by
  obtain ⟨hlen, h1, h2, h3, h4, h5, h6, _⟩ := h
  obtain ⟨a, b, c, d, e, f, g, i, rfl⟩ := eight hlen
  obtain ⟨n1, e1, w1⟩ := h1
  obtain ⟨b2, e2⟩ := h2
  obtain ⟨n3, e3, w3⟩ := h3
  obtain ⟨fd, e4, w4⟩ := fid_open (d := 1) h4
  obtain ⟨data, hd⟩ := bytesE_open (d := 1) h5
  obtain ⟨n6, e6, w6⟩ := h6
  have e4' : [d, e, f] = [.int .i64 fd.vol, .int .u64 (fd.key : Int), .int .u32 (fd.cookie : Int)] := e4
  simp only [List.cons.injEq, and_true] at e4'
  obtain ⟨q1, q2, q3⟩ := e4'
  have e1' : [a] = [.int .i64 n1] := e1
  have e2' : [b] = [.bool b2] := e2
  have e3' : [c] = [.int .i64 n3] := e3
  have e6' : [i] = [.int .i64 n6] := e6
  injection e1' with e1'
  injection e2' with e2'
  injection e3' with e3'
  injection e6' with e6'
  subst q1; subst q2; subst q3; subst e1'; subst e2'; subst e3'; subst e6'
  exact ⟨(⟨n1, b2, n3, fd, data, n6⟩, g), rfl, hd, w4, w1⟩
theorem events_arg {w : World} {base : Nat} {H : Type} {enc : TypeId × Value → H} {v : Value} {d : DataW H} {ps : List MemPlace} (hok : Value.okWide Try.prog w .any base 38 v) (h : DataW.Trod enc Try.prog w 0 (fun _ => true) true 38 v d ps) :
    ∃ es : List (Ev × Value), EvS w v es := by
  obtain ⟨fuel, hf⟩ := h
  have ho := trod_opn ttOk 5 fuel _ _ _ hf
  obtain ⟨a, n, c, rfl⟩ := WideShapes.okWide_slice Try.underlying38 hok
  unfold opn at ho
  simp only [tl38, tl49] at ho
  rcases ho with ho | ⟨x, n', c', ho, h1, h2, h3⟩
  · simp only [Value.cells] at ho
    injection ho with ho
    injection ho with e1 e2 e3
    subst e1; subst e2; subst e3
    exact ⟨[], SlN.nil w 8, by simp, by simp, by simp⟩
  · simp only [Value.cells] at ho
    injection ho with ho
    injection ho with e1 e2 e3
    subst e1; subst e2; subst e3
    simp only [Value.okWide, Try.underlying38, Cell.okWide, Cell.ok, World.has] at hok
    have hs : x.spot = none := hok.2.2.2.1
    obtain ⟨bb, o, s⟩ := x
    simp only at hs; subst hs
    have hev : ∀ i, i < n → ∃ p : Ev × Value, (∀ j x, (evC p)[j]? = some x → w.cell? ⟨bb, o + (i * 8 + j), none⟩ = some x) ∧ SlE w p.2 (bv p.1.data) ∧ okF' p.1.fid ∧ okI p.1.call := fun i hi => by
      obtain ⟨es, q1, q2, q3⟩ := h3 i (by omega)
      obtain ⟨p, rfl, q4⟩ := event_open q3
      refine ⟨p, fun j x hx => ?_, q4⟩
      have := q2 j x hx
      rwa [Addr.add_lit, Addr.add_lit, Nat.add_assoc] at this
    refine ⟨(List.range n).map fun i => if h : i < n then (hev i h).choose else (⟨0, false, 0, ⟨0, 0, 0⟩, [], 0⟩, .slice none 0 0), ?_, ?_, ?_, ?_⟩
    · have hl : ((List.range n).map fun i => if h : i < n then (hev i h).choose else (⟨0, false, 0, ⟨0, 0, 0⟩, [], 0⟩, .slice none 0 0)).length = n := by simp
      rw [hl]
      refine SlN.some' (by rw [flat_len evC_len, hl]) h1 h2 fun k x hx => ?_
      have hk : k < n * 8 := by have := (List.getElem?_eq_some_iff.1 hx).1; rw [flat_len evC_len, hl] at this; exact this
      have hkn : k / 8 < n := by omega
      have hkk : k = k / 8 * 8 + k % 8 := by omega
      rw [hkk, flat_get evC_len (k := k / 8) (s := (hev (k / 8) hkn).choose) (k % 8) (by simp [hkn]) (by omega)] at hx
      have := (hev (k / 8) hkn).choose_spec.1 (k % 8) x hx
      rwa [← hkk] at this
    all_goals
      intro p hp
      obtain ⟨i, hi, rfl⟩ := List.mem_map.1 hp
      have hin := List.mem_range.1 hi
      simp only [hin, dif_pos]
    · exact (hev i hin).choose_spec.2.1
    · exact (hev i hin).choose_spec.2.2.1
    · exact (hev i hin).choose_spec.2.2.2
end Go.Proofs.Yteclfkffgnfmpaa
