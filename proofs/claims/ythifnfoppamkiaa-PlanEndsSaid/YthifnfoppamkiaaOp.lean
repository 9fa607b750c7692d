/- Volumes, numbers, yes and no that came in. Nothing is claimed here. -/
import Derived.Test.YthifnfoppamkiaaIy
namespace Go.Proofs.Ythifnfoppamkiaa
set_option linter.unusedVariables false
set_option linter.unusedSimpArgs false
theorem cell_spot {w : World} {a : Addr} {x : Value} (h : w.cell? a = some x) : a.spot = none := by
  unfold World.cell? at h
  split at h
  · split at h
    · cases h
    · rename_i hs
      cases hsp : a.spot with
      | none => rfl
      | some s => simp [hsp] at hs
  · cases h
def okI (n : Int) : Prop := (Lit.int .i64 n).wf = true
theorem okI.rng {n : Int} (h : okI n) : -9223372036854775808 ≤ n ∧ n ≤ 9223372036854775807 := by
  simp only [okI, Lit.wf, IntKind.min, IntKind.max, IntKind.bits, IntKind.signed, Bool.and_eq_true, decide_eq_true_eq] at h
  simp at h; omega
theorem flat_one {α : Type} (f : α → Value) (l : List α) : l.flatMap (fun x => [f x]) = l.map f := by
  induction l with
  | nil => rfl
  | cons a l ih => simp [ih]
/-- a slice of one-celled things, under an address that is plain -/
theorem ones_open {w : World} {t e : TypeId} {a : Option Addr} {n c d s b b1 : Nat} {z z1 : Value} {sh : Sh} (ht : look TT t = some ⟨.slice e, s, b, z⟩) (he : look TT e = some ⟨sh, 1, b1, z1⟩) {α : Type} (p0 : α) (f : α → Value) {Ok : α → Prop}
    (hel : ∀ es, opn TT w d e es → ∃ p, es = [f p] ∧ Ok p) (hsp : ∀ x, a = some x → x.spot = none) (h : opn TT w (d + 1) t [.slice a n c]) : ∃ l : List α, Sl w (.slice a n c) (l.map f) ∧ ∀ p ∈ l, Ok p := by
  obtain ⟨l, h1, h2⟩ := structs_open ht he (by decide) p0 (f := fun x => [f x]) (fun _ => rfl) hel hsp h
  rw [flat_one] at h1
  exact ⟨l, h1.to1, h2⟩
/-- .. the address may have a spot if the slice is empty -/
theorem onesE_open {w : World} {v : Value} {t e : TypeId} {d s b b1 : Nat} {z z1 : Value} {sh : Sh} (ht : look TT t = some ⟨.slice e, s, b, z⟩) (he : look TT e = some ⟨sh, 1, b1, z1⟩) {α : Type} (p0 : α) (f : α → Value) {Ok : α → Prop}
    (hel : ∀ es, opn TT w (d + 1) e es → ∃ p, es = [f p] ∧ Ok p) (h : opn TT w (d + 2) t [v]) : ∃ l : List α, SlE w v (l.map f) ∧ ∀ p ∈ l, Ok p := by
  have h0 := h
  unfold opn at h
  simp only [ht, he] at h
  rcases h with h | ⟨x, n, c, h, h1, h2, h3⟩
  · injection h with h
    subst h
    exact ⟨[], SlE.nil w, by simp⟩
  · injection h with h
    subst h
    rcases Nat.eq_zero_or_pos c with hc | hc
    · subst hc
      obtain rfl : n = 0 := by omega
      exact ⟨[], ⟨.inr ⟨x, rfl, rfl⟩⟩, by simp⟩
    · obtain ⟨l, hl, hk⟩ := ones_open (d := d + 1) ht he p0 f hel (fun y hy => by
        injection hy with hy
        subst hy
        obtain ⟨es, q1, q2, q3⟩ := h3 0 hc
        match es, q1 with
        | [u], _ =>
          have := cell_spot (q2 0 u rfl)
          simpa [Addr.add] using this) h0
      exact ⟨l, hl.e, hk⟩
theorem int_el {w : World} {d : Nat} {es : List Value} (h : opn TT w (d + 1) 3 es) : ∃ n : Int, es = [.int .i64 n] ∧ okI n := by
  unfold opn at h
  simp only [tl3] at h
  obtain ⟨n, h1, h2⟩ := h
  exact ⟨n, h1, h2⟩
theorem bool_el {w : World} {d : Nat} {es : List Value} (h : opn TT w (d + 1) 4 es) : ∃ b : Bool, es = [.bool b] ∧ True := by
  unfold opn at h
  simp only [tl4] at h
  obtain ⟨n, h1⟩ := h
  exact ⟨n, h1, trivial⟩
theorem numsE_open {w : World} {v : Value} {d : Nat} (h : opn TT w (d + 2) 24 [v]) : ∃ l : List Int, SlE w v (numC l) ∧ ∀ x ∈ l, okI x :=
  onesE_open tl24 tl3 0 (fun n => .int .i64 n) (fun es h => int_el h) h
theorem six {l : List Value} (h : l.length = 6) : ∃ a b c d e f, l = [a, b, c, d, e, f] := by
  match l, h with
  | [a, b, c, d, e, f], _ => exact ⟨a, b, c, d, e, f, rfl⟩
theorem seven {l : List Value} (h : l.length = 7) : ∃ a b c d e f g, l = [a, b, c, d, e, f, g] := by
  match l, h with
  | [a, b, c, d, e, f, g], _ => exact ⟨a, b, c, d, e, f, g, rfl⟩
theorem vol_open {w : World} {l : List Value} (h : opn TT w 4 30 l) : ∃ p : PV × Value, l = pvC p ∧ SlE w p.2 (numC p.1.ns) ∧ okI p.1.id ∧ okI p.1.st := by
  obtain ⟨hlen, h1, h2, h3, h4, h5, h6, _⟩ := h
  obtain ⟨a, b, c, d, e, f, rfl⟩ := six hlen
  obtain ⟨n1, e1, w1⟩ := h1
  obtain ⟨n2, e2, w2⟩ := h2
  obtain ⟨n3, e3, w3⟩ := h3
  obtain ⟨ns, hns, _⟩ := numsE_open (d := 1) h4
  obtain ⟨b5, e5⟩ := h5
  obtain ⟨n6, e6, w6⟩ := h6
  have e1' : [a] = [.int .i64 n1] := e1
  have e2' : [b] = [.int .i64 n2] := e2
  have e3' : [c] = [.int .i64 n3] := e3
  have e5' : [e] = [.bool b5] := e5
  have e6' : [f] = [.int .i64 n6] := e6
  injection e1' with e1'
  injection e2' with e2'
  injection e3' with e3'
  injection e5' with e5'
  injection e6' with e6'
  subst e1'; subst e2'; subst e3'; subst e5'; subst e6'
  exact ⟨(⟨n1, n2, n3, ns, b5, n6⟩, d), rfl, hns, w1, w2⟩
theorem vols_arg {w : World} {base : Nat} {H : Type} {enc : TypeId × Value → H} {v : Value} {d : DataW H} {ps : List MemPlace} (hok : Value.okWide Try.prog w .any base 22 v) (h : DataW.Trod enc Try.prog w 0 (fun _ => true) true 22 v d ps) :
    ∃ es : List (PV × Value), SlN w 6 v es.length (es.flatMap pvC) ∧ ∀ p ∈ es, SlE w p.2 (numC p.1.ns) ∧ okI p.1.id ∧ okI p.1.st := by
  obtain ⟨fuel, hf⟩ := h
  have ho := trod_opn ttOk 5 fuel _ _ _ hf
  obtain ⟨a, n, c, rfl⟩ := WideShapes.okWide_slice Try.underlying22 hok
  refine structs_open (d := 4) tl22 tl30 (by decide) (⟨0, 0, 0, [], false, 0⟩, .slice none 0 0) pvC_len (fun es he => vol_open he) (fun x hx => ?_) ho
  subst hx
  simp only [Value.okWide, Try.underlying22, Cell.okWide, Cell.ok, World.has] at hok
  exact hok.2.2.2.1
theorem nums_arg {w : World} {base : Nat} {H : Type} {enc : TypeId × Value → H} {v : Value} {d : DataW H} {ps : List MemPlace} (h : DataW.Trod enc Try.prog w 0 (fun _ => true) true 24 v d ps) (hok : Value.okWide Try.prog w .any base 24 v) :
    ∃ l : List Int, SlE w v (numC l) ∧ ∀ x ∈ l, okI x := by
  obtain ⟨fuel, hf⟩ := h
  have ho := trod_opn ttOk 2 fuel _ _ _ hf
  obtain ⟨a, n, c, rfl⟩ := WideShapes.okWide_slice Try.underlying24 hok
  exact numsE_open (d := 0) ho
theorem bools_arg {w : World} {base : Nat} {H : Type} {enc : TypeId × Value → H} {v : Value} {d : DataW H} {ps : List MemPlace} (h : DataW.Trod enc Try.prog w 0 (fun _ => true) true 23 v d ps) (hok : Value.okWide Try.prog w .any base 23 v) :
    ∃ l : List Bool, SlE w v (boolC l) := by
  obtain ⟨fuel, hf⟩ := h
  have ho := trod_opn ttOk 2 fuel _ _ _ hf
  obtain ⟨a, n, c, rfl⟩ := WideShapes.okWide_slice Try.underlying23 hok
  obtain ⟨l, h1, _⟩ := onesE_open (d := 0) tl23 tl4 false (fun b => .bool b) (fun es h => bool_el h) ho
  exact ⟨l, h1⟩
theorem cfg_arg {w : World} {base : Nat} {H : Type} {enc : TypeId × Value → H} {v : Value} {d : DataW H} {ps : List MemPlace} (hok : Value.okWide Try.prog w .any base 26 v) (h : DataW.Trod enc Try.prog w 0 (fun _ => true) true 26 v d ps) :
    ∃ c : PC, v = cfV c ∧ okI c.cp ∧ okI c.k ∧ okI c.m ∧ okI c.lim := by
  obtain ⟨fuel, hf⟩ := h
  obtain ⟨hlen, h1, h2, h3, h4, h5, h6, h7, _⟩ := (trod_opn ttOk 3 fuel _ _ _ hf : opn TT w 3 26 _)
  simp only [Value.okWide, Try.underlying26] at hok
  obtain ⟨cs, rfl, _⟩ := hok
  obtain ⟨a, b, c, d, e, f, g, hcs⟩ := seven hlen
  simp only [Value.cells] at hcs h1 h2 h3 h4 h5 h6 h7
  rw [hcs] at h1 h2 h3 h4 h5 h6 h7
  obtain ⟨n1, e1, w1⟩ := h1
  obtain ⟨n2, e2, w2⟩ := h2
  obtain ⟨n3, e3, w3⟩ := h3
  obtain ⟨n4, e4, w4⟩ := h4
  obtain ⟨n5, e5, w5⟩ := h5
  obtain ⟨n6, e6, w6⟩ := h6
  obtain ⟨n7, e7, w7⟩ := h7
  have e1' : [a] = [.int .i64 n1] := e1
  have e2' : [b] = [.int .i64 n2] := e2
  have e3' : [c] = [.int .i64 n3] := e3
  have e4' : [d] = [.int .i64 n4] := e4
  have e5' : [e] = [.int .i64 n5] := e5
  have e6' : [f] = [.int .i64 n6] := e6
  have e7' : [g] = [.int .i64 n7] := e7
  injection e1' with e1'
  injection e2' with e2'
  injection e3' with e3'
  injection e4' with e4'
  injection e5' with e5'
  injection e6' with e6'
  injection e7' with e7'
  subst e1'; subst e2'; subst e3'; subst e4'; subst e5'; subst e6'; subst e7'
  refine ⟨⟨n1, n2, n3, n4, n5, n6, n7⟩, ?_, w3, w4, w5, w7⟩
  have : cs = cs.toList.toArray := by simp
  rw [this, hcs]; rfl
/-- lists of lists of numbers -/
theorem numss_arg {w : World} {base : Nat} {H : Type} {enc : TypeId × Value → H} {v : Value} {d : DataW H} {ps : List MemPlace} (hok : Value.okWide Try.prog w .any base 38 v) (h : DataW.Trod enc Try.prog w 0 (fun _ => true) true 38 v d ps) :
    ∃ es : List (List Int × Value), SlE w v (es.map (·.2)) ∧ ∀ p ∈ es, SlE w p.2 (numC p.1) ∧ ∀ x ∈ p.1, okI x := by
  obtain ⟨fuel, hf⟩ := h
  have ho := trod_opn ttOk 4 fuel _ _ _ hf
  obtain ⟨a, n, c, rfl⟩ := WideShapes.okWide_slice Try.underlying38 hok
  refine onesE_open (d := 2) tl38 tl24 ([], .slice none 0 0) (fun p : List Int × Value => p.2) (fun es he => ?_) ho
  have h0 := he
  unfold opn at he
  simp only [tl24, tl3] at he
  have : ∃ u, es = [u] := by
    rcases he with he | ⟨_, _, _, he, _⟩
    · exact ⟨_, he⟩
    · exact ⟨_, he⟩
  obtain ⟨u, rfl⟩ := this
  obtain ⟨l, h1, h2⟩ := numsE_open (d := 1) h0
  exact ⟨(l, u), rfl, h1, h2⟩
end Go.Proofs.Ythifnfoppamkiaa
