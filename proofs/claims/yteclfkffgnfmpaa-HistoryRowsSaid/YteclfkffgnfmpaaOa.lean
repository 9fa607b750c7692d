/- States and places that came in. Nothing is claimed here. -/
import Derived.Test.YteclfkffgnfmpaaO
import Derived.Test.YteclfkffgnfmpaaYk
namespace Go.Proofs.Yteclfkffgnfmpaa
set_option linter.unusedVariables false
set_option linter.unusedSimpArgs false
theorem wf_nat32 {n : Int} (h : (Lit.int .u32 n).wf = true) : ∃ m : Nat, n = m := ⟨n.toNat, by
  simp only [Lit.wf, IntKind.min, IntKind.max, IntKind.bits, IntKind.signed, Bool.and_eq_true, decide_eq_true_eq] at h
  simp at h; omega⟩
theorem wf_nat64 {n : Int} (h : (Lit.int .u64 n).wf = true) : ∃ m : Nat, n = m := ⟨n.toNat, by
  simp only [Lit.wf, IntKind.min, IntKind.max, IntKind.bits, IntKind.signed, Bool.and_eq_true, decide_eq_true_eq] at h
  simp at h; omega⟩
theorem wf_nat8 {n : Int} (h : (Lit.int .u8 n).wf = true) : ∃ m : UInt8, n = m.toNat := ⟨UInt8.ofNat n.toNat, by
  simp only [Lit.wf, IntKind.min, IntKind.max, IntKind.bits, IntKind.signed, Bool.and_eq_true, decide_eq_true_eq] at h
  simp at h
  simp only [UInt8.toNat_ofNat']
  omega⟩
theorem three {l : List Value} (h : l.length = 3) : ∃ a b c, l = [a, b, c] := by
  match l, h with
  | [a, b, c], _ => exact ⟨a, b, c, rfl⟩
theorem st_open {w : World} {l : List Value} (h : opn TT w 3 24 l) : ∃ s : HSt, l = stC s ∧ okSt s := by
  obtain ⟨hlen, h1, h2, h3, _⟩ := h
  obtain ⟨a, b, c, rfl⟩ := three hlen
  obtain ⟨n, e1, w1⟩ := h1
  obtain ⟨m, e2, w2⟩ := h2
  obtain ⟨s, e3, w3⟩ := h3
  injection e1 with e1
  injection e2 with e2
  injection e3 with e3
  obtain ⟨m', rfl⟩ := wf_nat32 w2
  exact ⟨(n, m', s), by rw [e1, e2, e3]; rfl, ⟨w1, w2, w3⟩⟩
theorem fid_open {w : World} {l : List Value} {d : Nat} (h : opn TT w (d + 2) 27 l) : ∃ f : Fid, l = [.int .i64 f.vol, .int .u64 (f.key : Int), .int .u32 (f.cookie : Int)] ∧ okF' f := by
  obtain ⟨hlen, h1, h2, h3, _⟩ := h
  obtain ⟨a, b, c, rfl⟩ := three hlen
  obtain ⟨n, e1, w1⟩ := h1
  obtain ⟨m, e2, w2⟩ := h2
  obtain ⟨s, e3, w3⟩ := h3
  injection e1 with e1
  injection e2 with e2
  injection e3 with e3
  obtain ⟨m', rfl⟩ := wf_nat64 w2
  obtain ⟨s', rfl⟩ := wf_nat32 w3
  exact ⟨⟨n, m', s'⟩, by rw [e1, e2, e3], ⟨w1, w2, w3⟩⟩
theorem st_arg {P : Program} {w : World} {base : Nat} {H : Type} {enc : TypeId × Value → H} {v : Value} {d : DataW H} {ps : List MemPlace} (hok : Value.okWide Try.prog w .any base 24 v) (h : DataW.Trod enc Try.prog w 0 (fun _ => true) true 24 v d ps) :
    ∃ s : HSt, v = stV s ∧ okSt s := by
  obtain ⟨fuel, hf⟩ := h
  obtain ⟨s, hs, hk⟩ := st_open (trod_opn ttOk 3 fuel _ _ _ hf)
  refine ⟨s, ?_, hk⟩
  simp only [Value.okWide, Try.underlying24] at hok
  obtain ⟨cs, rfl, _⟩ := hok
  simp only [Value.cells] at hs
  have : cs = cs.toList.toArray := by simp
  rw [this, hs]; rfl
theorem fid_arg {w : World} {base : Nat} {H : Type} {enc : TypeId × Value → H} {v : Value} {d : DataW H} {ps : List MemPlace} (hok : Value.okWide Try.prog w .any base 27 v) (h : DataW.Trod enc Try.prog w 0 (fun _ => true) true 27 v d ps) :
    ∃ f : Fid, v = fidV f ∧ okF' f := by
  obtain ⟨fuel, hf⟩ := h
  obtain ⟨s, hs, hk⟩ := fid_open (d := 1) (trod_opn ttOk 3 fuel _ _ _ hf)
  refine ⟨s, ?_, hk⟩
  simp only [Value.okWide, Try.underlying27] at hok
  obtain ⟨cs, rfl, _⟩ := hok
  simp only [Value.cells] at hs
  have : cs = cs.toList.toArray := by simp
  rw [this, hs]; rfl
/-- bytes that came in, under an address that is plain -/
theorem bytes_open {w : World} {t e : TypeId} {a : Option Addr} {n c d s b b1 : Nat} {z z1 : Value} (ht : look TT t = some ⟨.slice e, s, b, z⟩) (he : look TT e = some ⟨.int .u8, 1, b1, z1⟩) (hsp : ∀ x, a = some x → x.spot = none) (h : opn TT w (d + 2) t [.slice a n c]) :
    ∃ l : List UInt8, Sl w (.slice a n c) (bv l) := by
  unfold opn at h
  simp only [ht, he] at h
  rcases h with h | ⟨x, n', c', h, h1, h2, h3⟩
  · injection h with h
    injection h with e1 e2 e3
    subst e1; subst e2; subst e3
    exact ⟨[], Sl.nil w⟩
  · injection h with h
    injection h with e1 e2 e3
    subst e1; subst e2; subst e3
    have hs := hsp x rfl
    obtain ⟨bb, o, s⟩ := x
    simp only at hs; subst hs
    have hcell : ∀ i, i < n → ∃ u : UInt8, w.cell? ⟨bb, o + i, none⟩ = some (u8 u) := fun i hi => by
      obtain ⟨es, q1, q2, q3⟩ := h3 i (by omega)
      unfold opn at q3
      simp only [he] at q3
      obtain ⟨k, rfl, q4⟩ := q3
      obtain ⟨u, rfl⟩ := wf_nat8 q4
      have := q2 0 _ rfl
      rw [Nat.mul_one, Addr.add_lit, Addr.add_lit, Nat.add_zero] at this
      exact ⟨u, this⟩
    refine ⟨(List.range n).map fun i => if h : i < n then (hcell i h).choose else 0, Sl.some' (by simp) (by simp; omega) h2 fun i v hv => ?_⟩
    have hi : i < n := by have := (List.getElem?_eq_some_iff.1 hv).1; simpa using this
    have hv' : v = u8 (hcell i hi).choose := by
      simp [bv, hi] at hv
      exact hv.symm
    rw [hv']
    exact (hcell i hi).choose_spec
theorem bytes_arg {w : World} {base : Nat} {H : Type} {enc : TypeId × Value → H} {v : Value} {d : DataW H} {ps : List MemPlace} (hok : Value.okWide Try.prog w .any base 28 v) (h : DataW.Trod enc Try.prog w 0 (fun _ => true) true 28 v d ps) :
    ∃ l : List UInt8, Sl w v (bv l) := by
  obtain ⟨fuel, hf⟩ := h
  have ho := trod_opn ttOk 2 fuel _ _ _ hf
  obtain ⟨a, n, c, rfl⟩ := WideShapes.okWide_slice Try.underlying28 hok
  refine bytes_open (d := 0) tl28 tl5 (fun x hx => ?_) ho
  subst hx
  simp only [Value.okWide, Try.underlying28, Cell.okWide, Cell.ok, World.has] at hok
  exact hok.2.2.2.1
end Go.Proofs.Yteclfkffgnfmpaa
