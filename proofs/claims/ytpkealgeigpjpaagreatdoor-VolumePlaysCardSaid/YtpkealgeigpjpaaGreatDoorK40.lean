/- Needles that come in. VolumePlays: a script that comes in; what is laid. Nothing is claimed here. -/
import Derived.Test.YtpkealgeigpjpaaGreatDoorK15
import Derived.Test.YtpkealgeigpjpaaGreatDoorK03
import Derived.WideShapes
import Derived.Test.YtpkealgeigpjpaaGreatDoorK39
import Derived.LaidSub
namespace Go.Proofs.YtpkealgeigpjpaaGreatDoor
open Go.RowKit Go.WideShapes
set_option linter.unusedVariables false
set_option linter.unusedSimpArgs false
set_option maxRecDepth 100000
theorem wf_u64 {n : Int} (h : (Lit.int .u64 n).wf = true) : ∃ x : Nat, n = (x : Int) ∧ x < 18446744073709551616 := by
  simp only [Lit.wf, IntKind.min, IntKind.max, IntKind.bits, IntKind.signed, Bool.and_eq_true, decide_eq_true_eq] at h
  simp at h
  exact ⟨n.toNat, by omega, by omega⟩
theorem wf_u32 {n : Int} (h : (Lit.int .u32 n).wf = true) : ∃ x : Nat, n = (x : Int) ∧ x < 4294967296 := by
  simp only [Lit.wf, IntKind.min, IntKind.max, IntKind.bits, IntKind.signed, Bool.and_eq_true, decide_eq_true_eq] at h
  simp at h
  exact ⟨n.toNat, by omega, by omega⟩
/-- a needle that came in -/
structure InN where
  key : Nat
  cook : Nat
  dead : Bool
  v : Value
  d : List UInt8
def inC (n : InN) : List Value := ndC n.key n.cook n.dead n.v
theorem inC_len (n : InN) : (inC n).length = 4 := rfl
structure OkN (w : World) (n : InN) : Prop where
  key : n.key < 18446744073709551616
  cook : n.cook < 4294967296
  sl : Sl w n.v (bv n.d)
  len : n.d.length ≤ 140737488355328
theorem four' {l : List Value} (h : l.length = 4) : ∃ a b c d, l = [a, b, c, d] := by
  match l, h with
  | [a, b, c, d], _ => exact ⟨a, b, c, d, rfl⟩
theorem needle_open {w : World} {l : List Value} {d : Nat} (h : opz Tryz.prog TT 140737488355328 w (d + 3) 49 l) : ∃ n : InN, l = inC n ∧ OkN w n := by
  obtain ⟨hlen, h1, h2, h3, h4, _⟩ := h
  obtain ⟨a, b, c, e, rfl⟩ := four' hlen
  obtain ⟨n1, e1, w1⟩ := h1
  obtain ⟨n2, e2, w2⟩ := h2
  obtain ⟨n3, e3⟩ := h3
  obtain ⟨l4, hl4, w4⟩ := bytes_open (d := d) h4
  have e1' : [a] = [.int .u64 n1] := e1
  have e2' : [b] = [.int .u32 n2] := e2
  have e3' : [c] = [.bool n3] := e3
  injection e1' with e1'
  injection e2' with e2'
  injection e3' with e3'
  subst e1'; subst e2'; subst e3'
  obtain ⟨x1, rfl, y1⟩ := wf_u64 w1
  obtain ⟨x2, rfl, y2⟩ := wf_u32 w2
  exact ⟨⟨x1, x2, n3, e, l4⟩, rfl, y1, y2, hl4, w4⟩
theorem needle_arg {w : World} {base : Nat} {v : Value} (hok : Value.okWide Tryz.prog w .any base 49 v) {d : Nat} (h : opz Tryz.prog TT 140737488355328 w (d + 3) 49 v.cells.toList) : ∃ n : InN, v = .agg (inC n).toArray ∧ OkN w n := by
  obtain ⟨n, hn, ok⟩ := needle_open h
  obtain ⟨cs, rfl, _⟩ := okWide_struct Tryz.underlying49 hok
  refine ⟨n, ?_, ok⟩
  have hn' : cs.toList = inC n := hn
  rw [← hn']
theorem needles_open {w : World} {v : Value} (h : opz Tryz.prog TT 140737488355328 w 4 93 [v]) : ∃ ns : List InN, SlN w 4 v ns.length (ns.flatMap inC) ∧ ∀ n ∈ ns, OkN w n := by
  obtain ⟨ss, h1, h2, _⟩ := sl_open (α := InN) tl93 tl49 (by decide) inC inC_len (fun n => OkN w n) (fun es _ h => needle_open (d := 0) h) h
  exact ⟨ss, h1, h2⟩
end Go.Proofs.YtpkealgeigpjpaaGreatDoor
namespace Go.Proofs.YtpkealgeigpjpaaGreatDoor
open Go.RowKit Go.Lib
set_option linter.unusedVariables false
set_option linter.unusedSimpArgs false
set_option maxRecDepth 100000
theorem seven' {l : List Value} (h : l.length = 7) : ∃ a b c d e f g, l = [a, b, c, d, e, f, g] := by
  match l, h with
  | [a, b, c, d, e, f, g], _ => exact ⟨a, b, c, d, e, f, g, rfl⟩
theorem vtp_open {w : World} {l : List Value} (h : opz Tryz.prog TT 140737488355328 w 4 51 l) : ∃ s : Vtp, l = vtpC s ∧ InVtp w s := by
  obtain ⟨hlen, h1, h2, h3, h4, _⟩ := h
  obtain ⟨a, b, c, d, e, f, g, rfl⟩ := seven' hlen
  obtain ⟨n1, e1, w1⟩ := h1
  obtain ⟨n2, e2, w2⟩ := h2
  obtain ⟨x, hx, ox⟩ := needle_open (d := 0) h3
  obtain ⟨n6, e6, w6⟩ := h4
  have e1' : [a] = [.int .i64 n1] := e1
  have e2' : [b] = [.int .i64 n2] := e2
  have e6' : [g] = [.int .u8 n6] := e6
  have hx' : [c, d, e, f] = inC x := hx
  injection e1' with e1'
  injection e2' with e2'
  injection e6' with e6'
  subst e1'; subst e2'; subst e6'
  obtain ⟨y, rfl⟩ := wf_u8 w6
  simp only [inC, ndC, List.cons.injEq, and_true] at hx'
  obtain ⟨rfl, rfl, rfl, rfl⟩ := hx'
  exact ⟨⟨n1, n2, x.key, x.cook, x.dead, x.v, x.d, y⟩, rfl, i64_wf w2, ox.key, ox.cook, ox.len, ox.sl⟩
theorem vsteps_open {w : World} {v : Value} (h : opz Tryz.prog TT 140737488355328 w 5 22 [v]) : ∃ ss : List Vtp, SlN w 7 v ss.length (ss.flatMap vtpC) ∧ ∀ s ∈ ss, InVtp w s := by
  obtain ⟨ss, h1, h2, _⟩ := sl_open (α := Vtp) tl22 tl51 (by decide) vtpC vtpC_len (fun s => InVtp w s) (fun es _ h => vtp_open h) h
  exact ⟨ss, h1, h2⟩
theorem tab_pow {W : World} {l : List (String × DataW Unit)} (h : laidMetH Tryz.prog l W) (hl : (l.filter fun x => x.2.handleName?.isNone).filter (fun x => x.1 == "internal/strconv.uint64pow10") = [("internal/strconv.uint64pow10", tabData .u64 pow10Tab)]) : TabIs Tryz.prog W "internal/strconv.uint64pow10" .u64 pow10Tab :=
  tabIs_of_head (rest := []) (g := 0) (t := 181) (e := 45) (n := 20) (by kernel_rfl) (by kernel_rfl) (by kernel_rfl) (by kernel_rfl) (by kernel_rfl) (by kernel_rfl) (hl ▸ (laidMetH_iff.1 h).1.filter _)
end Go.Proofs.YtpkealgeigpjpaaGreatDoor
