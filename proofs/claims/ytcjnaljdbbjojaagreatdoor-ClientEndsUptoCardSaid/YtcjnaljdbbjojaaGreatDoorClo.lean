/- Names of needles that come in. Nothing is claimed here. -/
import Derived.Test.YtcjnaljdbbjojaaGreatDoorClk
import Derived.Test.YtcjnaljdbbjojaaGreatDoorOg
import Derived.WideShapes
namespace Go.Proofs.YtcjnaljdbbjojaaGreatDoor
open Go.RowKit Go.WideShapes
set_option linter.unusedVariables false
set_option linter.unusedSimpArgs false
set_option maxRecDepth 100000
theorem wf_u64 {n : Int} (h : (Lit.int .u64 n).wf = true) : 0 ≤ n ∧ n < 18446744073709551616 := by
  simp only [Lit.wf, IntKind.min, IntKind.max, IntKind.bits, IntKind.signed, Bool.and_eq_true, decide_eq_true_eq] at h
  simp at h
  omega
theorem wf_u32 {n : Int} (h : (Lit.int .u32 n).wf = true) : 0 ≤ n ∧ n < 4294967296 := by
  simp only [Lit.wf, IntKind.min, IntKind.max, IntKind.bits, IntKind.signed, Bool.and_eq_true, decide_eq_true_eq] at h
  simp at h
  omega
theorem fid_open {w : World} {l : List Value} {d : Nat} (h : opz Tryz.prog TT 140737488355328 w (d + 3) 36 l) : ∃ vol key ck : Int, l = [.int .i64 vol, .int .u64 key, .int .u32 ck] ∧ (0 ≤ ck ∧ ck < 4294967296) ∧ 0 ≤ key ∧ key < 18446744073709551616 := by
  obtain ⟨hlen, h1, h2, h3, _⟩ := h
  obtain ⟨a, b, c, rfl⟩ : ∃ a b c, l = [a, b, c] := by
    match l, hlen with
    | [a, b, c], _ => exact ⟨a, b, c, rfl⟩
  obtain ⟨n1, e1, w1⟩ := h1
  obtain ⟨n2, e2, w2⟩ := h2
  obtain ⟨n3, e3, w3⟩ := h3
  have e1' : [a] = [.int .i64 n1] := e1
  have e2' : [b] = [.int .u64 n2] := e2
  have e3' : [c] = [.int .u32 n3] := e3
  injection e1' with e1'
  injection e2' with e2'
  injection e3' with e3'
  subst e1'; subst e2'; subst e3'
  exact ⟨n1, n2, n3, rfl, wf_u32 w3, wf_u64 w2⟩
theorem fid_arg {w : World} {base : Nat} {v : Value} (hok : Value.okWide Tryz.prog w .any base 36 v) {d : Nat} (h : opz Tryz.prog TT 140737488355328 w (d + 3) 36 v.cells.toList) : ∃ vol key ck : Int, v = .agg #[.int .i64 vol, .int .u64 key, .int .u32 ck] ∧ (0 ≤ ck ∧ ck < 4294967296) ∧ 0 ≤ key ∧ key < 18446744073709551616 := by
  obtain ⟨vol, key, ck, hn, ok⟩ := fid_open h
  obtain ⟨cs, rfl, _⟩ := okWide_struct Tryz.underlying36 hok
  refine ⟨vol, key, ck, ?_, ok⟩
  have hn' : cs.toList = [.int .i64 vol, .int .u64 key, .int .u32 ck] := hn
  rw [show cs = #[.int .i64 vol, .int .u64 key, .int .u32 ck] by rw [← Array.toList_inj]; exact hn']
end Go.Proofs.YtcjnaljdbbjojaaGreatDoor
