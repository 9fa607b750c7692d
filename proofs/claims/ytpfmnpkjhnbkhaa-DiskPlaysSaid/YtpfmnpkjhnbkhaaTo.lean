/- DiskPlays: a script that comes in. Nothing is claimed here. -/
import Derived.Test.YtpfmnpkjhnbkhaaTn
namespace Go.Proofs.Ytpfmnpkjhnbkhaa
open Go.RowKit
set_option linter.unusedVariables false
set_option linter.unusedSimpArgs false
theorem six' {l : List Value} (h : l.length = 6) : ∃ a b c d e f, l = [a, b, c, d, e, f] := by
  match l, h with
  | [a, b, c, d, e, f], _ => exact ⟨a, b, c, d, e, f, rfl⟩
theorem stp_open {w : World} {l : List Value} (h : opz Try.prog TT 140737488355328 w 3 54 l) : ∃ s : Stp, l = stpC s ∧ InStp w s := by
  obtain ⟨hlen, h1, h2, h3, h4, h5, h6, _⟩ := h
  obtain ⟨a, b, c, d, e, f, rfl⟩ := six' hlen
  obtain ⟨n1, e1, w1⟩ := h1
  obtain ⟨n2, e2, w2⟩ := h2
  obtain ⟨n3, e3, w3⟩ := h3
  obtain ⟨n4, e4, w4⟩ := h4
  obtain ⟨l5, hl5, w5⟩ := bytes_open (d := 0) h5
  obtain ⟨n6, e6, w6⟩ := h6
  have e1' : [a] = [.int .i64 n1] := e1
  have e2' : [b] = [.int .i64 n2] := e2
  have e3' : [c] = [.string n3] := e3
  have e4' : [d] = [.string n4] := e4
  have e6' : [f] = [.int .u8 n6] := e6
  injection e1' with e1'
  injection e2' with e2'
  injection e3' with e3'
  injection e4' with e4'
  injection e6' with e6'
  subst e1'; subst e2'; subst e3'; subst e4'; subst e6'
  obtain ⟨x, rfl⟩ := wf_u8 w6
  exact ⟨⟨n1, n2, n3, n4, e, l5, x⟩, rfl, i64_wf w2, w3, w4, w5, hl5⟩
theorem steps_open {w : World} {v : Value} (h : opz Try.prog TT 140737488355328 w 4 48 [v]) : ∃ ss : List Stp, SlN w 6 v ss.length (ss.flatMap stpC) ∧ ∀ s ∈ ss, InStp w s := by
  obtain ⟨ss, h1, h2, _⟩ := sl_open (α := Stp) tl48 tl54 (by decide) stpC stpC_len (fun s => InStp w s) (fun es _ h => stp_open h) h
  exact ⟨ss, h1, h2⟩
end Go.Proofs.Ytpfmnpkjhnbkhaa
