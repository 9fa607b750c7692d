/- ClientEnds: calls that come in. Nothing is claimed here. -/
import Derived.Test.YtcjnaljdbbjojaaGreatDoorClze
import Derived.Test.YtcjnaljdbbjojaaGreatDoorClo
namespace Go.Proofs.YtcjnaljdbbjojaaGreatDoor
open Go.RowKit Go.WideShapes
set_option linter.unusedVariables false
set_option linter.unusedSimpArgs false
set_option maxRecDepth 100000
theorem cin_open {w : World} {l : List Value} (h : opz Tryz.prog TT 140737488355328 w 4 39 l) : ∃ c : Cin, l = cinC c ∧ InCin w c := by
  obtain ⟨hlen, h1, h2, h3, _⟩ := h
  obtain ⟨a, b, c, d, e, rfl⟩ : ∃ a b c d e, l = [a, b, c, d, e] := by
    match l, hlen with
    | [a, b, c, d, e], _ => exact ⟨a, b, c, d, e, rfl⟩
  obtain ⟨n1, e1, w1⟩ := h1
  obtain ⟨vol, key, ck, hx, _⟩ := fid_open (d := 0) h2
  obtain ⟨l4, hl4, w4⟩ := bytes_open (d := 1) h3
  have e1' : [a] = [.int .i64 n1] := e1
  have hx' : [b, c, d] = [.int .i64 vol, .int .u64 key, .int .u32 ck] := hx
  injection e1' with e1'
  subst e1'
  simp only [List.cons.injEq, and_true] at hx'
  obtain ⟨rfl, rfl, rfl⟩ := hx'
  exact ⟨⟨n1, vol, key, ck, e, l4⟩, rfl, hl4, w4⟩
theorem cins_open {w : World} {v : Value} (h : opz Tryz.prog TT 140737488355328 w 5 48 [v]) : ∃ cs : List Cin, SlN w 5 v cs.length (cs.flatMap cinC) ∧ ∀ c ∈ cs, InCin w c := by
  obtain ⟨ss, h1, h2, _⟩ := sl_open (α := Cin) tl48 tl39 (by decide) cinC cinC_len (fun c => InCin w c) (fun es _ h => cin_open h) h
  exact ⟨ss, h1, h2⟩
end Go.Proofs.YtcjnaljdbbjojaaGreatDoor
