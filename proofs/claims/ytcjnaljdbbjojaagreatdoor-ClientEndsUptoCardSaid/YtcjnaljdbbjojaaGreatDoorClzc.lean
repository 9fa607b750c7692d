/- ClientEnds: how the calls stand behind each Tick: plain. Nothing is claimed here. -/
import Derived.Test.YtcjnaljdbbjojaaGreatDoorClzb
namespace Go.Proofs.YtcjnaljdbbjojaaGreatDoor
open Go.RowKit
open Go.Maps (Keyed)
set_option linter.unusedVariables false
set_option linter.unusedSimpArgs false
set_option maxRecDepth 100000

/-- a call that asks for the (i+1)-th time and has waited t ticks -/
def Asking (g i t : Int) (q : QS) : Prop := q.waited = t ∧ q.step = (if q.kind = 1 then 0 else 1) ∧ q.master = g ∧ q.tried = i ∧ q.writes = 0 ∧ q.pause ≤ 1 ∧ 0 ≤ q.salt ∧ q.salt < 4294967296
def Pausing (i : Int) (q : QS) : Prop := q.waited = 0 ∧ q.step = 6 ∧ q.pause = 1 ∧ q.tried = i ∧ q.writes = 0 ∧ 0 ≤ q.salt ∧ q.salt < 4294967296
def PhaseAt (T : Nat) (g : Int) (q : QS) : Prop := if T % 16 < 15 then Asking g ((T / 16 : Nat) : Int) ((T % 16 : Nat) : Int) q else Pausing ((T / 16 : Nat) + 1 : Int) q
theorem Fresh.phase {g : Int} {q : QS} (h : Fresh g q) : PhaseAt 0 g q := by
  obtain ⟨h1, h2, h3, h4, h5, h6, h7, h8⟩ := h
  rw [PhaseAt, if_pos (by omega)]
  exact ⟨h1, h2, h3, h4, h5, by omega, h7, h8⟩
theorem step_le {q : QS} (h : q.step = (if q.kind = 1 then 0 else 1)) : q.step = 0 ∨ q.step = 1 := by
  rw [h]; split <;> simp
theorem PhaseAt.idle {T : Nat} {g : Int} {q : QS} (h : PhaseAt T g q) (hT : T % 16 < 14) : Idle q ∧ PhaseAt (T + 1) g { q with waited := q.waited + 1 } := by
  rw [PhaseAt, if_pos (by omega)] at h
  obtain ⟨h1, h2, h3, h4, h5, h6, h7, h8⟩ := h
  have hs := step_le h2
  refine ⟨⟨by omega, by omega, by omega, .inr ⟨by omega, by omega, by omega⟩⟩, ?_⟩
  rw [PhaseAt, if_pos (by omega)]
  refine ⟨?_, h2, h3, ?_, h5, h6, h7, h8⟩
  · show q.waited + 1 = _
    omega
  · show q.tried = _
    rw [show (T + 1) / 16 = T / 16 from by omega]
    exact h4
theorem PhaseAt.late {T : Nat} {g : Int} {q : QS} (h : PhaseAt T g q) (hT : T % 16 = 14) (hi : T / 16 < 19) : Late g q ∧ PhaseAt (T + 1) (nxt g) { q with tried := q.tried + 1, step := 6, waited := 0, pause := 1, sent := .map none } := by
  rw [PhaseAt, if_pos (by omega)] at h
  obtain ⟨h1, h2, h3, h4, h5, h6, h7, h8⟩ := h
  refine ⟨⟨by omega, by omega, step_le h2, h3, by omega, by omega⟩, ?_⟩
  rw [PhaseAt, if_neg (by omega)]
  refine ⟨rfl, rfl, rfl, ?_, h5, h7, h8⟩
  show q.tried + 1 = _
  rw [show (T + 1) / 16 = T / 16 from by omega]
  omega
theorem PhaseAt.last {T : Nat} {g : Int} {q : QS} (h : PhaseAt T g q) (hT : T = 318) : Last g q := by
  subst hT
  rw [PhaseAt, if_pos (by omega)] at h
  obtain ⟨h1, h2, h3, h4, h5, h6, h7, h8⟩ := h
  exact ⟨by omega, by omega, step_le h2, h3, by omega, h5⟩
theorem PhaseAt.due {T : Nat} {g : Int} {q : QS} (h : PhaseAt T g q) (hT : T % 16 = 15) : Due q ∧ ∀ tk sm, PhaseAt (T + 1) g { q with step := if q.kind = 1 then 0 else 1, waited := 0, tk := tk, sent := sm, master := g } := by
  rw [PhaseAt, if_neg (by omega)] at h
  obtain ⟨h1, h2, h3, h4, h5, h6, h7⟩ := h
  refine ⟨⟨by omega, by omega, by omega, h2, h6, h7⟩, fun tk sm => ?_⟩
  rw [PhaseAt, if_pos (by omega)]
  refine ⟨?_, rfl, rfl, ?_, h5, ?_, h6, h7⟩
  · show (0 : Int) = _
    omega
  · show q.tried = _
    omega
  · show q.pause ≤ 1
    omega
theorem BL.kbs {g tk : Int} {qs qs' : List QB} {ms : List Value} {acc : List Res} (h : BL g tk qs qs' ms acc) : kbs qs' = kbs qs ∧ nums qs' = nums qs := by
  induction h with
  | nil => exact ⟨rfl, rfl⟩
  | snoc dn dn' ms acc b q nv dv sm h ih => exact ⟨by rw [kbs_app, kbs_app, ih.1], by simp only [nums, List.map_append] at ih ⊢; rw [ih.2]; rfl⟩
theorem BL.phase {g tk : Int} {T : Nat} {qs qs' : List QB} {ms : List Value} {acc : List Res} (h : BL g tk qs qs' ms acc) (hT : T % 16 = 15) (hp : ∀ p ∈ qs, PhaseAt T g p.2) : ∀ p ∈ qs', PhaseAt (T + 1) g p.2 := by
  induction h with
  | nil => intro p hp; cases hp
  | snoc dn dn' ms acc b q nv dv sm h ih =>
    intro p hp9
    rcases List.mem_append.1 hp9 with h1 | h1
    · exact ih (fun x hx => hp x (List.mem_append_left _ hx)) p h1
    · rw [List.mem_singleton] at h1
      subst h1
      exact ((hp (b, q) (by simp)).due hT).2 _ _
theorem kbs_idled (qs : List QB) : kbs (qs.map idled) = kbs qs ∧ nums (qs.map idled) = nums qs := ⟨by simp [kbs, idled, Function.comp_def], by simp [nums, idled, Function.comp_def]⟩
theorem kbs_rounded (qs : List QB) : kbs (qs.map rounded) = kbs qs ∧ nums (qs.map rounded) = nums qs := ⟨by simp [kbs, rounded, Function.comp_def], by simp [nums, rounded, Function.comp_def]⟩
theorem nums_len (qs : List QB) : (nums qs).length = qs.length := by simp [nums]
end Go.Proofs.YtcjnaljdbbjojaaGreatDoor
