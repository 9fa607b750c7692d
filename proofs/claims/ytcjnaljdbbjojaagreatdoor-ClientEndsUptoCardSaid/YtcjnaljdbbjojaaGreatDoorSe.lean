/- Maps as lists of things with keys. Nothing is claimed here. -/
import Derived.Test.YtcjnaljdbbjojaaGreatDoorSd
namespace Go.Proofs.YtcjnaljdbbjojaaGreatDoor
open Go.RowKit
open Go.Maps (Keyed)
set_option linter.unusedVariables false
set_option linter.unusedSimpArgs false

theorem split_map {α β : Type} {f : α → β} : ∀ {l : List α} {A B : List β} {x : β}, l.map f = A ++ x :: B → ∃ A' a B', l = A' ++ a :: B' ∧ A'.map f = A ∧ f a = x ∧ B'.map f = B
  | [], [], _, _, h => by cases h
  | [], _ :: _, _, _, h => by cases h
  | a :: l, [], B, x, h => by
    simp only [List.map_cons, List.nil_append, List.cons.injEq] at h
    exact ⟨[], a, l, rfl, rfl, h.1, h.2⟩
  | a :: l, y :: A, B, x, h => by
    simp only [List.map_cons, List.cons_append, List.cons.injEq] at h
    obtain ⟨A', a', B', h1, h2, h3, h4⟩ := split_map h.2
    exact ⟨a :: A', a', B', by rw [h1]; rfl, by rw [List.map_cons, h.1, h2], h3, h4⟩
section
variable {α κ : Type} [DecidableEq κ] (key : α → κ)
def getA : List α → κ → Option α
  | [], _ => none
  | a :: l, k => if key a = k then some a else getA l k
def putA : List α → α → List α
  | [], g => [g]
  | a :: l, g => if key a = key g then g :: l else a :: putA l g
def delA : List α → κ → List α
  | [], _ => []
  | a :: l, k => if key a = k then l else a :: delA l k
variable {key}
theorem getA_some {l : List α} {k : κ} {a : α} (h : getA key l k = some a) : key a = k ∧ a ∈ l := by
  induction l with
  | nil => cases h
  | cons b l ih =>
    unfold getA at h
    split at h
    · injection h with h; subst h; exact ⟨by assumption, by simp⟩
    · obtain ⟨h1, h2⟩ := ih h; exact ⟨h1, by simp [h2]⟩
theorem getA_none {l : List α} {k : κ} (h : getA key l k = none) : ∀ a ∈ l, key a ≠ k := by
  induction l with
  | nil => intro a ha; cases ha
  | cons b l ih =>
    unfold getA at h
    split at h
    · cases h
    · intro a ha
      rcases List.mem_cons.1 ha with rfl | ha
      · assumption
      · exact ih h a ha
theorem getA_mem {l : List α} (hnd : (l.map key).Nodup) {a : α} (ha : a ∈ l) : getA key l (key a) = some a := by
  induction l with
  | nil => cases ha
  | cons b l ih =>
    unfold getA
    rcases List.mem_cons.1 ha with rfl | ha
    · rw [if_pos rfl]
    · have hb : key b ∉ l.map key := (List.nodup_cons.1 hnd).1
      rw [if_neg (fun e : key b = key a => hb (by rw [e]; exact List.mem_map_of_mem ha))]
      exact ih (List.nodup_cons.1 hnd).2 ha
theorem putA_new {l : List α} {g : α} (h : ∀ a ∈ l, key a ≠ key g) : putA key l g = l ++ [g] := by
  induction l with
  | nil => rfl
  | cons b l ih =>
    unfold putA
    rw [if_neg (h b (by simp)), ih fun a ha => h a (by simp [ha])]; rfl
theorem putA_split {A C : List α} {u g : α} (hA : ∀ a ∈ A, key a ≠ key g) (hu : key u = key g) : putA key (A ++ u :: C) g = A ++ g :: C := by
  induction A with
  | nil => show putA key (u :: C) g = _; unfold putA; rw [if_pos hu]; rfl
  | cons b A ih =>
    show putA key (b :: (A ++ u :: C)) g = _
    unfold putA
    rw [if_neg (hA b (by simp)), ih fun a ha => hA a (by simp [ha])]; rfl
theorem delA_none {l : List α} {k : κ} (h : ∀ a ∈ l, key a ≠ k) : delA key l k = l := by
  induction l with
  | nil => rfl
  | cons b l ih => unfold delA; rw [if_neg (h b (by simp)), ih fun a ha => h a (by simp [ha])]
theorem delA_split {A C : List α} {u : α} {k : κ} (hA : ∀ a ∈ A, key a ≠ k) (hu : key u = k) : delA key (A ++ u :: C) k = A ++ C := by
  induction A with
  | nil => show delA key (u :: C) k = _; unfold delA; rw [if_pos hu]; rfl
  | cons b A ih =>
    show delA key (b :: (A ++ u :: C)) k = _
    unfold delA
    rw [if_neg (hA b (by simp)), ih fun a ha => hA a (by simp [ha])]; rfl
theorem putA_get (l : List α) (g : α) (k : κ) : getA key (putA key l g) k = if key g = k then some g else getA key l k := by
  induction l with
  | nil => simp [putA, getA]
  | cons b l ih =>
    unfold putA
    by_cases h : key b = key g
    · rw [if_pos h]
      by_cases h2 : key g = k
      · simp [getA, h2]
      · simp [getA, h, h2]
    · rw [if_neg h]
      by_cases h2 : key b = k
      · have : ¬ key g = k := fun e => h (h2.trans e.symm)
        simp [getA, h2, this]
      · simp [getA, h2, ih]
theorem putA_keys (l : List α) (g : α) : (putA key l g).map key = if key g ∈ l.map key then l.map key else l.map key ++ [key g] := by
  induction l with
  | nil => simp [putA]
  | cons b l ih =>
    unfold putA
    by_cases h : key b = key g
    · rw [if_pos h]; simp [h]
    · rw [if_neg h, List.map_cons, ih]
      by_cases h2 : key g ∈ l.map key
      · rw [if_pos h2, if_pos (by simp only [List.map_cons, List.mem_cons]; exact .inr h2)]; rfl
      · rw [if_neg h2, if_neg (by simp only [List.map_cons, List.mem_cons, not_or]; exact ⟨fun e => h e.symm, h2⟩)]; rfl
theorem putA_nd {l : List α} (hnd : (l.map key).Nodup) (g : α) : ((putA key l g).map key).Nodup := by
  rw [putA_keys]
  split
  · exact hnd
  · rename_i h
    rw [List.nodup_append]
    exact ⟨hnd, by simp, fun a ha b hb => by simp only [List.mem_singleton] at hb; subst hb; exact fun e => h (e ▸ ha)⟩
theorem putA_mem {l : List α} {g a : α} (h : a ∈ putA key l g) : a = g ∨ a ∈ l := by
  induction l with
  | nil => simp [putA] at h; exact .inl h
  | cons b l ih =>
    unfold putA at h
    split at h
    · rcases List.mem_cons.1 h with rfl | h
      · exact .inl rfl
      · exact .inr (by simp [h])
    · rcases List.mem_cons.1 h with rfl | h
      · exact .inr (by simp)
      · rcases ih h with h | h
        · exact .inl h
        · exact .inr (by simp [h])
variable {enc : κ → Value} {val : α → Value} (hinj : ∀ a b, enc a = enc b → a = b)
include hinj
theorem got_assoc {l : List α} (hnd : (l.map key).Nodup) {k : κ} {z u : Value} {ok : Bool} (h : Got (l.map fun a => (enc (key a), val a)) (enc k) z u ok) :
    (∃ a, getA key l k = some a ∧ u = val a ∧ ok = true) ∨ (getA key l k = none ∧ u = z ∧ ok = false) := by
  cases h with
  | yes _ h =>
    obtain ⟨a, ha, he⟩ := List.mem_map.1 h
    simp only [Prod.mk.injEq] at he
    obtain ⟨h1, h2⟩ := he
    have hk := hinj _ _ h1
    subst hk
    exact .inl ⟨a, getA_mem hnd ha, h2.symm, rfl⟩
  | no h =>
    refine .inr ⟨?_, rfl, rfl⟩
    cases hg : getA key l k with
    | none => rfl
    | some a =>
      obtain ⟨h1, h2⟩ := getA_some hg
      exact absurd (by rw [h1]) (h _ (List.mem_map_of_mem (f := fun a => (enc (key a), val a)) h2))
theorem put_assoc {l : List α} (hnd : (l.map key).Nodup) {g : α} {l' : List (Value × Value)} (h : Put (l.map fun a => (enc (key a), val a)) (enc (key g)) (val g) l') : l' = (putA key l g).map fun a => (enc (key a), val a) := by
  cases h with
  | new h =>
    rw [putA_new fun a ha e => h _ (List.mem_map_of_mem (f := fun a => (enc (key a), val a)) ha) (by rw [e])]
    simp
  | old A B u h =>
    obtain ⟨A', a, B', rfl, rfl, h3, rfl⟩ := split_map h
    simp only [Prod.mk.injEq] at h3
    have hk := hinj _ _ h3.1
    rw [putA_split (fun x hx e => ?_) hk]
    · simp
    · rw [List.map_append, List.map_cons] at hnd
      have := (List.nodup_append.1 hnd).2.2 (key x) (List.mem_map_of_mem hx) (key a) (by simp)
      exact this (e.trans hk.symm)
theorem gone_assoc {l : List α} (hnd : (l.map key).Nodup) {k : κ} {l' : List (Value × Value)} (h : Gone (l.map fun a => (enc (key a), val a)) (enc k) l') : l' = (delA key l k).map fun a => (enc (key a), val a) := by
  cases h with
  | no h =>
    rw [delA_none fun a ha e => h _ (List.mem_map_of_mem (f := fun a => (enc (key a), val a)) ha) (by rw [e])]
  | yes A B u h =>
    obtain ⟨A', a, B', rfl, rfl, h3, rfl⟩ := split_map h
    simp only [Prod.mk.injEq] at h3
    have hk := hinj _ _ h3.1
    rw [delA_split (fun x hx e => ?_) hk]
    · simp
    · rw [List.map_append, List.map_cons] at hnd
      have := (List.nodup_append.1 hnd).2.2 (key x) (List.mem_map_of_mem hx) (key a) (by simp)
      exact this (e.trans hk.symm)
end
end Go.Proofs.YtcjnaljdbbjojaaGreatDoor
