/- strings.Repeat of noughts; names of volumes with one digit. Maps as lists of things with keys. Nothing is claimed here. -/
import Derived.Test.YtladfadcgfdbfaaGreatDoorD12
namespace Go.Proofs.YtladfadcgfdbfaaGreatDoor
open Go.RowKit
set_option linter.unusedVariables false
set_option linter.unusedSimpArgs false
set_option maxRecDepth 100000
/-- n noughts -/
def zs (n : Nat) : ByteArray := ⟨(List.replicate n 48).toArray⟩
theorem mul64_fn (b : Nat) (hb : b < 4294967296) (w : World) : Fn Tryz.prog 134 #[.int .u64 1, .int .u64 b] w fun r w' => r = .tuple #[.int .u64 0, .int .u64 b] ∧ w' = w := by
  have hA : b &&& 4294967295 = b := by rw [show 4294967295 = 2 ^ 32 - 1 from rfl, Nat.and_two_pow_sub_one_eq_mod]; exact Nat.mod_eq_of_lt hb
  have hA0 : b / 4294967296 = 0 := Nat.div_eq_of_lt hb
  have hL := Sep.start Tryz.prog w
  have hB := Nat.le_refl w.heap.size
  refine Fn.mk Tryz.func134 rfl (by kernel_rfl) Tryz.ntmps134 rfl (by rw [Tryz.results134]) ?_
  repeat (first | (refine RunH ?_; intro w hL hB; try clear w) | (refine Both.mk ?_ ?_ <;> conv => whnf) | fail)
  refine Bt.and64 1 4294967295 rfl rfl (by decide) (by decide) ?_
  rw [show 1 &&& 4294967295 = 1 from by decide]
  conv => whnf
  repeat (first | (refine RunH ?_; intro w hL hB; try clear w) | (refine Both.mk ?_ ?_ <;> conv => whnf) | fail)
  refine Shr.u64 1 32 4294967296 rfl rfl (by decide) rfl ?_
  rw [show 1 / 4294967296 = 0 from by decide]
  conv => whnf
  repeat (first | (refine RunH ?_; intro w hL hB; try clear w) | (refine Both.mk ?_ ?_ <;> conv => whnf) | fail)
  refine Bt.and64 b 4294967295 rfl rfl (by omega) (by decide) ?_
  rw [hA]
  conv => whnf
  repeat (first | (refine RunH ?_; intro w hL hB; try clear w) | (refine Both.mk ?_ ?_ <;> conv => whnf) | fail)
  refine Shr.u64 b 32 4294967296 rfl rfl (by decide) rfl ?_
  rw [hA0]
  conv => whnf
  repeat (first | (refine RunH ?_; intro w hL hB; try clear w) | (refine Both.mk ?_ ?_ <;> conv => whnf) | fail)
  refine Shr.u64 b 32 4294967296 (by omega) rfl (by decide) rfl ?_
  rw [hA0]
  conv => whnf
  repeat (first | (refine RunH ?_; intro w hL hB; try clear w) | (refine Both.mk ?_ ?_ <;> conv => whnf) | fail)
  refine Bt.and64 0 4294967295 (by omega) rfl (by decide) (by decide) ?_
  rw [show 0 &&& 4294967295 = 0 from by decide]
  conv => whnf
  repeat (first | (refine RunH ?_; intro w hL hB; try clear w) | (refine Both.mk ?_ ?_ <;> conv => whnf) | fail)
  refine Shr.u64 0 32 4294967296 (by omega) rfl (by decide) rfl ?_
  rw [show 0 / 4294967296 = 0 from by decide]
  conv => whnf
  repeat (first | (refine RunH ?_; intro w hL hB; try clear w) | (refine Both.mk ?_ ?_ <;> conv => whnf) | fail)
  refine Shr.u64 0 32 4294967296 (by omega) rfl (by decide) rfl ?_
  rw [show 0 / 4294967296 = 0 from by decide]
  conv => whnf
  repeat (first | (refine RunH ?_; intro w hL hB; try clear w) | (refine Both.mk ?_ ?_ <;> conv => whnf) | fail)
  refine ⟨?_, rfl⟩
  congr 4
  all_goals first | rfl | (simp; done) | (simp; omega)
theorem mul_fn (b : Nat) (hb : b < 4294967296) (w : World) : Fn Tryz.prog 100 #[.int .u64 1, .int .u64 b] w fun r w' => r = .tuple #[.int .u64 0, .int .u64 b] ∧ w' = w := by
  refine Fn.mk Tryz.func100 rfl (by kernel_rfl) Tryz.ntmps100 rfl (by rw [Tryz.results100]) ?_
  refine RunR ?_
  refine (mul64_fn b hb _).mono fun r w' ⟨hr, hw⟩ => ?_
  subst hr; subst hw
  conv => whnf
  refine RunR ?_
  exact ⟨rfl, rfl⟩
theorem hasPre_fn (a z : ByteArray) (ha : a.size ≤ 1000) (hz : z.size ≤ a.size) (w : World) : Fn Tryz.prog 101 #[.string a, .string z] w fun r w' => r = .bool (decide (a.extract 0 z.size = z)) ∧ w' = w := by
  have hL := Sep.start Tryz.prog w
  have hB := Nat.le_refl w.heap.size
  refine Fn.mk Tryz.func101 rfl (by kernel_rfl) Tryz.ntmps101 rfl (by rw [Tryz.results101]) ?_
  refine RunR ?_
  refine Fn.mk Tryz.func135 rfl (by kernel_rfl) Tryz.ntmps135 rfl (by rw [Tryz.results135]) ?_
  repeat (first | (refine RunH ?_; intro w hL hB; try clear w) | (refine Both.mk ?_ ?_ <;> conv => whnf) | fail)
  exact ⟨rfl, rfl⟩
theorem repeat0_fn (n : Nat) (hn : n ≤ 8) (w : World) : Fn Tryz.prog 64 #[.string ⟨#[48]⟩, .int .i64 (n : Int)] w fun r w' => r = .string (zs n) ∧ w' = w := by
  have hL := Sep.start Tryz.prog w
  have hB := Nat.le_refl w.heap.size
  by_cases h0 : n = 0
  · subst h0
    refine Fn.mk Tryz.func64 rfl (by kernel_rfl) Tryz.ntmps64 rfl (by rw [Tryz.results64]) ?_
    repeat (first | (refine RunH ?_; intro w hL hB; try clear w) | (refine Both.mk ?_ ?_ <;> conv => whnf) | fail)
    exact ⟨rfl, rfl⟩
  by_cases h1 : n = 1
  · subst h1
    refine Fn.mk Tryz.func64 rfl (by kernel_rfl) Tryz.ntmps64 rfl (by rw [Tryz.results64]) ?_
    repeat (first | (refine RunH ?_; intro w hL hB; try clear w) | (refine Both.mk ?_ ?_ <;> conv => whnf) | fail)
    exact ⟨rfl, rfl⟩
  refine Fn.mk Tryz.func64 rfl (by kernel_rfl) Tryz.ntmps64 rfl (by rw [Tryz.results64]) ?_
  repeat (first | (refine RunH ?_; intro w hL hB; try clear w) | (refine Both.mk ?_ ?_ <;> conv => whnf) | fail)
  rw [show (⟨#[48]⟩ : ByteArray).size = 1 from rfl]
  refine Ar.u64 (by omega) (by omega) ?_
  conv => whnf
  repeat (first | (refine RunH ?_; intro w hL hB; try clear w) | (refine Both.mk ?_ ?_ <;> conv => whnf) | fail)
  refine (mul_fn n (by omega) _).mono fun r w' ⟨hr, hw⟩ => ?_
  subst hr; subst hw
  conv => whnf
  repeat (first | (refine RunH ?_; intro w hL hB; try clear w) | (refine Both.mk ?_ ?_ <;> conv => whnf) | fail)
  refine Chk.mk ⟨by decide, by decide⟩ ?_
  intro b1 hb1
  obtain rfl : b1 = 48 := (Option.some.inj hb1).symm
  rw [show (48 : UInt8).toNat = 48 from rfl]
  conv => whnf
  repeat (first | (refine RunH ?_; intro w hL hB; try clear w) | (refine Both.mk ?_ ?_ <;> conv => whnf) | fail)
  refine (hasPre_fn _ ⟨#[48]⟩ (by decide) (by decide) _).mono fun r w' ⟨hr, hw⟩ => ?_
  subst hr; subst hw
  conv => whnf
  repeat (first | (refine RunH ?_; intro w hL hB; try clear w) | (refine Both.mk ?_ ?_ <;> conv => whnf) | fail)
  refine (hasPre_fn _ ⟨#[48]⟩ (by decide) (by decide) _).mono fun r w' ⟨hr, hw⟩ => ?_
  subst hr; subst hw
  conv => whnf
  repeat (first | (refine RunH ?_; intro w hL hB; try clear w) | (refine Both.mk ?_ ?_ <;> conv => whnf) | fail)
  refine (hasPre_fn _ ⟨#[48]⟩ (by decide) (by decide) _).mono fun r w' ⟨hr, hw⟩ => ?_
  subst hr; subst hw
  rw [decide_eq_true (by decide)]
  conv => whnf
  repeat (first | (refine RunH ?_; intro w hL hB; try clear w) | (refine Both.mk ?_ ?_ <;> conv => whnf) | fail)
  refine Chk.mk ⟨by decide, by omega, (show (n : Int) ≤ 64 from by omega)⟩ ?_
  conv => whnf
  repeat (first | (refine RunH ?_; intro w hL hB; try clear w) | (refine Both.mk ?_ ?_ <;> conv => whnf) | fail)
  obtain rfl | rfl | rfl | rfl | rfl | rfl | rfl : n = 2 ∨ n = 3 ∨ n = 4 ∨ n = 5 ∨ n = 6 ∨ n = 7 ∨ n = 8 := by omega
  all_goals exact ⟨congrArg Value.string (by decide +kernel), rfl⟩
/-- the text of one digit -/
theorem itoa1_fn (i : Nat) (hi : i = 1 ∨ i = 3 ∨ i = 5 ∨ i = 7) (w : World) : Fn Tryz.prog 63 #[.int .i64 (i : Int)] w fun r w' => r = .string ⟨#[UInt8.ofNat (48 + i)]⟩ ∧ w' = w := by
  have hL := Sep.start Tryz.prog w
  have hB := Nat.le_refl w.heap.size
  rcases hi with rfl | rfl | rfl | rfl <;> (
    refine Fn.mk Tryz.func63 rfl (by kernel_rfl) Tryz.ntmps63 rfl (by rw [Tryz.results63]) ?_
    repeat (first | (refine RunH ?_; intro w hL hB; try clear w) | (refine Both.mk ?_ ?_ <;> conv => whnf) | fail)
    refine Fn.mk Tryz.func99 rfl (by kernel_rfl) Tryz.ntmps99 rfl (by rw [Tryz.results99]) ?_
    repeat (first | (refine RunH ?_; intro w hL hB; try clear w) | (refine Both.mk ?_ ?_ <;> conv => whnf) | fail)
    refine Fn.mk Tryz.func132 rfl (by kernel_rfl) Tryz.ntmps132 rfl (by rw [Tryz.results132]) ?_
    repeat (first | (refine RunH ?_; intro w hL hB; try clear w) | (refine Both.mk ?_ ?_ <;> conv => whnf) | fail)
    refine Fn.mk Tryz.func153 rfl (by kernel_rfl) Tryz.ntmps153 rfl (by rw [Tryz.results153]) ?_
    repeat (first | (refine RunH ?_; intro w hL hB; try clear w) | (refine Both.mk ?_ ?_ <;> conv => whnf) | fail)
    refine Chk.mk ⟨by decide, by decide, (show _ ≤ ((36 : Nat) : Int) from by decide)⟩ ?_
    conv => whnf
    repeat (first | (refine RunH ?_; intro w hL hB; try clear w) | (refine Both.mk ?_ ?_ <;> conv => whnf) | fail)
    exact ⟨congrArg Value.string (by decide +kernel), rfl⟩)
def vnm (i : Nat) : ByteArray := ⟨#[118, 48, 48, 48, 48, 48, 48, 48, UInt8.ofNat (48 + i), 46, 100, 97, 116]⟩
theorem isID_fn (id : Int) (w : World) : Fn Tryz.prog 41 #[.int .i64 id] w fun r w' => r = .bool (decide (0 ≤ id ∧ id ≤ 99999999)) ∧ w' = w := by
  have hL := Sep.start Tryz.prog w
  have hB := Nat.le_refl w.heap.size
  refine Fn.mk Tryz.func41 rfl (by kernel_rfl) Tryz.ntmps41 rfl (by rw [Tryz.results41]) ?_
  repeat' (first | (refine RunH ?_; intro w hL hB; try clear w) | (refine Br.dec (fun hbr => ?_) (fun hbr => ?_) <;> conv => whnf) | (refine Br.mk (fun hbr => ?_) (fun hbr => ?_) <;> conv => whnf) | (refine Both.mk ?_ ?_ <;> conv => whnf) | fail)
  all_goals exact ⟨by simp; omega, rfl⟩
theorem vname_fn (i : Nat) (hi : i = 1 ∨ i = 3 ∨ i = 5 ∨ i = 7) (w : World) : Fn Tryz.prog 20 #[.int .i64 (i : Int)] w fun r w' => r = .string (vnm i) ∧ w' = w := by
  have hL := Sep.start Tryz.prog w
  have hB := Nat.le_refl w.heap.size
  have h9 : i ≤ 9 := by omega
  refine Fn.mk Tryz.func20 rfl (by kernel_rfl) Tryz.ntmps20 rfl (by rw [Tryz.results20]) ?_
  repeat (first | (refine RunH ?_; intro w hL hB; try clear w) | (refine Both.mk ?_ ?_ <;> conv => whnf) | fail)
  refine (isID_fn i _).mono fun r w' ⟨hr, hw⟩ => ?_
  rw [decide_eq_true (by omega)] at hr
  subst hr; subst hw
  conv => whnf
  repeat (first | (refine RunH ?_; intro w hL hB; try clear w) | (refine Both.mk ?_ ?_ <;> conv => whnf) | fail)
  refine (itoa1_fn i hi _).mono fun r w' ⟨hr, hw⟩ => ?_
  subst hr; subst hw
  conv => whnf
  repeat (first | (refine RunH ?_; intro w hL hB; try clear w) | (refine Both.mk ?_ ?_ <;> conv => whnf) | fail)
  rw [show ∀ c : UInt8, (⟨#[c]⟩ : ByteArray).size = 1 from fun _ => rfl]
  refine Ar.i64 (by decide) (by decide) ?_
  conv => whnf
  repeat (first | (refine RunH ?_; intro w hL hB; try clear w) | (refine Both.mk ?_ ?_ <;> conv => whnf) | fail)
  refine (repeat0_fn 7 (by decide) _).mono fun r w' ⟨hr, hw⟩ => ?_
  subst hr; subst hw
  conv => whnf
  repeat (first | (refine RunH ?_; intro w hL hB; try clear w) | (refine Both.mk ?_ ?_ <;> conv => whnf) | fail)
  rcases hi with rfl | rfl | rfl | rfl <;> (
    refine Chk.mk (by decide) ?_
    conv => whnf
    repeat (first | (refine RunH ?_; intro w hL hB; try clear w) | (refine Both.mk ?_ ?_ <;> conv => whnf) | fail)
    refine Chk.mk (by decide) ?_
    conv => whnf
    repeat (first | (refine RunH ?_; intro w hL hB; try clear w) | (refine Both.mk ?_ ?_ <;> conv => whnf) | fail)
    refine Chk.mk (by decide) ?_
    conv => whnf
    repeat (first | (refine RunH ?_; intro w hL hB; try clear w) | (refine Both.mk ?_ ?_ <;> conv => whnf) | fail)
    exact ⟨congrArg Value.string (by decide +kernel), rfl⟩)
end Go.Proofs.YtladfadcgfdbfaaGreatDoor
namespace Go.Proofs.YtladfadcgfdbfaaGreatDoor
open Go.RowKit
open Go.Maps (Keyed)
set_option linter.unusedVariables false
set_option linter.unusedSimpArgs false
theorem split_map {α β : Type} {f : α → β} : ∀ {l : List α} {A B : List β} {x : β}, l.map f = A ++ x :: B → ∃ A' a B', l = A' ++ a :: B' ∧ A'.map f = A ∧ f a = x ∧ B'.map f = B
  | [], [], _, _, h => by cases h
  | [], _ :: _, _, _, h => by cases h
  | a :: l, [], B, x, h => by
    simp only [List.map_cons, List.nil_append, List.cons.injEq] at h
    exact ⟨[], a, l, rfl, rfl, h.1, h.2⟩
  | a :: l, y :: A, B, x, h => by
    simp only [List.map_cons, List.cons_append, List.cons.injEq] at h
    obtain ⟨A', a', B', h1, h2, h3, h4⟩ := split_map h.2
    exact ⟨a :: A', a', B', by rw [h1]; rfl, by rw [List.map_cons, h.1, h2], h3, h4⟩
section
variable {α κ : Type} [DecidableEq κ] (key : α → κ)
def getA : List α → κ → Option α
  | [], _ => none
  | a :: l, k => if key a = k then some a else getA l k
def putA : List α → α → List α
  | [], g => [g]
  | a :: l, g => if key a = key g then g :: l else a :: putA l g
variable {key}
theorem getA_some {l : List α} {k : κ} {a : α} (h : getA key l k = some a) : key a = k ∧ a ∈ l := by
  induction l with
  | nil => cases h
  | cons b l ih =>
    unfold getA at h
    split at h
    · injection h with h; subst h; exact ⟨by assumption, by simp⟩
    · obtain ⟨h1, h2⟩ := ih h; exact ⟨h1, by simp [h2]⟩
theorem getA_none {l : List α} {k : κ} (h : getA key l k = none) : ∀ a ∈ l, key a ≠ k := by
  induction l with
  | nil => intro a ha; cases ha
  | cons b l ih =>
    unfold getA at h
    split at h
    · cases h
    · intro a ha
      rcases List.mem_cons.1 ha with rfl | ha
      · assumption
      · exact ih h a ha
theorem getA_mem {l : List α} (hnd : (l.map key).Nodup) {a : α} (ha : a ∈ l) : getA key l (key a) = some a := by
  induction l with
  | nil => cases ha
  | cons b l ih =>
    unfold getA
    rcases List.mem_cons.1 ha with rfl | ha
    · rw [if_pos rfl]
    · have hb : key b ∉ l.map key := (List.nodup_cons.1 hnd).1
      rw [if_neg (fun e : key b = key a => hb (by rw [e]; exact List.mem_map_of_mem ha))]
      exact ih (List.nodup_cons.1 hnd).2 ha
theorem putA_new {l : List α} {g : α} (h : ∀ a ∈ l, key a ≠ key g) : putA key l g = l ++ [g] := by
  induction l with
  | nil => rfl
  | cons b l ih =>
    unfold putA
    rw [if_neg (h b (by simp)), ih fun a ha => h a (by simp [ha])]; rfl
theorem putA_split {A C : List α} {u g : α} (hA : ∀ a ∈ A, key a ≠ key g) (hu : key u = key g) : putA key (A ++ u :: C) g = A ++ g :: C := by
  induction A with
  | nil => show putA key (u :: C) g = _; unfold putA; rw [if_pos hu]; rfl
  | cons b A ih =>
    show putA key (b :: (A ++ u :: C)) g = _
    unfold putA
    rw [if_neg (hA b (by simp)), ih fun a ha => hA a (by simp [ha])]; rfl
theorem putA_get (l : List α) (g : α) (k : κ) : getA key (putA key l g) k = if key g = k then some g else getA key l k := by
  induction l with
  | nil => simp [putA, getA]
  | cons b l ih =>
    unfold putA
    by_cases h : key b = key g
    · rw [if_pos h]
      by_cases h2 : key g = k
      · simp [getA, h2]
      · simp [getA, h, h2]
    · rw [if_neg h]
      by_cases h2 : key b = k
      · have : ¬ key g = k := fun e => h (h2.trans e.symm)
        simp [getA, h2, this]
      · simp [getA, h2, ih]
theorem putA_keys (l : List α) (g : α) : (putA key l g).map key = if key g ∈ l.map key then l.map key else l.map key ++ [key g] := by
  induction l with
  | nil => simp [putA]
  | cons b l ih =>
    unfold putA
    by_cases h : key b = key g
    · rw [if_pos h]; simp [h]
    · rw [if_neg h, List.map_cons, ih]
      by_cases h2 : key g ∈ l.map key
      · rw [if_pos h2, if_pos (by simp only [List.map_cons, List.mem_cons]; exact .inr h2)]; rfl
      · rw [if_neg h2, if_neg (by simp only [List.map_cons, List.mem_cons, not_or]; exact ⟨fun e => h e.symm, h2⟩)]; rfl
theorem putA_nd {l : List α} (hnd : (l.map key).Nodup) (g : α) : ((putA key l g).map key).Nodup := by
  rw [putA_keys]
  split
  · exact hnd
  · rename_i h
    rw [List.nodup_append]
    exact ⟨hnd, by simp, fun a ha b hb => by simp only [List.mem_singleton] at hb; subst hb; exact fun e => h (e ▸ ha)⟩
theorem putA_mem {l : List α} {g a : α} (h : a ∈ putA key l g) : a = g ∨ a ∈ l := by
  induction l with
  | nil => simp [putA] at h; exact .inl h
  | cons b l ih =>
    unfold putA at h
    split at h
    · rcases List.mem_cons.1 h with rfl | h
      · exact .inl rfl
      · exact .inr (by simp [h])
    · rcases List.mem_cons.1 h with rfl | h
      · exact .inr (by simp)
      · rcases ih h with h | h
        · exact .inl h
        · exact .inr (by simp [h])
variable {enc : κ → Value} {val : α → Value} (hinj : ∀ a b, enc a = enc b → a = b)
include hinj
theorem got_assoc {l : List α} (hnd : (l.map key).Nodup) {k : κ} {z u : Value} {ok : Bool} (h : Got (l.map fun a => (enc (key a), val a)) (enc k) z u ok) :
    (∃ a, getA key l k = some a ∧ u = val a ∧ ok = true) ∨ (getA key l k = none ∧ u = z ∧ ok = false) := by
  cases h with
  | yes _ h =>
    obtain ⟨a, ha, he⟩ := List.mem_map.1 h
    simp only [Prod.mk.injEq] at he
    obtain ⟨h1, h2⟩ := he
    have hk := hinj _ _ h1
    subst hk
    exact .inl ⟨a, getA_mem hnd ha, h2.symm, rfl⟩
  | no h =>
    refine .inr ⟨?_, rfl, rfl⟩
    cases hg : getA key l k with
    | none => rfl
    | some a =>
      obtain ⟨h1, h2⟩ := getA_some hg
      exact absurd (by rw [h1]) (h _ (List.mem_map_of_mem (f := fun a => (enc (key a), val a)) h2))
theorem put_assoc {l : List α} (hnd : (l.map key).Nodup) {g : α} {l' : List (Value × Value)} (h : Put (l.map fun a => (enc (key a), val a)) (enc (key g)) (val g) l') : l' = (putA key l g).map fun a => (enc (key a), val a) := by
  cases h with
  | new h =>
    rw [putA_new fun a ha e => h _ (List.mem_map_of_mem (f := fun a => (enc (key a), val a)) ha) (by rw [e])]
    simp
  | old A B u h =>
    obtain ⟨A', a, B', rfl, rfl, h3, rfl⟩ := split_map h
    simp only [Prod.mk.injEq] at h3
    have hk := hinj _ _ h3.1
    rw [putA_split (fun x hx e => ?_) hk]
    · simp
    · rw [List.map_append, List.map_cons] at hnd
      have := (List.nodup_append.1 hnd).2.2 (key x) (List.mem_map_of_mem hx) (key a) (by simp)
      exact this (e.trans hk.symm)
end
end Go.Proofs.YtladfadcgfdbfaaGreatDoor
