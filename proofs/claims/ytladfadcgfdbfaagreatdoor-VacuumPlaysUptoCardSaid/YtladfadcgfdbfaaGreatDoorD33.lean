/- VolumePlays, plain: what the reference's list of records tells. garnerref11: Size, Decode, Encode. Nothing is claimed here. -/
import Derived.Test.YtladfadcgfdbfaaGreatDoorD25
import Derived.Test.YtladfadcgfdbfaaGreatDoorD22
import Derived.Test.YtladfadcgfdbfaaGreatDoorD16
import Derived.Test.YtladfadcgfdbfaaGreatDoorD23
import Derived.Test.YtladfadcgfdbfaaGreatDoorD14
namespace Go.Proofs.YtladfadcgfdbfaaGreatDoor
open Go.RowKit
set_option linter.unusedVariables false
set_option linter.unusedSimpArgs false
set_option maxRecDepth 100000
/-- what is there of a key: the first mark, else the first -/
def there (f : Option Pc) : List Pc → Nat → Option Pc
  | [], _ => f
  | p :: L, k => if p.key = k then (if p.dead = true then some p else there (some (f.getD p)) L k) else there f L k
theorem there_key : ∀ (L : List Pc) (f : Option Pc) (k : Nat) (o : Pc), (∀ x, f = some x → x.key = k) → there f L k = some o → o.key = k ∧ (o ∈ L ∨ f = some o)
  | [], f, k, o, hf, h => ⟨hf o h, .inr h⟩
  | p :: L, f, k, o, hf, h => by
    rw [there] at h
    split at h
    · rename_i hp
      split at h
      · injection h with h
        subst h
        exact ⟨hp, .inl (List.mem_cons_self ..)⟩
      · obtain ⟨h1, h2⟩ := there_key L (some (f.getD p)) k o (fun x hx => by
          injection hx with hx
          subst hx
          cases f with
          | none => exact hp
          | some y => exact hf y rfl) h
        refine ⟨h1, ?_⟩
        rcases h2 with h2 | h2
        · exact .inl (List.mem_cons_of_mem _ h2)
        · injection h2 with h2
          cases f with
          | none => exact .inl (by rw [← h2]; exact List.mem_cons_self ..)
          | some y => exact .inr (by rw [← h2]; rfl)
    · obtain ⟨h1, h2⟩ := there_key L f k o hf h
      exact ⟨h1, h2.imp (List.mem_cons_of_mem _) id⟩
theorem there_mem {L : List Pc} {k : Nat} {o : Pc} (h : there none L k = some o) : o.key = k ∧ o ∈ L := by
  obtain ⟨h1, h2⟩ := there_key L none k o (fun x hx => by cases hx) h
  exact ⟨h1, h2.resolve_right (fun h => by cases h)⟩
theorem there_none : ∀ (L : List Pc) (f : Option Pc) (k : Nat), there f L k = none ↔ f = none ∧ k ∉ L.map Pc.key
  | [], f, k => by simp [there]
  | p :: L, f, k => by
    rw [there]
    split
    · rename_i hp
      split
      · simp [hp]
      · rw [there_none L]; simp [hp]
    · rename_i hp
      rw [there_none L]
      simp only [List.map_cons, List.mem_cons, not_or]
      exact ⟨fun h => ⟨h.1, fun e => hp e.symm, h.2⟩, fun h => ⟨h.1, h.2.2⟩⟩
theorem there_snoc : ∀ (L : List Pc) (f : Option Pc) (p : Pc) (k : Nat), (∀ x, f = some x → x.dead = false) → there f (L ++ [p]) k = if p.key = k then (match there f L k with | none => some p | some o => if p.dead = true ∧ o.dead = false then some p else some o) else there f L k
  | [], f, p, k, hf => by
    simp only [List.nil_append, there]
    split
    · cases f with
      | none => cases p.dead <;> simp
      | some y =>
        have := hf y rfl
        cases p.dead <;> simp [this]
    · rfl
  | q :: L, f, p, k, hf => by
    simp only [List.cons_append, there]
    by_cases hq : q.key = k
    · simp only [hq, if_true]
      by_cases hd : q.dead = true
      · simp [hd]
      · simp only [hd, if_false]
        exact there_snoc L _ p k (fun x hx => by
          injection hx with hx
          subst hx
          cases f with
          | none => simpa using hd
          | some y => exact hf y rfl)
    · simp only [hq, if_false]
      exact there_snoc L f p k hf
/-- what the volume has in its map, and the reference in its list, tell alike -/
structure Rel (ps rL : List Pc) : Prop where
  nd : NdP ps
  get : ∀ k, getP ps k = there none rL k
theorem Rel.nil : Rel [] [] := ⟨List.nodup_nil, fun k => rfl⟩
theorem Rel.lay {ps rL : List Pc} (h : Rel ps rL) (p : Pc) : Rel (layP ps p) (rL ++ [p]) := by
  refine ⟨h.nd.lay p, fun k => ?_⟩
  rw [there_snoc rL none p k (fun x hx => by cases hx)]
  have hput : ∀ k, getP (putP ps p) k = if p.key = k then some p else getP ps k := fun k => putA_get ps p k
  by_cases hk : p.key = k
  · subst hk
    rw [if_pos rfl, ← h.get]
    unfold layP
    cases hg : getP ps p.key with
    | none => simp only [hput, if_true]
    | some o =>
      simp only
      split
      · simp only [hput, if_true]
      · exact hg
  · rw [if_neg hk, ← h.get]
    unfold layP
    split
    · rw [hput, if_neg hk]
    · split
      · rw [hput, if_neg hk]
      · rfl
/-- a place is laid among others, by its key -/
def insP : List Pc → Pc → List Pc
  | [], p => [p]
  | c :: C, p => if c.key < p.key then c :: insP C p else if c.key = p.key then c :: C else p :: c :: C
theorem insP_split : ∀ (A : List Pc) {C : List Pc} {p : Pc}, (∀ a ∈ A, a.key < p.key) → insP (A ++ C) p = A ++ insP C p
  | [], C, p, _ => rfl
  | a :: A, C, p, h => by
    rw [List.cons_append, insP, if_pos (h a (List.mem_cons_self ..)), insP_split A (fun x hx => h x (List.mem_cons_of_mem _ hx)), List.cons_append]
theorem insP_mem : ∀ {out : List Pc} {p : Pc}, (∀ x ∈ out, x.key = p.key → x = p) → ∀ x, x ∈ insP out p ↔ x ∈ out ∨ x = p
  | [], p, _, x => by simp [insP]
  | c :: C, p, h, x => by
    rw [insP]
    split
    · rw [List.mem_cons, insP_mem (fun x hx => h x (List.mem_cons_of_mem _ hx)), List.mem_cons, or_assoc]
    · split
      · rename_i he
        have := h c (List.mem_cons_self ..) he
        subst this
        exact ⟨.inl, fun hx => hx.elim id fun e => e ▸ List.mem_cons_self ..⟩
      · simp only [List.mem_cons]
        constructor
        · rintro (h | h | h)
          · exact .inr h
          · exact .inl (.inl h)
          · exact .inl (.inr h)
        · rintro ((h | h) | h)
          · exact .inr (.inl h)
          · exact .inr (.inr h)
          · exact .inl h
def SrtP (out : List Pc) : Prop := out.Pairwise fun a b => a.key < b.key
theorem insP_srt : ∀ {out : List Pc} {p : Pc}, SrtP out → (∀ x ∈ out, x.key = p.key → x = p) → SrtP (insP out p)
  | [], p, _, _ => by simp [insP, SrtP]
  | c :: C, p, hs, h => by
    have hs' := hs
    rw [SrtP, List.pairwise_cons] at hs'
    rw [insP]
    split
    · rename_i hlt
      refine List.pairwise_cons.2 ⟨fun x hx => ?_, insP_srt hs'.2 (fun x hx => h x (List.mem_cons_of_mem _ hx))⟩
      rcases (insP_mem (fun x hx => h x (List.mem_cons_of_mem _ hx)) x).1 hx with hx | rfl
      · exact hs'.1 x hx
      · exact hlt
    · split
      · exact hs
      · refine List.pairwise_cons.2 ⟨fun x hx => ?_, hs⟩
        rcases List.mem_cons.1 hx with rfl | hx
        · omega
        · have := hs'.1 x hx
          omega
/-- the reference's list of places, gone through as far as L -/
def plsR (rL L : List Pc) : List Pc := L.foldl (fun out q => insP out ((there none rL q.key).getD (noPc q.key))) []
theorem plsR_snoc (rL L : List Pc) (q : Pc) : plsR rL (L ++ [q]) = insP (plsR rL L) ((there none rL q.key).getD (noPc q.key)) := by
  rw [plsR, List.foldl_append]
  rfl
theorem there_some {rL : List Pc} {q : Pc} (h : q ∈ rL) : ∃ o, there none rL q.key = some o ∧ o.key = q.key ∧ o ∈ rL := by
  cases hg : there none rL q.key with
  | none => exact absurd (List.mem_map_of_mem h) ((there_none rL none q.key).1 hg).2
  | some o =>
    obtain ⟨h1, h2⟩ := there_mem hg
    exact ⟨o, rfl, h1, h2⟩
theorem plsR_of (rL : List Pc) : ∀ (n : Nat), n ≤ rL.length → SrtP (plsR rL (rL.take n)) ∧ ∀ x, x ∈ plsR rL (rL.take n) ↔ ∃ q ∈ rL.take n, there none rL q.key = some x
  | 0, _ => by simp [plsR, SrtP]
  | n + 1, hn => by
    obtain ⟨h1, h2⟩ := plsR_of rL n (by omega)
    rw [List.take_succ_eq_append_getElem (by omega), plsR_snoc]
    obtain ⟨o, ho, hok, _⟩ := there_some (List.getElem_mem (l := rL) (n := n) (by omega))
    rw [ho, Option.getD_some]
    have huq : ∀ x ∈ plsR rL (rL.take n), x.key = o.key → x = o := fun x hx he => by
      obtain ⟨q, hq, hqx⟩ := (h2 x).1 hx
      have h3 := (there_mem hqx).1
      rw [show q.key = (rL[n]'(by omega)).key from by omega, ho] at hqx
      injection hqx with hqx
      exact hqx.symm
    refine ⟨insP_srt h1 huq, fun x => ?_⟩
    rw [insP_mem huq, h2]
    simp only [List.mem_append, List.mem_singleton]
    constructor
    · rintro (⟨q, hq, hx⟩ | rfl)
      · exact ⟨q, .inl hq, hx⟩
      · exact ⟨_, .inr rfl, ho⟩
    · rintro ⟨q, hq | rfl, hx⟩
      · exact .inl ⟨q, hq, hx⟩
      · rw [ho] at hx
        injection hx with hx
        exact .inr hx.symm
theorem plsR_eq {ps rL : List Pc} (h : Rel ps rL) : plsR rL rL = plsOf ps := by
  obtain ⟨h1, h2⟩ := plsR_of rL rL.length (Nat.le_refl _)
  rw [List.take_length] at h1 h2
  generalize plsR rL rL = out at *
  have hkeys : (out.map Pc.key).Pairwise (· < ·) := List.pairwise_map.2 h1
  have hnd : (out.map Pc.key).Nodup := hkeys.imp fun h => Nat.ne_of_lt h
  have hp : (ps.map Pc.key).Perm (out.map Pc.key) := by
    refine (List.perm_ext_iff_of_nodup h.nd hnd).2 fun k => ?_
    have e1 : k ∈ ps.map Pc.key ↔ there none rL k ≠ none := by
      rw [← h.get]
      constructor
      · intro hk
        obtain ⟨p, _, _, hg⟩ := getP_some' hk
        rw [hg]; simp
      · intro hg
        cases hg' : getP ps k with
        | none => exact absurd hg' hg
        | some p =>
          obtain ⟨h3, h4⟩ := getA_some hg'
          rw [← h3]; exact List.mem_map_of_mem h4
    rw [e1]
    constructor
    · intro hk
      cases hg : there none rL k with
      | none => exact absurd hg hk
      | some o =>
        obtain ⟨h3, h4⟩ := there_mem hg
        subst h3
        exact List.mem_map_of_mem ((h2 o).2 ⟨o, h4, hg⟩)
    · intro hk
      obtain ⟨x, hx, rfl⟩ := List.mem_map.1 hk
      obtain ⟨q, hq, hqx⟩ := (h2 x).1 hx
      rw [(there_mem hqx).1, hqx]
      simp
  have hsort : sortedK ps = out.map Pc.key := by
    rw [sortedK, mergeN_of_perm hp]
    exact List.mergeSort_of_pairwise (hkeys.imp fun h => by simp only [leN, decide_eq_true_eq]; omega)
  rw [plsOf, hsort, List.map_map]
  symm
  refine (List.map_congr_left (g := id) fun x hx => ?_).trans (List.map_id _)
  obtain ⟨q, hq, hqx⟩ := (h2 x).1 hx
  simp only [Function.comp_apply, id, h.get, (there_mem hqx).1, hqx, Option.getD_some]
/-- a file is gone through from a place on, by the reference -/
inductive ScanL (b : List UInt8) : Nat → List Pc → List Pc → Option Nat → Prop
  | over (at_ : Nat) (ps : List Pc) (h : b.length ≤ at_) : ScanL b at_ ps ps none
  | cut (at_ : Nat) (ps : List Pc) (h : at_ < b.length) (hE : dE (b.drop at_) = 2 ∨ dE (b.drop at_) = 3) : ScanL b at_ ps ps (some at_)
  | step (at_ : Nat) (ps ps' : List Pc) (o : Option Nat) (h : at_ < b.length) (hE : dE (b.drop at_) = 4 ∨ dE (b.drop at_) = 0)
      (hs : ScanL b (at_ + szN (dSize (b.drop at_))) (ps ++ [⟨dKey (b.drop at_), at_, szN (dSize (b.drop at_)), dCook (b.drop at_), dDead (b.drop at_)⟩]) ps' o) : ScanL b at_ ps ps' o
theorem sumN_snoc (ps : List Pc) (p : Pc) : sumN (ps ++ [p]) = sumN ps + p.n := by simp [sumN]
theorem sumN_pls {ps : List Pc} (hnd : NdP ps) : sumN (plsOf ps) = sumN ps := by
  have hp : (plsOf ps).Perm ps := by
    have h1 : (plsOf ps).Perm ((ps.map Pc.key).map fun k => (getP ps k).getD (noPc k)) := (List.mergeSort_perm _ _).map _
    refine h1.trans ?_
    rw [List.map_map]
    refine List.Perm.of_eq ((List.map_congr_left (g := id) fun x hx => ?_).trans (List.map_id _))
    have : getP ps x.key = some x := getA_mem hnd hx
    simp only [Function.comp_apply, id, this, Option.getD_some]
  exact (hp.map _).sum_nat
end Go.Proofs.YtladfadcgfdbfaaGreatDoor
namespace Go.Proofs.YtladfadcgfdbfaaGreatDoor
open Go.RowKit
set_option linter.unusedVariables false
set_option linter.unusedSimpArgs false
set_option maxRecDepth 100000
theorem put_of4 {l : List UInt8} (h : l.length = 4) : putB (ofB l) 4 = l := by
  have h1 := ofB_lt l
  rw [h] at h1
  exact ofB_inj 4 _ _ (putB_len _ _) h (ofB_put4 _ h1)
theorem put_of8 {l : List UInt8} (h : l.length = 8) : putB (ofB l) 8 = l := by
  have h1 := ofB_lt l
  rw [h] at h1
  exact ofB_inj 8 _ _ (putB_len _ _) h (ofB_put8 _ h1)
/-- what the reference asks of a head -/
def badH (b : List UInt8) : Prop := b.getD 0 0 ≠ 110 ∨ b.getD 1 0 ≠ 100 ∨ 1 < (b.getD 2 0).toNat ∨ b.getD 3 0 ≠ 0 ∨ ofB (Go.Proofs.YtladfadcgfdbfaaGreatDoor.win b 20 4) ≠ crc (b.take 20) ∨ 65536 < dSize b ∨ (b.getD 2 0 = 1 ∧ 0 < dSize b)
theorem take4 {b : List UInt8} (h : 4 ≤ b.length) : b.take 4 = [b.getD 0 0, b.getD 1 0, b.getD 2 0, b.getD 3 0] := by
  match b, h with
  | b0 :: b1 :: b2 :: b3 :: l, _ => rfl
theorem take24 (b : List UInt8) : b.take 20 = b.take 4 ++ Go.Proofs.YtladfadcgfdbfaaGreatDoor.win b 4 8 ++ Go.Proofs.YtladfadcgfdbfaaGreatDoor.win b 12 4 ++ Go.Proofs.YtladfadcgfdbfaaGreatDoor.win b 16 4 ∧ b.take 24 = b.take 20 ++ Go.Proofs.YtladfadcgfdbfaaGreatDoor.win b 20 4 := by
  constructor
  · rw [show 20 = 4 + 8 + 4 + 4 from rfl, List.take_add, List.take_add, List.take_add]; rfl
  · rw [show 24 = 20 + 4 from rfl, List.take_add]; rfl
theorem form_iff {b : List UInt8} (h : 24 ≤ b.length) : dForm b ↔ badH b := by
  obtain ⟨e1, e2⟩ := take24 b
  have t4 := take4 (b := b) (by omega)
  have w1 : (Go.Proofs.YtladfadcgfdbfaaGreatDoor.win b 4 8).length = 8 := win_len (by omega)
  have w2 : (Go.Proofs.YtladfadcgfdbfaaGreatDoor.win b 12 4).length = 4 := win_len (by omega)
  have w3 : (Go.Proofs.YtladfadcgfdbfaaGreatDoor.win b 16 4).length = 4 := win_len (by omega)
  have w4 : (Go.Proofs.YtladfadcgfdbfaaGreatDoor.win b 20 4).length = 4 := win_len (by omega)
  have hhd : hd20 (dKey b) (dCook b) (dDead b) (dSize b) = [110, 100, if dDead b then 1 else 0, 0] ++ Go.Proofs.YtladfadcgfdbfaaGreatDoor.win b 4 8 ++ Go.Proofs.YtladfadcgfdbfaaGreatDoor.win b 12 4 ++ Go.Proofs.YtladfadcgfdbfaaGreatDoor.win b 16 4 := by
    rw [hd20, dKey, dCook, dSize, put_of8 w1, put_of4 w2, put_of4 w3]
  have hcrc : ∀ l, crc l < 4294967296 := crc_lt
  have hd2 : dDead b = true ↔ b.getD 2 0 = 1 := by
    rw [dDead, decide_eq_true_eq]
    constructor
    · intro h; exact UInt8.toNat_inj.1 (by have : (1 : UInt8).toNat = 1 := rfl; omega)
    · intro h; rw [h]; rfl
  constructor
  · intro hf
    refine Classical.byContradiction fun hno => ?_
    simp only [badH, not_or, not_and, Decidable.not_not] at hno
    obtain ⟨h0, h1, h2, h3, h5, h6, h7⟩ := hno
    rcases hf with hf | ⟨hf, hz⟩ | hf
    · exact h6 hf
    · exact h7 (hd2.1 hf) hz
    · apply hf
      have e20 : b.take 20 = hd20 (dKey b) (dCook b) (dDead b) (dSize b) := by
        rw [e1, hhd, t4, h0, h1, h3]
        have : b.getD 2 0 = if dDead b then 1 else 0 := by
          cases hd : dDead b
          · have hn : b.getD 2 0 ≠ 1 := fun e => by rw [hd2.2 e] at hd; cases hd
            have : (b.getD 2 0).toNat = 0 := by
              have : (b.getD 2 0).toNat ≠ 1 := fun e => hn (UInt8.toNat_inj.1 e)
              omega
            exact UInt8.toNat_inj.1 this
          · exact hd2.1 hd
        rw [← this]
      rw [e2, hd24, ← e20, ← h5, put_of4 w4]
  · intro hb
    refine Classical.byContradiction fun hno => ?_
    simp only [dForm, not_or, not_and, Decidable.not_not] at hno
    obtain ⟨h6, h7, h8⟩ := hno
    rw [e2, hd24] at h8
    obtain ⟨h9, h10⟩ := List.append_inj h8 (by rw [hd20_len]; simp; omega)
    have h5 : ofB (Go.Proofs.YtladfadcgfdbfaaGreatDoor.win b 20 4) = crc (b.take 20) := by rw [h10, ofB_put4 _ (hcrc _), h9]
    rw [e1, hhd, t4] at h9
    simp only [List.cons_append, List.nil_append, List.cons.injEq, and_true] at h9
    obtain ⟨a0, a1, a2, a3⟩ := h9
    rcases hb with hb | hb | hb | hb | hb | hb | ⟨hb, hz⟩
    · exact hb a0
    · exact hb a1
    · rw [a2] at hb
      have h2 : ∀ d : Bool, ¬ 1 < (if d = true then (1 : UInt8) else 0).toNat := by decide
      exact h2 _ hb
    · exact hb a3
    · exact hb h5
    · exact h6 hb
    · exact h7 (hd2.2 hb) hz
/-- what the reference asks of the rest -/
def badR (b : List UInt8) (i : Nat) : Prop := ofB (Go.Proofs.YtladfadcgfdbfaaGreatDoor.win b (24 + dSize b) 4) ≠ crc (dData b) ∨ ∃ t, 28 + dSize b ≤ t ∧ t < i ∧ b.getD t 0 ≠ 0
theorem rest_iff {b : List UInt8} (h : szN (dSize b) ≤ b.length) : dRest b ≠ dWant b ↔ badR b (szN (dSize b)) := by
  have hz := szN_le (dSize b)
  have e1 : dRest b = Go.Proofs.YtladfadcgfdbfaaGreatDoor.win b (24 + dSize b) 4 ++ Go.Proofs.YtladfadcgfdbfaaGreatDoor.win b (28 + dSize b) (szN (dSize b) - (28 + dSize b)) := by
    rw [dRest, Go.Proofs.YtladfadcgfdbfaaGreatDoor.win, Go.Proofs.YtladfadcgfdbfaaGreatDoor.win, Go.Proofs.YtladfadcgfdbfaaGreatDoor.win, show szN (dSize b) - (24 + dSize b) = 4 + (szN (dSize b) - (28 + dSize b)) from by omega, List.take_add, List.drop_drop, show 24 + dSize b + 4 = 28 + dSize b from by omega]
  have w4 : (Go.Proofs.YtladfadcgfdbfaaGreatDoor.win b (24 + dSize b) 4).length = 4 := win_len (by omega)
  have w5 : (Go.Proofs.YtladfadcgfdbfaaGreatDoor.win b (28 + dSize b) (szN (dSize b) - (28 + dSize b))).length = szN (dSize b) - (28 + dSize b) := win_len (by omega)
  have hw : ∀ t, t < szN (dSize b) - (28 + dSize b) → (Go.Proofs.YtladfadcgfdbfaaGreatDoor.win b (28 + dSize b) (szN (dSize b) - (28 + dSize b)))[t]? = some (b.getD (28 + dSize b + t) 0) := fun t ht => by
    rw [Go.Proofs.YtladfadcgfdbfaaGreatDoor.win, List.getElem?_take_of_lt ht, List.getElem?_drop, List.getD, List.getElem?_eq_getElem (by omega)]; rfl
  constructor
  · intro hne
    refine Classical.byContradiction fun hno => ?_
    simp only [badR, not_or, not_exists, not_and, Decidable.not_not] at hno
    apply hne
    rw [e1, dWant, ← hno.1, put_of4 w4]
    congr 1
    refine List.ext_getElem? fun t => ?_
    rw [List.getElem?_replicate]
    by_cases ht : t < szN (dSize b) - (28 + dSize b)
    · rw [if_pos ht, hw t ht, hno.2 _ (by omega) (by omega)]
    · rw [if_neg ht, List.getElem?_eq_none (by omega)]
  · intro hb he
    rw [e1, dWant] at he
    obtain ⟨h1, h2⟩ := List.append_inj he (by rw [w4, putB_len])
    rcases hb with hb | ⟨t, ht1, ht2, hb⟩
    · rw [h1, ofB_put4 _ (crc_lt _)] at hb
      exact hb rfl
    · have := hw (t - (28 + dSize b)) (by omega)
      rw [h2, List.getElem?_replicate, if_pos (by omega), show 28 + dSize b + (t - (28 + dSize b)) = t from by omega] at this
      injection this with this
      exact hb this.symm
theorem badR_succ (b : List UInt8) (i : Nat) (h : 28 + dSize b ≤ i) : badR b (i + 1) ↔ badR b i ∨ b.getD i 0 ≠ 0 := by
  constructor
  · rintro (h1 | ⟨t, h1, h2, h3⟩)
    · exact .inl (.inl h1)
    · by_cases ht : t = i
      · exact .inr (ht ▸ h3)
      · exact .inl (.inr ⟨t, h1, by omega, h3⟩)
  · rintro ((h1 | ⟨t, h1, h2, h3⟩) | h3)
    · exact .inl h1
    · exact .inr ⟨t, h1, by omega, h3⟩
    · exact .inr ⟨i, h, by omega, h3⟩
theorem put32Rm (v : Nat) (hv : v < 4294967296) (w : World) : Fn Tryz.prog 85 #[.int .u32 v] w fun r w' => w'.ownsRow w.heap.size 5 1 r (putB v 4).length (bv (putB v 4)) ∧ Below w.heap.size w w' :=
  (put32R_fn v hv w).mono fun r w' ⟨h1, h2⟩ => ⟨by rw [putB_len]; exact h1, h2⟩
theorem get32Rm {w : World} {v : Value} {l : List UInt8} (h : Sl w v (bv l)) (h4 : 4 ≤ l.length) : Fn Tryz.prog 149 #[v] w fun r w' => r = .int .u32 (ofB (l.take 4) : Int) ∧ Below w.heap.size w w' :=
  (get32R_fn v l h4 w h).mono fun r w' ⟨hw, hr⟩ => by subst hw; exact ⟨hr, (Below.refl _ w).drew⟩
theorem ofB8 {l : List UInt8} (h : 8 ≤ l.length) : ofB (l.take 8) = ofB (l.take 4) * 4294967296 + ofB ((l.drop 4).take 4) := by
  rw [show 8 = 4 + 4 from rfl, List.take_add]
  have : ∀ (x y : List UInt8), y.length = 4 → ofB (x ++ y) = ofB x * 4294967296 + ofB y := fun x y hy => by
    match y, hy with
    | [a, b, c, d], _ =>
      rw [show x ++ [a, b, c, d] = (((x ++ [a]) ++ [b]) ++ [c]) ++ [d] from by simp, ofB_snoc, ofB_snoc, ofB_snoc, ofB_snoc, ofB4]
      omega
  exact this _ _ (by simp; omega)
set_option maxHeartbeats 2000000 in
theorem get64R_fn (v : Value) (l : List UInt8) (h8 : 8 ≤ l.length) (w0 : World) (hs : Sl w0 v (bv l)) :
    Fn Tryz.prog 151 #[v] w0 fun r w' => r = .int .u64 (ofB (l.take 8) : Int) ∧ Below w0.heap.size w0 w' := by
  have hL := Sep.start Tryz.prog w0
  have hB := Nat.le_refl w0.heap.size
  have hle := hs.le
  obtain ⟨a, c, rfl⟩ := hs.shape
  simp only [bv_length] at *
  obtain ⟨bb, o, rfl, hr⟩ := hs.addr (by omega)
  have hlen := hs.len
  simp only [bv_length] at hlen
  have q1 := ofB_lt (l.take 4)
  have q2 := ofB_lt ((l.drop 4).take 4)
  rw [show (l.take 4).length = 4 from by simp; omega] at q1
  rw [show ((l.drop 4).take 4).length = 4 from by simp; omega] at q2
  rw [ofB8 h8]
  generalize hx : ofB (l.take 4) = x at *
  generalize hy : ofB ((l.drop 4).take 4) = y at *
  refine Fn.mk Tryz.func151 rfl (by kernel_rfl) Tryz.ntmps151 rfl (by rw [Tryz.results151]) ?_
  repeat (first | (refine RunK ?_; intro w hL hB; try clear w) | (refine V.tree ttOk (fun x0 => Sep Tryz.prog _ w0 x0 []) (.q 0 (.q 4 (.q 5 (.alt 1 (.q 2 (.q 3 (.alt 6 (.q 7 (.q 8 (.q 9 .nil))) .stop))) .stop)))) mixed (by decide +kernel) (hL.drew.sub (List.nil_sublist _)) ?_; replace hL := hL.drew; conv => whnf) | (refine V.tailA ttOk mixed (by decide +kernel) ?_; replace hL := hL.drew; conv => whnf) | (refine Both.mk ?_ ?_ <;> conv => whnf) | fail)
  intro o2 n2 c2 z1 z2 z3 z4
  conv => whnf
  refine (get32Rm (hL.sl hs rfl) (by omega)).mono fun r w ⟨hr, hw⟩ => ?_
  rw [hx] at hr
  subst hr
  replace hL := hL.call hB (Turns.of_below hw)
  replace hB := Nat.le_trans hB hw.size
  conv => whnf
  refine ⟨hL.sub (List.nil_sublist _), ?_⟩
  conv => whnf
  repeat (first | (refine RunH ?_; intro w hL hB; try clear w) | (refine Both.mk ?_ ?_ <;> conv => whnf) | fail)
  refine Shl.u64 32 4294967296 rfl (by decide) rfl ?_
  conv => whnf
  repeat (first | (refine RunH ?_; intro w hL hB; try clear w) | (refine Both.mk ?_ ?_ <;> conv => whnf) | fail)
  refine (get32Rm (l := l.drop 4) (by rw [bv_drop]; exact (hL.sl hs rfl).drop (k := 4) (by rw [bv_length]; omega) (by omega) (by omega) (by omega)) (by simp; omega)).mono fun r w ⟨hr, hw⟩ => ?_
  rw [hy] at hr
  subst hr
  replace hL := hL.call hB (Turns.of_below hw)
  replace hB := Nat.le_trans hB hw.size
  conv => whnf
  refine ⟨hL.sub (List.nil_sublist _), ?_⟩
  conv => whnf
  repeat (first | (refine RunH ?_; intro w hL hB; try clear w) | (refine Both.mk ?_ ?_ <;> conv => whnf) | fail)
  refine Bt.or64 (x * 4294967296) y (by omega) (by omega) (by omega) (by omega) ?_
  rw [or_add x y 32 4294967296 (by decide) (by omega)]
  conv => whnf
  repeat (first | (refine RunH ?_; intro w hL hB; try clear w) | (refine Both.mk ?_ ?_ <;> conv => whnf) | fail)
  exact ⟨rfl, hL.below⟩
end Go.Proofs.YtladfadcgfdbfaaGreatDoor
