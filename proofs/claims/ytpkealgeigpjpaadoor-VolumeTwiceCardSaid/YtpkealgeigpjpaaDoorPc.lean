/- VolumeRots, plain. Nothing is claimed here. -/
import Derived.Test.YtpkealgeigpjpaaDoorPb
namespace Go.Proofs.YtpkealgeigpjpaaDoor
open Go.RowKit
set_option linter.unusedVariables false
set_option linter.unusedSimpArgs false
set_option maxRecDepth 100000

theorem layP_mem {ps : List Pc} {q p : Pc} (h : p ∈ layP ps q) : p ∈ ps ∨ p = q := by
  unfold layP at h
  split at h
  · exact (putA_mem h).symm
  · split at h
    · exact (putA_mem h).symm
    · exact .inl h
theorem foldP_mem : ∀ (Rs : List Nd) {at_ : Nat} {ps : List Pc} {p : Pc}, p ∈ foldP at_ ps Rs → p ∈ ps ∨ p ∈ plc at_ Rs
  | [], _, _, _, h => .inl h
  | r :: rs, at_, ps, p, h => by
    rcases foldP_mem rs h with h | h
    · rcases layP_mem h with h | rfl
      · exact .inl h
      · exact .inr (by simp [plc])
    · exact .inr (by simp [plc, h])
/-- a file with one byte that rots is gone through: no other places are told -/
theorem scan_rot : ∀ (Rs : List Nd) {H : List UInt8} {ps ps' : List Pc} {o : Option Nat} {k : Nat} {z : UInt8}, (∀ r ∈ Rs, OkRec r) → H.length ≤ k → (H ++ flat Rs)[k]? ≠ some z → Scan ((H ++ flat Rs).set k z) H.length ps ps' o → ∀ p ∈ ps', p ∈ ps ∨ p ∈ plc H.length Rs
  | [], H, ps, ps', o, k, z, _, hk, _, h => by
    rw [List.set_eq_of_length_le (by simp [flat]; exact hk)] at h
    intro p hp
    rw [(scan_clean [] (by simp) h).1] at hp
    exact foldP_mem [] hp
  | r :: rs, H, ps, ps', o, k, z, hok, hk, hz, h => by
    have hr := hok r (by simp)
    obtain ⟨hx, hd⟩ := encNE_zero.1 hr.enc
    have hsz := szR_le r
    have hel := encR_len r
    have hdrop : ((H ++ flat (r :: rs)).set k z).drop H.length = (encN r.key r.cook r.dead r.xs ++ flat rs).set (k - H.length) z := by
      rw [List.drop_set, if_neg (by omega), drop_rec]
    have hlen : ((H ++ flat (r :: rs)).set k z).length = H.length + (szR r + lenR rs) := by
      rw [List.length_set, List.length_append, flatR_len]; simp [lenR]
    by_cases hin : k < H.length + szR r
    · -- in this record
      have hj : k - H.length < (encN r.key r.cook r.dead r.xs).length := by show _ < (encR r).length; omega
      have hzj : (encN r.key r.cook r.dead r.xs)[k - H.length]? ≠ some z := by
        have e : (H ++ flat (r :: rs))[k]? = (encN r.key r.cook r.dead r.xs)[k - H.length]? := by
          rw [List.getElem?_append_right hk]
          show (encR r ++ flat rs)[k - H.length]? = (encR r)[k - H.length]?
          rw [List.getElem?_append_left (by omega)]
        rwa [e] at hz
      by_cases h24 : k - H.length < 24
      · have hf := rot_head (rest := flat rs) hzj h24
        cases h with
        | over _ _ h => omega
        | cut _ _ _ _ => exact fun p hp => .inl hp
        | step _ _ _ _ _ hE _ =>
          rw [hdrop, dE] at hE
          split at hE
          · omega
          · first | omega | (rw [if_pos hf] at hE; omega)
      · have h24' : 24 ≤ k - H.length := by omega
        cases h with
        | over _ _ h => omega
        | cut _ _ _ _ => exact fun p hp => .inl hp
        | step _ _ _ _ _ hE hs =>
          rw [hdrop, rot_key hr.key h24', rot_cook hr.cook h24', (rot_keeps hx h24').1, (rot_keeps hx h24').2] at hs
          have e : (H ++ flat (r :: rs)).set k z = (H ++ (encR r).set (k - H.length) z) ++ flat rs := by
            rw [List.set_append_right _ _ hk]
            show H ++ (encR r ++ flat rs).set (k - H.length) z = _
            rw [List.set_append_left _ _ (by omega), List.append_assoc]
          have el : H.length + szN r.xs.length = (H ++ (encR r).set (k - H.length) z).length := by rw [List.length_append, List.length_set, hel]; rfl
          rw [e, el] at hs
          obtain ⟨h1, _⟩ := scan_clean rs (fun q hq => hok q (by simp [hq])) hs
          intro p hp
          rw [h1] at hp
          rw [← el] at hp
          rcases foldP_mem rs hp with hp | hp
          · rcases layP_mem hp with hp | rfl
            · exact .inl hp
            · exact .inr (by simp [plc]; exact .inl rfl)
          · exact .inr (by simp only [plc, List.mem_cons]; exact .inr hp)
    · -- behind it
      have e0 := enc_E (rest := (flat rs).set (k - H.length - szR r) z) hr.key hr.cook hx hd
      have hd2 : ((H ++ flat (r :: rs)).set k z).drop H.length = encN r.key r.cook r.dead r.xs ++ (flat rs).set (k - H.length - szR r) z := by
        rw [hdrop]
        show (encR r ++ flat rs).set (k - H.length) z = encR r ++ _
        rw [List.set_append_right _ _ (by omega), hel]
      cases h with
      | over _ _ h => omega
      | cut _ _ _ hE => rw [hd2, e0] at hE; omega
      | step _ _ _ _ _ _ hs =>
        rw [hd2, enc_size hx, enc_key hr.key, enc_cook hr.cook, enc_dead] at hs
        have e : H ++ flat (r :: rs) = (H ++ encR r) ++ flat rs := by simp [flat]
        have el : H.length + szN r.xs.length = (H ++ encR r).length := by rw [List.length_append, hel]; rfl
        rw [e] at hs hz
        rw [el] at hs
        intro p hp
        have := scan_rot rs (fun q hq => hok q (by simp [hq])) (by rw [List.length_append, hel]; omega) hz hs p hp
        rw [← el] at this
        rcases this with h | h
        · rcases layP_mem h with h | rfl
          · exact .inl h
          · exact .inr (by simp [plc]; exact .inl rfl)
        · exact .inr (by simp only [plc, List.mem_cons]; exact .inr h)
theorem win_take {l : List UInt8} {a n c : Nat} (h : a + n ≤ c) : Go.Proofs.YtpkealgeigpjpaaDoor.win (l.take c) a n = Go.Proofs.YtpkealgeigpjpaaDoor.win l a n := by
  rw [win, win, List.drop_take, List.take_take, Nat.min_eq_left (by omega)]
section
variable {H : List UInt8} {A C : List Nd} {r : Nd} {k c : Nat} {z : UInt8} (hr : OkRec r)
theorem rec_at : rec (H ++ flat (A ++ r :: C)) (placeOf (H.length + lenR A) r) = encR r := by
  have e : H ++ flat (A ++ r :: C) = (H ++ flat A) ++ encR r ++ flat C := by
    rw [flat_app]; simp only [flat, List.flatMap_cons, List.append_assoc]
  rw [e, rec]
  exact win_app' (by rw [List.length_append, flatR_len]; rfl) (encR_len r)
include hr in
/-- of a rotten record nothing is told -/
theorem rot_read (hz : (H ++ flat (A ++ r :: C))[k]? ≠ some z) (h : readOk (((H ++ flat (A ++ r :: C)).set k z).take c) (placeOf (H.length + lenR A) r)) : dData (rec (((H ++ flat (A ++ r :: C)).set k z).take c) (placeOf (H.length + lenR A) r)) = r.xs := by
  obtain ⟨hx, hd⟩ := encNE_zero.1 hr.enc
  have hel := encR_len r
  have hc : (placeOf (H.length + lenR A) r).at_ + (placeOf (H.length + lenR A) r).n ≤ c := by
    have := h.1
    rw [List.length_take] at this; omega
  have hrec : rec (((H ++ flat (A ++ r :: C)).set k z).take c) (placeOf (H.length + lenR A) r) = rec ((H ++ flat (A ++ r :: C)).set k z) (placeOf (H.length + lenR A) r) := by
    rw [rec, rec]; exact win_take hc
  have hE := h.2.1
  rw [hrec] at hE ⊢
  by_cases hin : H.length + lenR A ≤ k ∧ k < H.length + lenR A + szR r
  · exfalso
    have hj : k - (H.length + lenR A) < (encN r.key r.cook r.dead r.xs).length := by show _ < (encR r).length; omega
    have e1 : rec ((H ++ flat (A ++ r :: C)).set k z) (placeOf (H.length + lenR A) r) = (encR r).set (k - (H.length + lenR A)) z := by
      rw [rec, win_set]
      show (if H.length + lenR A ≤ k ∧ k < H.length + lenR A + szR r then _ else _) = _
      rw [if_pos hin]
      exact congrArg (fun l : List UInt8 => l.set (k - (H.length + lenR A)) z) rec_at
    have hzj : (encN r.key r.cook r.dead r.xs)[k - (H.length + lenR A)]? ≠ some z := by
      have e := congrArg (fun l : List UInt8 => l[k - (H.length + lenR A)]?) (rec_at (H := H) (A := A) (C := C) (r := r))
      simp only [rec, win] at e
      rw [List.getElem?_take_of_lt (by show k - (H.length + lenR A) < szR r; omega), List.getElem?_drop, show (placeOf (H.length + lenR A) r).at_ + (k - (H.length + lenR A)) = k from by show H.length + lenR A + _ = k; omega] at e
      rw [e] at hz
      exact hz
    rw [e1] at hE
    have e2 : (encR r).set (k - (H.length + lenR A)) z = (encN r.key r.cook r.dead r.xs ++ []).set (k - (H.length + lenR A)) z := by rw [List.append_nil]; rfl
    rw [e2] at hE
    by_cases h24 : k - (H.length + lenR A) < 24
    · have hf := rot_head (rest := []) hzj h24
      rw [dE] at hE
      split at hE
      · cases hE
      · first | cases hE | (rw [if_pos hf] at hE; cases hE)
    · exact rot_tail hx hj hzj (by omega) hE
  · have e1 : rec ((H ++ flat (A ++ r :: C)).set k z) (placeOf (H.length + lenR A) r) = encR r := by
      rw [rec, win_set]
      show (if H.length + lenR A ≤ k ∧ k < H.length + lenR A + szR r then _ else _) = _
      rw [if_neg hin]
      exact rec_at
    rw [e1]
    exact data_enc hr.enc
include hr in
theorem rot_out (hout : ¬ (H.length + lenR A ≤ k ∧ k < H.length + lenR A + szR r)) : readOk ((H ++ flat (A ++ r :: C)).set k z) (placeOf (H.length + lenR A) r) := by
  have h := read_mem (H := H) (A := A) (C := C) hr
  have e1 : rec ((H ++ flat (A ++ r :: C)).set k z) (placeOf (H.length + lenR A) r) = rec (H ++ flat (A ++ r :: C)) (placeOf (H.length + lenR A) r) := by
    rw [rec, rec, win_set]
    show (if H.length + lenR A ≤ k ∧ k < H.length + lenR A + szR r then _ else _) = _
    rw [if_neg hout]
  have h1 := h.1
  rw [readOk] at h1 ⊢
  rw [e1, List.length_set]
  exact h1
end
/-- the records of rows -/
def recsR (xs : List (Value × List UInt8)) : List Nd := xs.mapIdx fun i p => ⟨i, 7, false, p.2⟩
theorem recsR_snoc {xs : List (Value × List UInt8)} {k : Nat} (h : k < xs.length) : recsR (xs.take (k + 1)) = recsR (xs.take k) ++ [⟨k, 7, false, (xs[k]).2⟩] := by
  rw [recsR, List.take_succ_eq_append_getElem h, List.mapIdx_append]
  simp [recsR, Nat.min_eq_left (Nat.le_of_lt h)]
theorem recsR_keys (xs : List (Value × List UInt8)) : (recsR xs).map Nd.key = List.range xs.length := by
  rw [recsR]
  apply List.ext_getElem
  · simp
  · intro i h1 h2
    simp
theorem recsR_get {xs : List (Value × List UInt8)} {k : Nat} (h : k < xs.length) : ∃ A C, recsR xs = A ++ ⟨k, 7, false, (xs[k]).2⟩ :: C ∧ A.length = k := by
  refine ⟨(recsR xs).take k, (recsR xs).drop (k + 1), ?_, by simp [recsR]; omega⟩
  have hl : k < (recsR xs).length := by simp [recsR]; exact h
  have : (recsR xs)[k] = ⟨k, 7, false, (xs[k]).2⟩ := by simp [recsR]
  rw [← this, List.getElem_cons_drop, List.take_append_drop]
end Go.Proofs.YtpkealgeigpjpaaDoor
