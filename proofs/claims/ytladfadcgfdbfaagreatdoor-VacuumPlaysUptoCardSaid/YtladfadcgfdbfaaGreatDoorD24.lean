/- The part of XUh that is for any seat. Volumes, plain: files of whole records; a byte that rots. Nothing is claimed here. -/
import Derived.Test.YtladfadcgfdbfaaGreatDoorD22
import Derived.Test.YtladfadcgfdbfaaGreatDoorD23
namespace Go.Proofs.YtladfadcgfdbfaaGreatDoor
open Go.RowKit
open Go.Maps (Keyed)
set_option linter.unusedVariables false
set_option linter.unusedSimpArgs false
set_option maxRecDepth 100000
theorem NdP.nil : NdP [] := List.nodup_nil
instance (ps : List Pc) : Decidable (NdP ps) := by unfold NdP; infer_instance
def oneS (nm : ByteArray) (d : List UInt8) : List Fl := [⟨nm, d, d.length⟩]
section
variable {room id : Nat} {nm : ByteArray} {d xs : List UInt8} {ps : List Pc} {key cook : Nat} {dead : Bool}
theorem one_create (hnm : 1 ≤ nm.size ∧ nm.size ≤ 64) (hr : 8 ≤ room) : appE room [] nm 8 = 0 ∧ syncS (appS room [] nm (vhd id)) nm = oneS nm (vhd id) := by
  refine ⟨app_new hnm hr, ?_⟩
  rw [appS_new hnm (by rw [vhd_len]; exact hr), syncS]
  simp [getS, putS, oneS]
end
end Go.Proofs.YtladfadcgfdbfaaGreatDoor
namespace Go.Proofs.YtladfadcgfdbfaaGreatDoor
open Go.RowKit
set_option linter.unusedVariables false
set_option linter.unusedSimpArgs false
set_option maxRecDepth 100000
structure Nd where
  key : Nat
  cook : Nat
  dead : Bool
  xs : List UInt8
def encR (r : Nd) : List UInt8 := encN r.key r.cook r.dead r.xs
def szR (r : Nd) : Nat := szN r.xs.length
def flat (Rs : List Nd) : List UInt8 := Rs.flatMap encR
def lenR (Rs : List Nd) : Nat := (Rs.map szR).sum
structure OkRec (r : Nd) : Prop where
  key : r.key < 18446744073709551616
  cook : r.cook < 4294967296
  enc : encNE r.dead r.xs.length = 0
def placeOf (at_ : Nat) (r : Nd) : Pc := ⟨r.key, at_, szR r, r.cook, r.dead⟩
def foldP : Nat → List Pc → List Nd → List Pc
  | _, ps, [] => ps
  | at_, ps, r :: rs => foldP (at_ + szR r) (layP ps (placeOf at_ r)) rs
def plc : Nat → List Nd → List Pc
  | _, [] => []
  | at_, r :: rs => placeOf at_ r :: plc (at_ + szR r) rs
theorem encR_len (r : Nd) : (encR r).length = szR r := encN_len _ _ _ _
theorem szR_le (r : Nd) : 28 + r.xs.length ≤ szR r ∧ szR r ≤ 35 + r.xs.length := szN_le _
theorem flatR_len : ∀ Rs : List Nd, (flat Rs).length = lenR Rs
  | [] => rfl
  | r :: rs => by
    have := flatR_len rs
    simp only [flat, lenR, List.flatMap_cons, List.length_append, List.map_cons, List.sum_cons, encR_len] at *
    omega
theorem flat_app (A C : List Nd) : flat (A ++ C) = flat A ++ flat C := by simp [flat]
theorem lenR_app (A C : List Nd) : lenR (A ++ C) = lenR A + lenR C := by simp [lenR]
theorem foldP_snoc : ∀ (Rs : List Nd) (at_ : Nat) (ps : List Pc) (r : Nd), foldP at_ ps (Rs ++ [r]) = layP (foldP at_ ps Rs) (placeOf (at_ + lenR Rs) r)
  | [], at_, ps, r => by simp [foldP, lenR]
  | q :: rs, at_, ps, r => by
    simp only [List.cons_append, foldP]
    rw [foldP_snoc rs]
    congr 2
    simp only [lenR, List.map_cons, List.sum_cons]; omega
theorem plc_snoc : ∀ (Rs : List Nd) (at_ : Nat) (r : Nd), plc at_ (Rs ++ [r]) = plc at_ Rs ++ [placeOf (at_ + lenR Rs) r]
  | [], at_, r => by simp [plc, lenR]
  | q :: rs, at_, r => by
    simp only [List.cons_append, plc]
    rw [plc_snoc rs]
    congr 4
    simp only [lenR, List.map_cons, List.sum_cons]; omega
theorem plc_mem : ∀ {Rs : List Nd} {at_ : Nat} {p : Pc}, p ∈ plc at_ Rs → ∃ A r C, Rs = A ++ r :: C ∧ p = placeOf (at_ + lenR A) r
  | [], _, _, h => by cases h
  | r :: rs, at_, p, h => by
    rcases List.mem_cons.1 h with rfl | h
    · exact ⟨[], r, rs, rfl, by simp [lenR]⟩
    · obtain ⟨A, q, C, rfl, rfl⟩ := plc_mem h
      refine ⟨r :: A, q, C, rfl, ?_⟩
      congr 1
      simp only [lenR, List.map_cons, List.sum_cons]; omega
theorem drop_rec {H : List UInt8} {Rs : List Nd} {r : Nd} : (H ++ flat (r :: Rs)).drop H.length = encN r.key r.cook r.dead r.xs ++ flat Rs := by
  rw [List.drop_left' rfl]; rfl
/-- a clean file is gone through -/
theorem scan_clean : ∀ (Rs : List Nd) {H : List UInt8} {ps ps' : List Pc} {o : Option Nat}, (∀ r ∈ Rs, OkRec r) → Scan (H ++ flat Rs) H.length ps ps' o → ps' = foldP H.length ps Rs ∧ o = none
  | [], H, ps, ps', o, _, h => by
    cases h with
    | over _ _ h => exact ⟨rfl, rfl⟩
    | cut _ _ h _ => simp [flat] at h
    | step _ _ _ _ h _ _ => simp [flat] at h
  | r :: rs, H, ps, ps', o, hok, h => by
    have hr := hok r (by simp)
    obtain ⟨hx, hd⟩ := encNE_zero.1 hr.enc
    have hlen : (H ++ flat (r :: rs)).length = H.length + (szR r + lenR rs) := by
      rw [List.length_append, flatR_len]; simp [lenR]
    have hsz := szR_le r
    have e0 := enc_E (rest := flat rs) hr.key hr.cook hx hd
    cases h with
    | over _ _ h => omega
    | cut _ _ _ hE => rw [drop_rec, e0] at hE; omega
    | step _ _ _ _ _ _ hs =>
      rw [drop_rec, enc_size hx, enc_key hr.key, enc_cook hr.cook, enc_dead] at hs
      have e : H ++ flat (r :: rs) = (H ++ encR r) ++ flat rs := by simp [flat]
      have el : H.length + szN r.xs.length = (H ++ encR r).length := by rw [List.length_append, encR_len]; rfl
      rw [e, el] at hs
      obtain ⟨h1, h2⟩ := scan_clean rs (fun q hq => hok q (by simp [hq])) hs
      refine ⟨?_, h2⟩
      rw [h1, foldP]
      congr 1
      rw [List.length_append, encR_len]
/-! ### a byte that rots -/
section
variable {key cook : Nat} {dead : Bool} {xs rest : List UInt8} {j : Nat} {z : UInt8} (hk : key < 18446744073709551616) (hc : cook < 4294967296) (hx : xs.length ≤ 65536) (hj : j < (encN key cook dead xs).length) (hz : (encN key cook dead xs)[j]? ≠ some z)
end
end Go.Proofs.YtladfadcgfdbfaaGreatDoor
