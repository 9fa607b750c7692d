/- The part of XUh that is for any seat. Volumes, plain: files of whole records; a byte that rots. Nothing is claimed here. -/
import Derived.Test.YtladfadcgfdbfaaGreatDoorK22
import Derived.Test.YtladfadcgfdbfaaGreatDoorK23
namespace Go.Proofs.YtladfadcgfdbfaaGreatDoor
open Go.RowKit
open Go.Maps (Keyed)
set_option linter.unusedVariables false
set_option linter.unusedSimpArgs false
set_option maxRecDepth 100000

theorem NdP.nil : NdP [] := List.nodup_nil
instance (ps : List Pc) : Decidable (NdP ps) := by unfold NdP; infer_instance
def oneS (nm : ByteArray) (d : List UInt8) : List Fl := [⟨nm, d, d.length⟩]
section
variable {room id : Nat} {nm : ByteArray} {d xs : List UInt8} {ps : List Pc} {key cook : Nat} {dead : Bool}
theorem one_get : getS (oneS nm d) nm = some ⟨nm, d, d.length⟩ := get_one ⟨nm, d, d.length⟩
theorem one_sz : szS (oneS nm d) nm = d.length := by rw [szS, one_get]
theorem one_dat : datS (oneS nm d) nm = d := by rw [datS, one_get]
theorem one_create (hnm : 1 ≤ nm.size ∧ nm.size ≤ 64) (hr : 8 ≤ room) : appE room [] nm 8 = 0 ∧ syncS (appS room [] nm (vhd id)) nm = oneS nm (vhd id) := by
  refine ⟨app_new hnm hr, ?_⟩
  rw [appS_new hnm (by rw [vhd_len]; exact hr), syncS]
  simp [getS, putS, oneS]
theorem one_app (hnm : 1 ≤ nm.size ∧ nm.size ≤ 64) (hr : d.length + xs.length ≤ room) : appE room (oneS nm d) nm xs.length = 0 ∧ syncS (appS room (oneS nm d) nm xs) nm = oneS nm (d ++ xs) := by
  have e : appE room (oneS nm d) nm xs.length = 0 := by
    rw [appE, if_neg (fun h => h hnm), if_neg]
    rw [one_get]; simp [totS, oneS]; omega
  refine ⟨e, ?_⟩
  rw [appS, if_pos e, appF, one_get, syncS]
  simp [getS, putS, oneS]
theorem one_put (hnm : 1 ≤ nm.size ∧ nm.size ≤ 64) (hE : encNE dead xs.length = 0) (hB : vputB ps key dead = 0) (h4 : d.length + szN xs.length ≤ 4194304) (hr : d.length + szN xs.length ≤ room) :
    vputE room (oneS nm d) nm ps key dead xs.length = 0 ∧ vputS room (oneS nm d) nm ps key cook dead xs = oneS nm (d ++ encN key cook dead xs) ∧ vputP room (oneS nm d) nm ps key cook dead xs = layP ps ⟨key, d.length, szN xs.length, cook, dead⟩ := by
  have hl := encN_len key cook dead xs
  have ha := one_app (d := d) (xs := encN key cook dead xs) hnm (room := room) (by omega)
  have e : vputE room (oneS nm d) nm ps key dead xs.length = 0 := by
    rw [vputE, if_neg (fun h => h hE), if_neg (fun h => h hB), if_neg (by rw [one_sz]; omega), ← hl]; exact ha.1
  refine ⟨e, ?_, ?_⟩
  · rw [vputS, if_pos e]; exact ha.2
  · rw [vputP, if_pos e, one_sz]
theorem put_bad {S : List Fl} (h : encNE dead xs.length ≠ 0 ∨ vputB ps key dead ≠ 0) : vputE room S nm ps key dead xs.length = (if encNE dead xs.length ≠ 0 then encNE dead xs.length else vputB ps key dead) ∧ vputS room S nm ps key cook dead xs = S ∧ vputP room S nm ps key cook dead xs = ps := by
  have e : vputE room S nm ps key dead xs.length = (if encNE dead xs.length ≠ 0 then encNE dead xs.length else vputB ps key dead) := by
    rw [vputE]
    by_cases h1 : encNE dead xs.length ≠ 0
    · rw [if_pos h1, if_pos h1]
    · rw [if_neg h1, if_neg h1, if_pos (h.resolve_left h1)]
  have e0 : vputE room S nm ps key dead xs.length ≠ 0 := by
    rw [e]
    by_cases h1 : encNE dead xs.length ≠ 0
    · rw [if_pos h1]; exact h1
    · rw [if_neg h1]; exact h.resolve_left h1
  exact ⟨e, if_neg e0, if_neg e0⟩
/-- a record that stands whole is read -/
theorem read_enc {A C : List UInt8} (hk : key < 18446744073709551616) (hc : cook < 4294967296) (hE : encNE dead xs.length = 0) : readOk (A ++ encN key cook dead xs ++ C) ⟨key, A.length, szN xs.length, cook, dead⟩ ∧ rec (A ++ encN key cook dead xs ++ C) ⟨key, A.length, szN xs.length, cook, dead⟩ = encN key cook dead xs := by
  have hl := encN_len key cook dead xs
  have er : rec (A ++ encN key cook dead xs ++ C) ⟨key, A.length, szN xs.length, cook, dead⟩ = encN key cook dead xs := by
    rw [rec]; exact win_app' rfl hl
  obtain ⟨hx, hd⟩ := encNE_zero.1 hE
  refine ⟨?_, er⟩
  have e0 := enc_E (rest := []) hk hc hx hd
  have e1 := enc_size (key := key) (cook := cook) (dead := dead) (rest := []) hx
  have e2 := enc_key (cook := cook) (dead := dead) (xs := xs) (rest := []) hk
  have e3 := enc_cook (key := key) (dead := dead) (xs := xs) (rest := []) hc
  have e4 := enc_dead (key := key) (cook := cook) (dead := dead) (xs := xs) (rest := [])
  rw [List.append_nil] at e0 e1 e2 e3 e4
  rw [readOk, er]
  exact ⟨by simp [hl], e0, by rw [e1], e2, e3, e4⟩
theorem data_enc (hE : encNE dead xs.length = 0) : dData (encN key cook dead xs) = xs := by
  have := enc_data (key := key) (cook := cook) (dead := dead) (rest := []) (encNE_zero.1 hE).1
  rwa [List.append_nil] at this
end
end Go.Proofs.YtladfadcgfdbfaaGreatDoor
namespace Go.Proofs.YtladfadcgfdbfaaGreatDoor
open Go.RowKit
set_option linter.unusedVariables false
set_option linter.unusedSimpArgs false
set_option maxRecDepth 100000

structure Nd where
  key : Nat
  cook : Nat
  dead : Bool
  xs : List UInt8
def encR (r : Nd) : List UInt8 := encN r.key r.cook r.dead r.xs
def szR (r : Nd) : Nat := szN r.xs.length
def flat (Rs : List Nd) : List UInt8 := Rs.flatMap encR
def lenR (Rs : List Nd) : Nat := (Rs.map szR).sum
structure OkRec (r : Nd) : Prop where
  key : r.key < 18446744073709551616
  cook : r.cook < 4294967296
  enc : encNE r.dead r.xs.length = 0
def placeOf (at_ : Nat) (r : Nd) : Pc := ⟨r.key, at_, szR r, r.cook, r.dead⟩
def foldP : Nat → List Pc → List Nd → List Pc
  | _, ps, [] => ps
  | at_, ps, r :: rs => foldP (at_ + szR r) (layP ps (placeOf at_ r)) rs
def plc : Nat → List Nd → List Pc
  | _, [] => []
  | at_, r :: rs => placeOf at_ r :: plc (at_ + szR r) rs
theorem encR_len (r : Nd) : (encR r).length = szR r := encN_len _ _ _ _
theorem szR_le (r : Nd) : 28 + r.xs.length ≤ szR r ∧ szR r ≤ 35 + r.xs.length := szN_le _
theorem flatR_len : ∀ Rs : List Nd, (flat Rs).length = lenR Rs
  | [] => rfl
  | r :: rs => by
    have := flatR_len rs
    simp only [flat, lenR, List.flatMap_cons, List.length_append, List.map_cons, List.sum_cons, encR_len] at *
    omega
theorem flat_app (A C : List Nd) : flat (A ++ C) = flat A ++ flat C := by simp [flat]
theorem lenR_app (A C : List Nd) : lenR (A ++ C) = lenR A + lenR C := by simp [lenR]
theorem foldP_snoc : ∀ (Rs : List Nd) (at_ : Nat) (ps : List Pc) (r : Nd), foldP at_ ps (Rs ++ [r]) = layP (foldP at_ ps Rs) (placeOf (at_ + lenR Rs) r)
  | [], at_, ps, r => by simp [foldP, lenR]
  | q :: rs, at_, ps, r => by
    simp only [List.cons_append, foldP]
    rw [foldP_snoc rs]
    congr 2
    simp only [lenR, List.map_cons, List.sum_cons]; omega
theorem plc_snoc : ∀ (Rs : List Nd) (at_ : Nat) (r : Nd), plc at_ (Rs ++ [r]) = plc at_ Rs ++ [placeOf (at_ + lenR Rs) r]
  | [], at_, r => by simp [plc, lenR]
  | q :: rs, at_, r => by
    simp only [List.cons_append, plc]
    rw [plc_snoc rs]
    congr 4
    simp only [lenR, List.map_cons, List.sum_cons]; omega
theorem plc_keys : ∀ (Rs : List Nd) (at_ : Nat), (plc at_ Rs).map Pc.key = Rs.map Nd.key
  | [], _ => rfl
  | r :: rs, at_ => by simp only [plc, List.map_cons, plc_keys rs]; rfl
theorem plc_mem : ∀ {Rs : List Nd} {at_ : Nat} {p : Pc}, p ∈ plc at_ Rs → ∃ A r C, Rs = A ++ r :: C ∧ p = placeOf (at_ + lenR A) r
  | [], _, _, h => by cases h
  | r :: rs, at_, p, h => by
    rcases List.mem_cons.1 h with rfl | h
    · exact ⟨[], r, rs, rfl, by simp [lenR]⟩
    · obtain ⟨A, q, C, rfl, rfl⟩ := plc_mem h
      refine ⟨r :: A, q, C, rfl, ?_⟩
      congr 1
      simp only [lenR, List.map_cons, List.sum_cons]; omega
theorem mem_plc {A C : List Nd} {r : Nd} {at_ : Nat} : placeOf (at_ + lenR A) r ∈ plc at_ (A ++ r :: C) := by
  induction A generalizing at_ with
  | nil => simp [plc, lenR]
  | cons q A ih =>
    simp only [List.cons_append, plc, List.mem_cons]
    right
    have := ih (at_ := at_ + szR q)
    rwa [show at_ + szR q + lenR A = at_ + lenR (q :: A) from by simp only [lenR, List.map_cons, List.sum_cons]; omega] at this
theorem fold_fresh : ∀ (Rs : List Nd) (at_ : Nat) (ps : List Pc), (ps.map Pc.key ++ Rs.map Nd.key).Nodup → foldP at_ ps Rs = ps ++ plc at_ Rs
  | [], at_, ps, _ => by simp [foldP, plc]
  | r :: rs, at_, ps, h => by
    have hr : r.key ∉ ps.map Pc.key := fun hm => (List.nodup_append.1 h).2.2 _ hm _ (by simp) rfl
    have hg : getP ps r.key = none := by
      cases hq : getP ps r.key with
      | none => rfl
      | some q =>
        obtain ⟨h1, h2⟩ := getA_some hq
        exact absurd (h1 ▸ List.mem_map_of_mem h2) hr
    have hl : layP ps (placeOf at_ r) = ps ++ [placeOf at_ r] := by
      unfold layP
      rw [show (placeOf at_ r).key = r.key from rfl, hg]
      exact putA_new (getA_none hg)
    simp only [foldP, plc, hl]
    rw [fold_fresh rs _ _ (by simpa [placeOf] using h)]
    simp
theorem read_mem {H : List UInt8} {A C : List Nd} {r : Nd} (hr : OkRec r) : readOk (H ++ flat (A ++ r :: C)) (placeOf (H.length + lenR A) r) ∧ rec (H ++ flat (A ++ r :: C)) (placeOf (H.length + lenR A) r) = encR r := by
  have e : H ++ flat (A ++ r :: C) = (H ++ flat A) ++ encN r.key r.cook r.dead r.xs ++ flat C := by
    rw [flat_app]; simp only [flat, List.flatMap_cons, List.append_assoc]; rfl
  have hl : (H ++ flat A).length = H.length + lenR A := by rw [List.length_append, flatR_len]
  rw [e, ← hl]
  exact read_enc hr.key hr.cook hr.enc
theorem drop_rec {H : List UInt8} {Rs : List Nd} {r : Nd} : (H ++ flat (r :: Rs)).drop H.length = encN r.key r.cook r.dead r.xs ++ flat Rs := by
  rw [List.drop_left' rfl]; rfl
/-- a clean file is gone through -/
theorem scan_clean : ∀ (Rs : List Nd) {H : List UInt8} {ps ps' : List Pc} {o : Option Nat}, (∀ r ∈ Rs, OkRec r) → Scan (H ++ flat Rs) H.length ps ps' o → ps' = foldP H.length ps Rs ∧ o = none
  | [], H, ps, ps', o, _, h => by
    cases h with
    | over _ _ h => exact ⟨rfl, rfl⟩
    | cut _ _ h _ => simp [flat] at h
    | step _ _ _ _ h _ _ => simp [flat] at h
  | r :: rs, H, ps, ps', o, hok, h => by
    have hr := hok r (by simp)
    obtain ⟨hx, hd⟩ := encNE_zero.1 hr.enc
    have hlen : (H ++ flat (r :: rs)).length = H.length + (szR r + lenR rs) := by
      rw [List.length_append, flatR_len]; simp [lenR]
    have hsz := szR_le r
    have e0 := enc_E (rest := flat rs) hr.key hr.cook hx hd
    cases h with
    | over _ _ h => omega
    | cut _ _ _ hE => rw [drop_rec, e0] at hE; omega
    | step _ _ _ _ _ _ hs =>
      rw [drop_rec, enc_size hx, enc_key hr.key, enc_cook hr.cook, enc_dead] at hs
      have e : H ++ flat (r :: rs) = (H ++ encR r) ++ flat rs := by simp [flat]
      have el : H.length + szN r.xs.length = (H ++ encR r).length := by rw [List.length_append, encR_len]; rfl
      rw [e, el] at hs
      obtain ⟨h1, h2⟩ := scan_clean rs (fun q hq => hok q (by simp [hq])) hs
      refine ⟨?_, h2⟩
      rw [h1, foldP]
      congr 1
      rw [List.length_append, encR_len]

/-! ### a byte that rots -/
theorem putB_inj4 {a b : Nat} (ha : a < 4294967296) (hb : b < 4294967296) (h : putB a 4 = putB b 4) : a = b := by
  have := congrArg ofB h
  rwa [ofB_put4 _ ha, ofB_put4 _ hb] at this
theorem ne_of? {α : Type} {l : List α} {i : Nat} {z : α} (hi : i < l.length) (h : l[i]? ≠ some z) : z ≠ l[i] := fun e => h (by rw [List.getElem?_eq_getElem hi, e])
theorem set_ne {α : Type} {l : List α} {i : Nat} {z : α} (hi : i < l.length) (hz : l[i]? ≠ some z) : l.set i z ≠ l := fun h => hz (by
  have := congrArg (fun m : List α => m[i]?) h
  simp only [List.getElem?_set_self hi] at this
  exact this.symm)
section
variable {key cook : Nat} {dead : Bool} {xs rest : List UInt8} {j : Nat} {z : UInt8} (hk : key < 18446744073709551616) (hc : cook < 4294967296) (hx : xs.length ≤ 65536) (hj : j < (encN key cook dead xs).length) (hz : (encN key cook dead xs)[j]? ≠ some z)
include hz in
theorem rot_head (h24 : j < 24) : dForm ((encN key cook dead xs ++ rest).set j z) := by
  have hGl := hd24_len key cook dead xs.length
  have ht : ((encN key cook dead xs ++ rest).set j z).take 24 = (hd24 key cook dead xs.length).set j z := by
    rw [List.take_set, enc_take24]
  have hgj : (hd24 key cook dead xs.length)[j]? = (encN key cook dead xs)[j]? := by
    have h1 : (encN key cook dead xs ++ ([] : List UInt8)).take 24 = hd24 key cook dead xs.length := enc_take24
    rw [List.append_nil] at h1
    rw [← h1, List.getElem?_take_of_lt h24]
  by_cases hf : dForm ((encN key cook dead xs ++ rest).set j z)
  · exact hf
  exfalso
  rw [dForm] at hf
  simp only [not_or] at hf
  have h3 := hf.2.2
  rw [ht] at h3
  simp only [ne_eq, Decidable.not_not] at h3
  generalize dKey ((encN key cook dead xs ++ rest).set j z) = k' at h3
  generalize dCook ((encN key cook dead xs ++ rest).set j z) = c' at h3
  generalize dDead ((encN key cook dead xs ++ rest).set j z) = d' at h3
  generalize dSize ((encN key cook dead xs ++ rest).set j z) = s' at h3
  rw [← hgj] at hz
  unfold hd24 at h3 hz
  have l1 := hd20_len key cook dead xs.length
  have l2 := hd20_len k' c' d' s'
  generalize hd20 key cook dead xs.length = H at h3 hz l1
  generalize hd20 k' c' d' s' = H' at h3 l2
  by_cases hj20 : j < 20
  · rw [List.set_append_left _ _ (by omega)] at h3
    have h4 := List.append_inj h3 (by simp [l1, l2])
    have e1 : crc (H.set j z) = crc H := by
      rw [h4.1]
      exact putB_inj4 (crc_lt _) (crc_lt _) h4.2.symm
    rw [List.getElem?_append_left (by omega)] at hz
    exact crc_set (by omega) (ne_of? (by omega) hz) e1
  · rw [List.set_append_right _ _ (by omega)] at h3
    have h4 := List.append_inj h3 (by rw [l1, l2])
    rw [← h4.1] at h4
    rw [List.getElem?_append_right (by omega)] at hz
    exact set_ne (by rw [putB_len]; omega) hz h4.2
theorem win_set_out {b : List UInt8} {k a n : Nat} {z : UInt8} (h : k < a ∨ a + n ≤ k) : Go.Proofs.YtladfadcgfdbfaaGreatDoor.win (b.set k z) a n = Go.Proofs.YtladfadcgfdbfaaGreatDoor.win b a n := by
  rw [win_set, if_neg (by omega)]
include hx in
theorem rot_keeps (h24 : 24 ≤ j) : dSize ((encN key cook dead xs ++ rest).set j z) = xs.length ∧ dDead ((encN key cook dead xs ++ rest).set j z) = dead := by
  refine ⟨?_, ?_⟩
  · rw [dSize, win_set_out (.inr (by omega))]; exact enc_size hx
  · have := enc_dead (key := key) (cook := cook) (dead := dead) (xs := xs) (rest := rest)
    rw [dDead] at this ⊢
    rw [List.getD_eq_getElem?_getD, List.getElem?_set_ne (by omega), ← List.getD_eq_getElem?_getD]
    exact this
include hk in
theorem rot_key (h24 : 24 ≤ j) : dKey ((encN key cook dead xs ++ rest).set j z) = key := by
  rw [dKey, win_set_out (.inr (by omega))]; exact enc_key hk
include hc in
theorem rot_cook (h24 : 24 ≤ j) : dCook ((encN key cook dead xs ++ rest).set j z) = cook := by
  rw [dCook, win_set_out (.inr (by omega))]; exact enc_cook hc
include hx hj hz in
theorem rot_tail (h24 : 24 ≤ j) : dE ((encN key cook dead xs ++ rest).set j z) ≠ 0 := fun h => by
  have hl := encN_len key cook dead xs
  have hs := szN_le xs.length
  have hk := (rot_keeps (key := key) (cook := cook) (dead := dead) (rest := rest) (z := z) hx h24).1
  have hrw : dRest ((encN key cook dead xs ++ rest).set j z) = dWant ((encN key cook dead xs ++ rest).set j z) := by
    rw [dE] at h
    split at h
    · cases h
    · split at h
      · cases h
      · split at h
        · cases h
        · split at h
          · cases h
          · rename_i hn; exact Decidable.not_not.1 hn
  have eW := enc_rest (key := key) (cook := cook) (dead := dead) (rest := rest) hx
  have eD := enc_data (key := key) (cook := cook) (dead := dead) (rest := rest) hx
  have eS := enc_size (key := key) (cook := cook) (dead := dead) (rest := rest) hx
  have hgj : (encN key cook dead xs ++ rest)[j]? = (encN key cook dead xs)[j]? := List.getElem?_append_left hj
  rw [← hgj] at hz
  have hjW : j < (encN key cook dead xs ++ rest).length := by rw [List.length_append]; omega
  generalize encN key cook dead xs ++ rest = W at h hz hk hrw eW eD eS hjW
  unfold dRest at eW
  rw [dRest, dWant, dData, hk] at hrw
  rw [dWant, eD, eS] at eW
  rw [dData, eS] at eD
  by_cases hd : j < 24 + xs.length
  · rw [win_set_out (.inl (by omega)), eW, win_set, if_pos ⟨h24, hd⟩, eD] at hrw
    have h4 := (List.append_inj hrw (by simp [putB_len])).1
    have hxj : xs[j - 24]? = W[j]? := by
      have h5 : (Go.Proofs.YtladfadcgfdbfaaGreatDoor.win W 24 xs.length)[j - 24]? = W[j]? := by
        rw [win, List.getElem?_take_of_lt (by omega), List.getElem?_drop, show 24 + (j - 24) = j from by omega]
      rwa [eD] at h5
    rw [← hxj] at hz
    exact crc_set (by omega) (ne_of? (by omega) hz) (putB_inj4 (crc_lt _) (crc_lt _) h4.symm)
  · rw [win_set, if_pos ⟨by omega, by omega⟩, win_set_out (.inr (by omega)), eW, eD] at hrw
    have hwl : (putB (crc xs) 4 ++ List.replicate (szN xs.length - (28 + xs.length)) (0 : UInt8)).length = szN xs.length - (24 + xs.length) := by simp [putB_len]; omega
    have hxj : (putB (crc xs) 4 ++ List.replicate (szN xs.length - (28 + xs.length)) (0 : UInt8))[j - (24 + xs.length)]? = W[j]? := by
      rw [← eW, win, List.getElem?_take_of_lt (by omega), List.getElem?_drop, show 24 + xs.length + (j - (24 + xs.length)) = j from by omega]
    rw [← hxj] at hz
    exact set_ne (by omega) hz hrw
end
end Go.Proofs.YtladfadcgfdbfaaGreatDoor
