/- volume: a disk with one file; known. Nothing is claimed here. -/
import Derived.Test.YtpkealgeigpjpaaDoorUg
import Derived.Test.YtpkealgeigpjpaaDoorPa
namespace Go.Proofs.YtpkealgeigpjpaaDoor
open Go.RowKit
open Go.Maps (Keyed)
set_option linter.unusedVariables false
set_option linter.unusedSimpArgs false
set_option maxRecDepth 100000

theorem NdP.nil : NdP [] := List.nodup_nil
instance (ps : List Pc) : Decidable (NdP ps) := by unfold NdP; infer_instance
def oneS (nm : ByteArray) (d : List UInt8) : List Fl := [⟨nm, d, d.length⟩]
section
variable {room id : Nat} {nm : ByteArray} {d xs : List UInt8} {ps : List Pc} {key cook : Nat} {dead : Bool}
theorem one_get : getS (oneS nm d) nm = some ⟨nm, d, d.length⟩ := get_one ⟨nm, d, d.length⟩
theorem one_sz : szS (oneS nm d) nm = d.length := by rw [szS, one_get]
theorem one_dat : datS (oneS nm d) nm = d := by rw [datS, one_get]
theorem one_create (hnm : 1 ≤ nm.size ∧ nm.size ≤ 64) (hr : 8 ≤ room) : appE room [] nm 8 = 0 ∧ syncS (appS room [] nm (vhd id)) nm = oneS nm (vhd id) := by
  refine ⟨app_new hnm hr, ?_⟩
  rw [appS_new hnm (by rw [vhd_len]; exact hr), syncS]
  simp [getS, putS, oneS]
theorem one_app (hnm : 1 ≤ nm.size ∧ nm.size ≤ 64) (hr : d.length + xs.length ≤ room) : appE room (oneS nm d) nm xs.length = 0 ∧ syncS (appS room (oneS nm d) nm xs) nm = oneS nm (d ++ xs) := by
  have e : appE room (oneS nm d) nm xs.length = 0 := by
    rw [appE, if_neg (fun h => h hnm), if_neg]
    rw [one_get]; simp [totS, oneS]; omega
  refine ⟨e, ?_⟩
  rw [appS, if_pos e, appF, one_get, syncS]
  simp [getS, putS, oneS]
theorem one_put (hnm : 1 ≤ nm.size ∧ nm.size ≤ 64) (hE : encNE dead xs.length = 0) (hB : vputB ps key dead = 0) (h4 : d.length + szN xs.length ≤ 4194304) (hr : d.length + szN xs.length ≤ room) :
    vputE room (oneS nm d) nm ps key dead xs.length = 0 ∧ vputS room (oneS nm d) nm ps key cook dead xs = oneS nm (d ++ encN key cook dead xs) ∧ vputP room (oneS nm d) nm ps key cook dead xs = layP ps ⟨key, d.length, szN xs.length, cook, dead⟩ := by
  have hl := encN_len key cook dead xs
  have ha := one_app (d := d) (xs := encN key cook dead xs) hnm (room := room) (by omega)
  have e : vputE room (oneS nm d) nm ps key dead xs.length = 0 := by
    rw [vputE, if_neg (fun h => h hE), if_neg (fun h => h hB), if_neg (by rw [one_sz]; omega), ← hl]; exact ha.1
  refine ⟨e, ?_, ?_⟩
  · rw [vputS, if_pos e]; exact ha.2
  · rw [vputP, if_pos e, one_sz]
theorem put_bad {S : List Fl} (h : encNE dead xs.length ≠ 0 ∨ vputB ps key dead ≠ 0) : vputE room S nm ps key dead xs.length = (if encNE dead xs.length ≠ 0 then encNE dead xs.length else vputB ps key dead) ∧ vputS room S nm ps key cook dead xs = S ∧ vputP room S nm ps key cook dead xs = ps := by
  have e : vputE room S nm ps key dead xs.length = (if encNE dead xs.length ≠ 0 then encNE dead xs.length else vputB ps key dead) := by
    rw [vputE]
    by_cases h1 : encNE dead xs.length ≠ 0
    · rw [if_pos h1, if_pos h1]
    · rw [if_neg h1, if_neg h1, if_pos (h.resolve_left h1)]
  have e0 : vputE room S nm ps key dead xs.length ≠ 0 := by
    rw [e]
    by_cases h1 : encNE dead xs.length ≠ 0
    · rw [if_pos h1]; exact h1
    · rw [if_neg h1]; exact h.resolve_left h1
  exact ⟨e, if_neg e0, if_neg e0⟩
/-- a record that stands whole is read -/
theorem read_enc {A C : List UInt8} (hk : key < 18446744073709551616) (hc : cook < 4294967296) (hE : encNE dead xs.length = 0) : readOk (A ++ encN key cook dead xs ++ C) ⟨key, A.length, szN xs.length, cook, dead⟩ ∧ rec (A ++ encN key cook dead xs ++ C) ⟨key, A.length, szN xs.length, cook, dead⟩ = encN key cook dead xs := by
  have hl := encN_len key cook dead xs
  have er : rec (A ++ encN key cook dead xs ++ C) ⟨key, A.length, szN xs.length, cook, dead⟩ = encN key cook dead xs := by
    rw [rec]; exact win_app' rfl hl
  obtain ⟨hx, hd⟩ := encNE_zero.1 hE
  refine ⟨?_, er⟩
  have e0 := enc_E (rest := []) hk hc hx hd
  have e1 := enc_size (key := key) (cook := cook) (dead := dead) (rest := []) hx
  have e2 := enc_key (cook := cook) (dead := dead) (xs := xs) (rest := []) hk
  have e3 := enc_cook (key := key) (dead := dead) (xs := xs) (rest := []) hc
  have e4 := enc_dead (key := key) (cook := cook) (dead := dead) (xs := xs) (rest := [])
  rw [List.append_nil] at e0 e1 e2 e3 e4
  rw [readOk, er]
  exact ⟨by simp [hl], e0, by rw [e1], e2, e3, e4⟩
theorem data_enc (hE : encNE dead xs.length = 0) : dData (encN key cook dead xs) = xs := by
  have := enc_data (key := key) (cook := cook) (dead := dead) (rest := []) (encNE_zero.1 hE).1
  rwa [List.append_nil] at this
end
def sab : List UInt8 := [97, 98]
def kp1 : List Pc := [⟨1, 8, 32, 5, false⟩]
def kp2 : List Pc := [⟨1, 40, 32, 5, true⟩]
set_option maxHeartbeats 4000000 in
theorem knownV_fn (w0 : World) : Fn Tryd.prog 14 #[] w0 fun r w' => r = .bool true ∧ Below w0.heap.size w0 w' := by
  have hL := Sep.start Tryd.prog w0
  have hB := Nat.le_refl w0.heap.size
  have hn := nameIs 7 (by decide)
  have hnm := hn.1.2
  refine Fn.mk Tryd.func14 rfl (by kernel_rfl) Tryd.ntmps14 rfl (by rw [Tryd.results14]) ?_
  repeat (first | (refine RunH ?_; intro w hL hB; try clear w) | (refine Both.mk ?_ ?_ <;> conv => whnf) | fail)
  refine (new_fn 1000 hL hB).mono fun r w hr => ?_
  obtain ⟨d, rfl, hD⟩ := hr.1 (by decide)
  clear hr hL hB
  obtain ⟨dL, hL, hB, close⟩ := hD.open
  clear hD
  conv => whnf
  repeat (first | (refine RunH ?_; intro w hL hB; try clear w) | (refine Both.mk ?_ ?_ <;> conv => whnf) | fail)
  refine (create_fn hn (close (F' := []) hL hB)).mono fun r w ⟨_, _, hr⟩ => ?_
  obtain ⟨v, m, rfl, hD⟩ := hr rfl (one_create hnm (by decide) (id := 7)).1
  rw [(one_create hnm (by decide)).2] at hD
  clear hr hL hB close
  obtain ⟨dL, hL, hB, close⟩ := hD.open
  clear hD
  conv => whnf
  repeat (first | (refine RunH ?_; intro w hL hB; try clear w) | (refine Both.mk ?_ ?_ <;> conv => whnf) | fail)
  refine Rv.lit hL sab rfl (by decide) hB fun bo w hL hB => ?_
  conv => whnf
  repeat (first | (refine RunH ?_; intro w hL hB; try clear w) | (refine Both.mk ?_ ?_ <;> conv => whnf) | fail)
  refine Rv.sameS ttOk hL 0 tl23 tl5 rfl hB fun w hL hB => ?_
  replace hL := hL.perm (List.perm_middle (l₁ := [_, _])).symm
  conv => whnf
  repeat (first | (refine RunH ?_; intro w hL hB; try clear w) | (refine Both.mk ?_ ?_ <;> conv => whnf) | fail)
  have q0 : encNE false sab.length = 0 := by decide
  have g1 := one_put (room := (1000 : Int).toNat) (nm := vnm 7) (d := vhd 7) (xs := sab) (ps := []) (key := 1) (cook := 5) (dead := false) hnm q0 rfl (by rw [vhd_len]; decide) (by rw [vhd_len]; decide)
  have h8 : (vhd 7).length = 8 := vhd_len 7
  rw [h8] at g1
  have p1 : layP [] ⟨1, 8, szN sab.length, 5, false⟩ = kp1 := by decide
  rw [p1] at g1
  generalize hd1 : vhd 7 ++ encN 1 5 false sab = d1 at *
  have l1 : d1.length = 40 := by rw [← hd1, List.length_append, h8, encN_len]; decide
  refine (vput_fn hn 1 5 false _ sab (by decide) (by decide) NdP.nil (fun w' h => h.roSl (i := 0) rfl) (close (F' := [_, _, _]) hL hB)).mono fun r w ⟨hr, hD⟩ => ?_
  rw [g1.1] at hr
  rw [g1.2.1, g1.2.2] at hD
  subst hr
  clear close hL hB
  have nd1 : NdP kp1 := by decide
  have ok1 : OkP kp1 := fun p hp => by simp only [kp1, List.mem_singleton] at hp; subst hp; decide
  have r1 := read_enc (A := vhd 7) (C := []) (key := 1) (cook := 5) (dead := false) (xs := sab) (by decide) (by decide) q0
  rw [List.append_nil, hd1, h8] at r1
  have e1 : vgetE (oneS (vnm 7) d1) (vnm 7) kp1 1 5 = 0 := by
    rw [vgetE, show getP kp1 1 = some ⟨1, 8, 32, 5, false⟩ from rfl]
    dsimp only
    rw [if_neg (by decide), if_neg (by decide), if_pos (by rw [one_dat]; exact r1.1)]
  have e2 : vgetD (oneS (vnm 7) d1) (vnm 7) kp1 1 = sab := by
    rw [vgetD, show getP kp1 1 = some ⟨1, 8, 32, 5, false⟩ from rfl]
    dsimp only
    rw [one_dat, show rec d1 ⟨1, 8, 32, 5, false⟩ = encN 1 5 false sab from r1.2, data_enc q0]
  obtain ⟨dL, hL, hB, close⟩ := hD.open
  clear hD
  conv => whnf
  repeat (first | (refine RunH ?_; intro w hL hB; try clear w) | (refine Both.mk ?_ ?_ <;> conv => whnf) | fail)
  refine (vget_fn hn 1 5 (by decide) nd1 ok1 (close (F' := [_, _, _]) hL hB)).mono fun r w hD => ?_
  rw [vgetPost, if_pos e1, e2] at hD
  obtain ⟨u, rfl, hD⟩ := hD
  clear close hL hB
  obtain ⟨dL, hL, hB, close⟩ := hD.open
  clear hD
  obtain ⟨ua, uc, rfl⟩ := (show SlN w 1 u _ _ from hL.rowN (i := 0) rfl).shape
  replace hL := hL.perm (List.perm_middle (l₁ := [_, _])).symm
  have q1 : encNE true ([] : List UInt8).length = 0 := by decide
  have g2 := one_put (room := (1000 : Int).toNat) (nm := vnm 7) (d := d1) (xs := []) (ps := kp1) (key := 1) (cook := 5) (dead := true) hnm q1 rfl (by rw [l1]; decide) (by rw [l1]; decide)
  rw [l1, show layP kp1 ⟨1, 40, szN ([] : List UInt8).length, 5, true⟩ = kp2 from by decide] at g2
  generalize hd2 : d1 ++ encN 1 5 true [] = d2 at *
  have l2 : d2.length = 72 := by rw [← hd2, List.length_append, l1, encN_len]; decide
  conv => whnf
  repeat (first | (refine RunH ?_; intro w hL hB; try clear w) | (refine Both.mk ?_ ?_ <;> conv => whnf) | fail)
  refine (vput_fn hn 1 5 true _ [] (by decide) (by decide) nd1 (fun w' h => Sl.nil _) (close (F' := [_, _, _, _]) hL hB)).mono fun r w ⟨hr, hD⟩ => ?_
  rw [g2.1] at hr
  rw [g2.2.1, g2.2.2] at hD
  subst hr
  clear close hL hB
  obtain ⟨dL, hL, hB, close⟩ := hD.open
  clear hD
  have nd2 : NdP kp2 := by decide
  have ok2 : OkP kp2 := fun p hp => by simp only [kp2, List.mem_singleton] at hp; subst hp; decide
  have e3 : vgetE (oneS (vnm 7) d2) (vnm 7) kp2 1 5 = 9 := by
    rw [vgetE, show getP kp2 1 = some ⟨1, 40, 32, 5, true⟩ from rfl]; rfl
  conv => whnf
  repeat (first | (refine RunH ?_; intro w hL hB; try clear w) | (refine Both.mk ?_ ?_ <;> conv => whnf) | fail)
  refine (vget_fn hn 1 5 (by decide) nd2 ok2 (close (F' := [_, _, _, _]) hL hB)).mono fun r w hD => ?_
  rw [vgetPost, if_neg (by rw [e3]; decide), e3] at hD
  obtain ⟨rfl, hD⟩ := hD
  clear close hL hB
  obtain ⟨dL, hL, hB, close⟩ := hD.open
  clear hD
  conv => whnf
  repeat (first | (refine RunH ?_; intro w hL hB; try clear w) | (refine Both.mk ?_ ?_ <;> conv => whnf) | fail)
  refine Rv.lit hL sab rfl (by decide) hB fun bo w hL hB => ?_
  conv => whnf
  repeat (first | (refine RunH ?_; intro w hL hB; try clear w) | (refine Both.mk ?_ ?_ <;> conv => whnf) | fail)
  refine Rv.sameS ttOk hL 0 tl23 tl5 rfl hB fun w hL hB => ?_
  conv => whnf
  repeat (first | (refine RunH ?_; intro w hL hB; try clear w) | (refine Both.mk ?_ ?_ <;> conv => whnf) | fail)
  refine (same_fn _ _ sab sab _ (hL.row (i := 3) rfl) (hL.roSl (i := 0) rfl)).mono fun r w ⟨hr, hw⟩ => ?_
  subst hr
  replace hL := hL.call hB (Turns.of_below hw)
  replace hB := Nat.le_trans hB hw.size
  replace hL := hL.perm (List.perm_middle (l₁ := [_, _])).symm
  conv => whnf
  repeat (first | (refine RunH ?_; intro w hL hB; try clear w) | (refine Both.mk ?_ ?_ <;> conv => whnf) | fail)
  have hsm : sumN kp2 ≤ 2147483648 := by decide
  refine (vdirt_fn (by omega) nd2 hsm (close (F' := [_, _, _, _, _]) hL hB)).mono fun r w ⟨hr, hD⟩ => ?_
  rw [one_sz, l2, show 72 - 8 - sumN kp2 = 32 from by decide] at hr
  subst hr
  obtain ⟨dL, hL, hB, close⟩ := hD.open
  clear hD
  conv => whnf
  repeat (first | (refine RunH ?_; intro w hL hB; try clear w) | (refine Both.mk ?_ ?_ <;> conv => whnf) | fail)
  exact ⟨rfl, hL.below⟩
end Go.Proofs.YtpkealgeigpjpaaDoor
