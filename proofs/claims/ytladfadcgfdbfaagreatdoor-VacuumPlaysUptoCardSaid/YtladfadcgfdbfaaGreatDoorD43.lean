/- garnerref13: shadow, Begin. garnerref13: Step, Commit, Clear. Nothing is claimed here. -/
import Derived.Test.YtladfadcgfdbfaaGreatDoorD32
import Derived.Test.YtladfadcgfdbfaaGreatDoorD42
namespace Go.Proofs.YtladfadcgfdbfaaGreatDoor
open Go.RowKit Go.Lib
set_option linter.unusedVariables false
set_option linter.unusedSimpArgs false
set_option maxRecDepth 100000
/-- a clean file is gone through by the reference -/
theorem scanL_clean : ∀ (Rs : List Nd) {H : List UInt8} {ps ps' : List Pc} {o : Option Nat}, (∀ r ∈ Rs, OkRec r) → ScanL (H ++ flat Rs) H.length ps ps' o → ps' = ps ++ plc H.length Rs ∧ o = none
  | [], H, ps, ps', o, _, h => by
    cases h with
    | over _ _ h => exact ⟨by simp [plc], rfl⟩
    | cut _ _ h _ => simp [flat] at h
    | step _ _ _ _ h _ _ => simp [flat] at h
  | r :: rs, H, ps, ps', o, hok, h => by
    have hr := hok r (by simp)
    obtain ⟨hx, hd⟩ := encNE_zero.1 hr.enc
    have hlen : (H ++ flat (r :: rs)).length = H.length + (szR r + lenR rs) := by
      rw [List.length_append, flatR_len]; simp [lenR]
    have hsz := szR_le r
    have e0 := enc_E (rest := flat rs) hr.key hr.cook hx hd
    cases h with
    | over _ _ h => omega
    | cut _ _ _ hE => rw [drop_rec, e0] at hE; omega
    | step _ _ _ _ _ _ hs =>
      rw [drop_rec, enc_size hx, enc_key hr.key, enc_cook hr.cook, enc_dead] at hs
      have e : H ++ flat (r :: rs) = (H ++ encR r) ++ flat rs := by simp [flat]
      have el : H.length + szN r.xs.length = (H ++ encR r).length := by rw [List.length_append, encR_len]; rfl
      rw [e, el] at hs
      obtain ⟨h1, h2⟩ := scanL_clean rs (fun q hq => hok q (by simp [hq])) hs
      refine ⟨?_, h2⟩
      rw [h1, List.append_assoc, List.length_append, encR_len]
      rfl
theorem rel_plc (Rs : List Nd) : Rel (foldP 8 [] Rs) (plc 8 Rs) := by
  have h : ∀ (Rs : List Nd) (a : Nat) (ps rL : List Pc), Rel ps rL → Rel (foldP a ps Rs) (rL ++ plc a Rs) := fun Rs => by
    induction Rs with
    | nil => intro a ps rL h; simpa [foldP, plc] using h
    | cons r rs ih =>
      intro a ps rL h
      have := ih (a + szR r) _ _ (h.lay (placeOf a r))
      simpa [foldP, plc] using this
  simpa using h Rs 8 [] [] Rel.nil
theorem plc_length : ∀ (Rs : List Nd) (a : Nat), (plc a Rs).length = Rs.length
  | [], _ => rfl
  | r :: rs, a => by simp [plc, plc_length rs]
theorem pls_plc (Rs : List Nd) : plsR (plc 8 Rs) (plc 8 Rs) = plsOf (foldP 8 [] Rs) := plsR_eq (rel_plc Rs)
/-- places are put in by where they are -/
def insA (p : Pc) : List Pc → List Pc
  | [] => [p]
  | q :: L => if q.at_ < p.at_ then q :: insA p L else p :: q :: L
def cntA (p : Pc) : List Pc → Nat
  | [] => 0
  | q :: L => if q.at_ < p.at_ then cntA p L + 1 else 0
theorem cntA_le (p : Pc) : ∀ L, cntA p L ≤ L.length
  | [] => Nat.le_refl _
  | q :: L => by
    have := cntA_le p L
    rw [cntA]; split <;> simp <;> omega
theorem insA_cut (p : Pc) : ∀ L, insA p L = L.take (cntA p L) ++ p :: L.drop (cntA p L)
  | [] => rfl
  | q :: L => by
    rw [insA, cntA]
    split
    · rw [insA_cut p L]; simp
    · simp
theorem cntA_more {p : Pc} : ∀ {L : List Pc} {k : Nat}, k ≤ cntA p L → ∀ q, L[k]? = some q → (k < cntA p L ↔ q.at_ < p.at_)
  | [], k, h, q, hq => by simp at hq
  | r :: L, 0, h, q, hq => by
    simp only [List.getElem?_cons_zero, Option.some.injEq] at hq
    subst hq
    rw [cntA]
    split
    · rename_i h1; exact ⟨fun _ => h1, fun _ => by omega⟩
    · rename_i h1; exact ⟨fun h2 => by omega, fun h2 => absurd h2 h1⟩
  | r :: L, k + 1, h, q, hq => by
    rw [cntA] at h ⊢
    split at h
    · rename_i h1
      rw [if_pos h1]
      have := cntA_more (p := p) (L := L) (k := k) (by omega) q (by simpa using hq)
      omega
    · omega
theorem insA_perm (p : Pc) : ∀ L, (insA p L).Perm (p :: L)
  | [] => .refl _
  | q :: L => by
    rw [insA]
    split
    · exact ((insA_perm p L).cons q).trans (.swap _ _ _)
    · exact .refl _
theorem insA_srt (p : Pc) : ∀ {L : List Pc}, L.Pairwise (fun x y => x.at_ ≤ y.at_) → (insA p L).Pairwise fun x y => x.at_ ≤ y.at_
  | [], _ => by simp [insA]
  | q :: L, h => by
    obtain ⟨h1, h2⟩ := List.pairwise_cons.1 h
    rw [insA]
    split
    · rename_i hlt
      refine List.Pairwise.cons (fun x hx => ?_) (insA_srt p h2)
      rcases List.mem_cons.1 ((insA_perm p L).mem_iff.1 hx) with rfl | hx
      · omega
      · exact h1 x hx
    · rename_i hge
      refine List.Pairwise.cons (fun x hx => ?_) h
      rcases List.mem_cons.1 hx with rfl | hx
      · omega
      · have := h1 x hx; omega
def srtA (l : List Pc) : List Pc := l.foldl (fun L p => insA p L) []
theorem srtA_snoc (l : List Pc) (p : Pc) : srtA (l ++ [p]) = insA p (srtA l) := by simp [srtA]
theorem srtA_perm (l : List Pc) : (srtA l).Perm l := by
  have h : ∀ (l L : List Pc), (l.foldl (fun L p => insA p L) L).Perm (L ++ l) := fun l => by
    induction l with
    | nil => intro L; simp
    | cons p l ih =>
      intro L
      refine (ih (insA p L)).trans (((insA_perm p L).append_right l).trans ?_)
      exact (List.perm_middle (a := p) (l₁ := L) (l₂ := l)).symm
  simpa [srtA] using h l []
theorem srtA_srt (l : List Pc) : (srtA l).Pairwise fun x y => x.at_ ≤ y.at_ := by
  have h : ∀ (l L : List Pc), L.Pairwise (fun x y => x.at_ ≤ y.at_) → (l.foldl (fun L p => insA p L) L).Pairwise fun x y => x.at_ ≤ y.at_ := fun l => by
    induction l with
    | nil => intro L h; exact h
    | cons p l ih => intro L h; exact ih _ (insA_srt p h)
  exact h l [] .nil
theorem srtA_ls (Rs : List Nd) : srtA (plsOf (foldP 8 [] Rs)) = lsOf Rs := by
  have hp : (srtA (plsOf (foldP 8 [] Rs))).Perm (foldP 8 [] Rs) := (srtA_perm _).trans (plsOf_perm (foldP_nd Rs 8 [] NdP.nil))
  refine ls_eq hp ?_
  have hnd : (srtA (plsOf (foldP 8 [] Rs))).Nodup := hp.nodup_iff.2 ((List.pairwise_map.1 (foldP_nd Rs 8 [] NdP.nil)).imp fun h e => h (by rw [e]))
  refine (List.Pairwise.and_mem.1 ((srtA_srt _).and hnd)).imp fun {x y} ⟨hx, hy, hle, hne⟩ hlt => ?_
  have hx' := foldP_plc (hp.mem_iff.1 hx)
  have hy' := foldP_plc (hp.mem_iff.1 hy)
  unfold ltP at hlt
  exact hne (plc_uniq hx' hy' (by omega))
theorem ltL_app : ∀ (l : List UInt8) (a : UInt8) (m : List UInt8), l < l ++ a :: m
  | [], a, m => List.nil_lt_cons a m
  | b :: l, a, m => List.cons_lt_cons_self.2 (ltL_app l a m)
theorem ltF_shN (nm : ByteArray) : ltF nm (shN nm) := by
  show nmB nm < nmB (shN nm)
  have e : nmB (shN nm) = nmB nm ++ 46 :: [110, 101, 119] := by simp [nmB, shN]
  rw [e]; exact ltL_app _ _ _
theorem srt_eq {R S : List Fl} (hp : R.Perm S) (hR : (R.map (·.nm)).Pairwise ltF) (hS : (S.map (·.nm)).Pairwise ltF) : R = S :=
  List.Perm.eq_of_pairwise (le := fun f g : Fl => ltF f.nm g.nm) (fun a b _ _ h1 h2 => absurd (ltN_tr h1 h2) (ltN_irr _)) (List.pairwise_map.1 hR) (List.pairwise_map.1 hS) hp
theorem srt_two (nm : ByteArray) (D X : List UInt8) (la : Nat) : ((volS nm D (shS (shN nm) X la)).map (·.nm)).Pairwise ltF := by
  simp only [volS, shS, List.map_cons, List.map_nil]
  exact .cons (fun x hx => by simp only [List.mem_singleton] at hx; subst hx; exact ltF_shN nm) (.cons (fun x hx => by cases hx) .nil)
theorem srt_one (nm : ByteArray) (D : List UInt8) : ((volS nm D []).map (·.nm)).Pairwise ltF := by
  simp only [volS, List.map_cons, List.map_nil]
  exact .cons (fun x hx => by cases hx) .nil
theorem srt_app {room : Nat} {nm : ByteArray} {D xs : List UInt8} {R' : List Fl} (hne : nm ≠ shN nm) (hs6 : 1 ≤ (shN nm).size ∧ (shN nm).size ≤ 64) (hp : R'.Perm (appS room (volS nm D []) (shN nm) xs)) (hs : (R'.map (·.nm)).Pairwise ltF) : R' = appS room (volS nm D []) (shN nm) xs := by
  refine srt_eq hp hs ?_
  by_cases h : appE room (volS nm D []) (shN nm) xs.length = 0
  · rw [one_app_sh hne hs6 h]; exact srt_two _ _ _ _
  · rw [appS, if_neg h]; exact srt_one _ _
section
variable {B k x jr room id : Nat} {nm : ByteArray} {T : List Fl} {R : List Fl} {F : List Res} {w0 w : World}
theorem shadow_fn (id : Nat) (hid : id ≤ 99999999) (w0 : World) : Fn Tryz.prog 89 #[.int .i64 (id : Int)] w0 fun r w' => r = .string (shN (vnmG id)) ∧ Below w0.heap.size w0 w' := by
  have hL := Sep.start Tryz.prog w0
  have hB := Nat.le_refl w0.heap.size
  have hs := vnmG_size hid
  refine Fn.mk Tryz.func89 rfl (by kernel_rfl) Tryz.ntmps89 rfl (by rw [Tryz.results89]) ?_
  repeat (first | (refine RunH ?_; intro w hL hB; try clear w) | (refine Both.mk ?_ ?_ <;> conv => whnf) | (refine (nameR_fn id hid _).mono fun r w hr => ?_; obtain ⟨hr, hw⟩ := hr; subst hr; replace hL := hL.call hB (Turns.of_below hw); replace hB := Nat.le_trans hB hw.size; conv => whnf) | fail)
  refine Chk.mk (by rw [show (ByteArray.mk #[46, 110, 101, 119]).size = 4 from rfl]; omega) ?_
  conv => whnf
  repeat (first | (refine RunH ?_; intro w hL hB; try clear w) | (refine Both.mk ?_ ?_ <;> conv => whnf) | fail)
  exact ⟨rfl, hL.below⟩
/-- the reference's job -/
def rjC (k id x : Nat) (lv : Value) (en : Nat) (ov : Bool) : List Value := [ptr k, .int .i64 (id : Int), ptr x, lv, .int .i64 (en : Int), .bool ov]
def rjR (jr k id x : Nat) (A : List Nd) (rv lv : Value) (ov : Bool) (xv : Value) (F : List Res) : List Res :=
  .blk jr (rjC k id x lv (8 + lenR A) ov) 155 :: .row 87 5 rv (lsOf A).length ((lsOf A).flatMap pcC) :: .blk x [ptr k, .int .i64 (id : Int), xv] 107 :: F
set_option maxHeartbeats 16000000 in
theorem rbegin_fn (hid : id ≤ 99999999) (hnm : vnmG id = nm) (Rs : List Nd) (hok : ∀ r ∈ Rs, OkRec r) (hRl : Rs.length ≤ 1000000) (hT : T = [] ∨ ∃ X la, T = shS (shN nm) X la) (hD : RkS B w0 w k room (volS nm (vhd id ++ flat Rs) T) F) :
    Fn Tryz.prog 51 #[ptr k, .int .i64 (id : Int)] w fun r w' =>
      (T ≠ [] → r = .tuple #[.pointer none, .int .i64 8] ∧ RkS B w0 w' k room (volS nm (vhd id ++ flat Rs) T) F) ∧
      (T = [] → ¬ 8 + lenR Rs + 8 ≤ room → r = .tuple #[.pointer none, .int .i64 6] ∧ RkS B w0 w' k room (volS nm (vhd id ++ flat Rs) T) F) ∧
      (T = [] → 8 + lenR Rs + 8 ≤ room → ∃ jr x xv rv, r = .tuple #[ptr jr, .int .i64 0] ∧ LeftIs rv (lsOf Rs).length 0 rv ∧ RkS B w0 w' k room (volS nm (vhd id ++ flat Rs) (shS (shN nm) (vhd id ++ gone id Rs 0) 0)) (rjR jr k id x Rs rv rv false xv F)) := by
  have hns := vnmG_size hid
  rw [hnm] at hns
  have h8 := vhd_len id
  have hl : (vhd id ++ flat Rs).length = 8 + lenR Rs := by rw [List.length_append, flatR_len, vhd_len]
  have hname := nameR_fn id hid
  have hsh := shadow_fn id hid
  rw [hnm] at hname hsh
  have hs6 : 1 ≤ (shN nm).size ∧ (shN nm).size ≤ 64 := by rw [shN_size]; omega
  obtain ⟨dL, hL, hB, close⟩ := hD.open
  refine Fn.mk Tryz.func51 rfl (by kernel_rfl) Tryz.ntmps51 rfl (by rw [Tryz.results51]) ?_
  repeat (first | (refine RunH ?_; intro w hL hB; try clear w) | (refine Both.mk ?_ ?_ <;> conv => whnf) | fail)
  clear hL hB close
  refine (ropen_fn hid hnm hD).mono fun r w ⟨_, h2⟩ => ?_
  obtain ⟨x, ra, rc, rL, o, hsc, hok2, hlen2, hr, hD⟩ := h2 open_vol
  clear h2
  subst hr
  rw [vol_dat, ← h8] at hsc
  obtain ⟨hrL, rfl⟩ := scanL_clean Rs hok hsc
  rw [h8, List.nil_append] at hrL
  subst hrL
  simp only [cutAt] at hD
  obtain ⟨dL, hL, hB, close⟩ := hD.open
  rw [rvRes] at hL
  conv => whnf
  repeat (first | (refine RunH ?_; intro w hL hB; try clear w) | (refine Both.mk ?_ ?_ <;> conv => whnf) | fail)
  refine (hsh _).mono fun r w ⟨hr, hw⟩ => ?_
  subst hr
  replace hL := hL.call hB (Turns.of_below hw)
  replace hB := Nat.le_trans hB hw.size
  conv => whnf
  repeat (first | (refine RunH ?_; intro w hL hB; try clear w) | (refine Both.mk ?_ ?_ <;> conv => whnf) | fail)
  refine (sizeR4_fn (shN nm) (close (F' := _ :: _ :: F) hL hB)).mono fun r w ⟨hr, hD⟩ => ?_
  subst hr
  clear hL hB close
  obtain ⟨dL, hL, hB, close⟩ := hD.open
  rcases hT with rfl | ⟨X, la, rfl⟩
  case inr =>
    rw [two_get (shN_ne nm)]
    conv => whnf
    repeat (first | (refine RunH ?_; intro w hL hB; try clear w) | (refine Both.mk ?_ ?_ <;> conv => whnf) | fail)
    exact ⟨fun _ => ⟨rfl, close (F' := F) hL.tl.tl hB⟩, fun h => by simp [shS] at h, fun h => by simp [shS] at h⟩
  rw [show (getS (volS nm (vhd id ++ flat Rs) []) (shN nm)).isSome = false from by rw [vol_get_ne (shN_ne nm)]; rfl]
  conv => whnf
  repeat (first | (refine RunH ?_; intro w hL hB; try clear w) | (refine Both.mk ?_ ?_ <;> conv => whnf) | fail)
  refine (hname _).mono fun r w ⟨hr, hw⟩ => ?_
  subst hr
  replace hL := hL.call hB (Turns.of_below hw)
  replace hB := Nat.le_trans hB hw.size
  conv => whnf
  repeat (first | (refine RunH ?_; intro w hL hB; try clear w) | (refine Both.mk ?_ ?_ <;> conv => whnf) | fail)
  refine (readR4_fn nm (close (F' := _ :: _ :: F) hL hB)).mono fun r w hD => ?_
  rw [vol_get] at hD
  obtain ⟨u, hr, hD⟩ := hD
  subst hr
  dsimp only at hD
  clear hL hB close
  obtain ⟨dL, hL, hB, close⟩ := hD.open
  obtain ⟨ua, uc, rfl⟩ := (show SlN w 1 u _ _ from hL.rowN (i := 0) rfl).shape
  obtain ⟨ub, uo, rfl, _⟩ := (show SlN w 1 _ (vhd id ++ flat Rs).length _ from hL.rowN (i := 0) rfl).addr (by omega)
  have huc : (vhd id ++ flat Rs).length ≤ uc := (show SlN w 1 _ (vhd id ++ flat Rs).length (bv (vhd id ++ flat Rs)) from hL.rowN (i := 0) rfl).to1.len.2.1
  conv => whnf
  repeat (first | (refine RunK ?_; intro w hL hB; try clear w) | (refine V.tree ttOk (fun x0 => Sep Tryz.prog _ w0 x0 []) (.q 0 (.q 1 (.q 3 (.q 4 (.alt 2 (.alt 5 (.q 6 .nil) .stop) .stop))))) mixed (by decide +kernel) (hL.drew.sub (List.nil_sublist _)) ?_; replace hL := hL.drew; conv => whnf) | (refine V.tailA ttOk mixed (by decide +kernel) ?_; replace hL := hL.drew; conv => whnf) | (refine Both.mk ?_ ?_ <;> conv => whnf) | fail)
  intro n1 c1 z1 z2
  have hn8 : n1 = 8 := by omega
  have hr8 : ∀ {y : World} {L : List Res}, Sep Tryz.prog B w0 y (.row 5 1 (.slice (some ⟨ub, uo, none⟩) (vhd id ++ flat Rs).length uc) (vhd id ++ flat Rs).length (bv (vhd id ++ flat Rs)) :: L) → Sl y (.slice (some ⟨ub, uo, none⟩) n1 c1) (bv (vhd id)) := fun {y L} h => by
    have hs9 : Sl y (.slice (some ⟨ub, uo, none⟩) (vhd id ++ flat Rs).length uc) (bv (vhd id ++ flat Rs)) := Sl.of_own (show y.ownsRow 0 5 1 _ _ _ from h.at (i := 0) rfl)
    have := hs9.take (k := n1) (c' := c1) (by rw [bv_length]; omega) (by omega) (by omega)
    rw [← bv_take, hn8, List.take_append_of_le_length (by rw [h8]; exact Nat.le_refl _), List.take_of_length_le (by rw [h8]; exact Nat.le_refl _)] at this
    rwa [hn8]
  conv => whnf
  repeat (first | (refine RunH ?_; intro w hL hB; try clear w) | (refine Both.mk ?_ ?_ <;> conv => whnf) | fail)
  refine (hsh _).mono fun r w ⟨hr, hw⟩ => ?_
  subst hr
  replace hL := hL.call hB (Turns.of_below hw)
  replace hB := Nat.le_trans hB hw.size
  conv => whnf
  refine ⟨hL.sub (List.nil_sublist _), ?_⟩
  conv => whnf
  repeat (first | (refine RunH ?_; intro w hL hB; try clear w) | (refine Both.mk ?_ ?_ <;> conv => whnf) | fail)
  refine (appendR_fn (shN nm) (by omega) _ (vhd id) (by omega) (fun y hy => hr8 hy) (close (F' := _ :: _ :: _ :: F) hL hB)).mono fun r w ⟨hr, R', hp, hD⟩ => ?_
  clear hL hB close
  subst hr
  obtain rfl := srt_app (shN_ne nm) hs6 hp hD.srt
  rw [h8, one_appE (shN_ne nm) hs6, hl]
  clear hp
  by_cases hroom : 8 + lenR Rs + 8 ≤ room
  case neg =>
    rw [if_pos (by omega)]
    rw [show appS room (volS nm (vhd id ++ flat Rs) []) (shN nm) (vhd id) = volS nm (vhd id ++ flat Rs) [] from by rw [appS, h8, one_appE (shN_ne nm) hs6, hl, if_pos (show room < 8 + lenR Rs + 8 by omega)]; rfl] at hD
    obtain ⟨dL, hL, hB, close⟩ := hD.open
    conv => whnf
    refine ⟨hL.sub (List.nil_sublist _), ?_⟩
    conv => whnf
    repeat (first | (refine RunH ?_; intro w hL hB; try clear w) | (refine Both.mk ?_ ?_ <;> conv => whnf) | fail)
    refine (hsh _).mono fun r w ⟨hr, hw⟩ => ?_
    subst hr
    replace hL := hL.call hB (Turns.of_below hw)
    replace hB := Nat.le_trans hB hw.size
    conv => whnf
    repeat (first | (refine RunH ?_; intro w hL hB; try clear w) | (refine Both.mk ?_ ?_ <;> conv => whnf) | fail)
    refine (removeR_fn (shN nm) (close (F' := _ :: _ :: _ :: F) hL hB)).mono fun r w ⟨hr, hD⟩ => ?_
    subst hr
    rw [one_del_sh (shN_ne nm)] at hD
    rw [show (getS (volS nm (vhd id ++ flat Rs) []) (shN nm)).isSome = false from by rw [vol_get_ne (shN_ne nm)]; rfl]
    clear hL hB close
    obtain ⟨dL, hL, hB, close⟩ := hD.open
    conv => whnf
    repeat (first | (refine RunH ?_; intro w hL hB; try clear w) | (refine Both.mk ?_ ?_ <;> conv => whnf) | fail)
    exact ⟨fun h => absurd rfl h, fun _ _ => ⟨rfl, close (F' := F) hL.tl.tl.tl hB⟩, fun _ h => absurd h hroom⟩
  rw [if_neg (by omega)]
  rw [one_app_sh (shN_ne nm) hs6 (by rw [h8, one_appE (shN_ne nm) hs6, if_neg (by omega)])] at hD
  obtain ⟨dL, hL, hB, close⟩ := hD.open
  conv => whnf
  refine ⟨hL.sub (List.nil_sublist _), ?_⟩
  conv => whnf
  repeat (first | (refine RunH ?_; intro w hL hB; try clear w) | (refine Both.mk ?_ ?_ <;> conv => whnf) | fail)
  replace hL := hL.tl
  refine (rsize_fn hid hnm (close (F' := _ :: _ :: F) hL hB)).mono fun r w ⟨hr, hD⟩ => ?_
  rw [vol_sz, hl] at hr
  subst hr
  clear hL hB close
  obtain ⟨dL, hL, hB, close⟩ := hD.open
  conv => whnf
  repeat (first | (refine RunH ?_; intro w hL hB; try clear w) | (refine Both.mk ?_ ?_ <;> conv => whnf) | fail)
  (refine Nw.sep hL hB (fun jr w hL hB hjr => ?_); conv => whnf)
  repeat (first | (refine RunH ?_; intro w hL hB; try clear w) | (refine Both.mk ?_ ?_ <;> conv => whnf) | fail)
  replace hL := hL.perm ((List.Perm.swap _ _ _).trans (.cons _ (.swap _ _ _)))
  have hpl : (plc 8 Rs).length ≤ 1000000 := by rw [plc_length]; exact hRl
  refine (rplaces_fn (F := _ :: (F ++ dL)) hpl hL hB).mono fun r w ⟨hL, hB⟩ => ?_
  rw [pls_plc] at hL
  rw [rvRes] at hL
  have hsrt := srtA_ls Rs
  have hpn : (plsOf (foldP 8 [] Rs)).length ≤ 1000000 := by
    rw [plsOf_len]
    have := foldP_len Rs 8 []
    simp only [List.length_nil] at this
    omega
  generalize plsOf (foldP 8 [] Rs) = pls at *
  obtain ⟨pa, pc, rfl⟩ := (show SlN w 5 r pls.length _ from hL.rowN (i := 0) rfl).shape
  conv => whnf
  repeat (first | (refine RunH ?_; intro w hL hB; try clear w) | (refine Both.mk ?_ ?_ <;> conv => whnf) | fail)
  replace hL := (hL.nilRow 87 5).front (i := 4) rfl
  dsimp only [List.eraseIdx] at hL
  refine V.loop (α := Nat × Value) (fun z => [(12, ptr jr), (13, .slice pa pls.length pc), (14, .int .i64 (z.1 : Int))])
    (fun z w' => z.1 ≤ pls.length ∧ B ≤ w'.heap.size ∧ Sep Tryz.prog B w0 w' (.blk jr [ptr k, .int .i64 (id : Int), ptr x, z.2, .int .i64 ((8 + lenR Rs : Nat) : Int), .bool false] 155 :: .row 87 5 z.2 (srtA (pls.take z.1)).length ((srtA (pls.take z.1)).flatMap pcC) ::
      .row 87 5 (.slice pa pls.length pc) pls.length (pls.flatMap pcC) :: .blk x [ptr k, .int .i64 (id : Int), .slice ra (plc 8 Rs).length rc] 107 :: .row 87 5 (.slice ra (plc 8 Rs).length rc) (plc 8 Rs).length ((plc 8 Rs).flatMap pcC) :: (F ++ dL))) (fun z => pls.length - z.1) (0, .slice none 0 0) ⟨rfl, rfl, rfl, trivial⟩ ⟨Nat.zero_le _, hB, hL⟩ ?_
  clear hL hB hD hsc
  rintro ⟨i, lv⟩ w ⟨hi, hB, hL⟩
  dsimp only at hi hL ⊢
  have hOl : (srtA (pls.take i)).length = i := by rw [(srtA_perm _).length_eq, List.length_take]; omega
  by_cases hil : i < pls.length
  case neg =>
    obtain rfl : i = pls.length := by omega
    rw [List.take_length, hsrt] at hL
    obtain ⟨la, lc, rfl⟩ := (show SlN w 5 lv (lsOf Rs).length _ from hL.rowN (i := 1) rfl).shape
    repeat (first | (refine RunH ?_; intro w hL hB; try clear w) | (refine Both.mk ?_ ?_ <;> conv => whnf) | fail)
    refine ⟨fun h => absurd rfl h, fun _ h => absurd hroom h, fun _ _ => ⟨jr, x, _, .slice la (lsOf Rs).length lc, rfl, ⟨la, lc, la, rfl, by simp, fun h0 => ?_⟩, close (F' := _ :: _ :: _ :: F) (hL.sub (.cons_cons _ (.cons_cons _ (.cons _ (.cons_cons _ (.cons _ (.refl _))))))) hB⟩⟩
    obtain ⟨⟨g, hgg⟩, _⟩ := own_addr (show w.ownsRow 0 87 5 _ _ _ from hL.at (i := 1) rfl) (by omega)
    exact ⟨g, hgg, hgg⟩
  have hget : pls[i]? = some pls[i] := List.getElem?_eq_getElem hil
  have hnext : srtA (pls.take (i + 1)) = insA pls[i] (srtA (pls.take i)) := by rw [List.take_succ_eq_append_getElem hil, srtA_snoc]
  generalize pls[i] = p at *
  generalize srtA (pls.take i) = O at *
  have hcut := insA_cut p O
  have hcl := cntA_le p O
  obtain ⟨la, lc, rfl⟩ := (show SlN w 5 lv O.length _ from hL.rowN (i := 1) rfl).shape
  obtain ⟨pb, po, rfl, _⟩ := (show SlN w 5 (.slice pa pls.length pc) pls.length _ from hL.rowN (i := 2) rfl).addr (by omega)
  repeat (first | (refine RunH ?_; intro w hL hB; try clear w) | (refine Both.mk ?_ ?_ <;> conv => whnf) | fail)
  refine V.loop (α := Nat) (fun k => [(12, ptr jr), (13, .slice (some ⟨pb, po, none⟩) pls.length pc), (14, .int .i64 (i : Int)), (15, .int .i64 (k : Int))])
    (fun k' w' => k' ≤ cntA p O ∧ B ≤ w'.heap.size ∧ Sep Tryz.prog B w0 w' (.blk jr [ptr k, .int .i64 (id : Int), ptr x, .slice la O.length lc, .int .i64 ((8 + lenR Rs : Nat) : Int), .bool false] 155 :: .row 87 5 (.slice la O.length lc) O.length (O.flatMap pcC) ::
      .row 87 5 (.slice (some ⟨pb, po, none⟩) pls.length pc) pls.length (pls.flatMap pcC) :: .blk x [ptr k, .int .i64 (id : Int), .slice ra (plc 8 Rs).length rc] 107 :: .row 87 5 (.slice ra (plc 8 Rs).length rc) (plc 8 Rs).length ((plc 8 Rs).flatMap pcC) :: (F ++ dL))) (fun k' => O.length - k') 0 ⟨rfl, rfl, rfl, rfl, trivial⟩ ⟨Nat.zero_le _, hB, hL⟩ ?_
  clear hL hB
  rintro kk w ⟨hk, hB, hL⟩
  by_cases hkl : kk < O.length
  case' pos =>
    have hq := List.getElem?_eq_getElem hkl
    have hmore := cntA_more hk _ hq
    generalize O[kk] = q at *
    obtain ⟨lb, lo, rfl, _⟩ := (show SlN w 5 (.slice la O.length lc) O.length _ from hL.rowN (i := 1) rfl).addr (by omega)
    have hlow : ∀ {L : List Res} {y : World}, Sep Tryz.prog B w0 y (.blk jr [ptr k, .int .i64 (id : Int), ptr x, .slice (some ⟨lb, lo, none⟩) O.length lc, .int .i64 ((8 + lenR Rs : Nat) : Int), .bool false] 155 :: .row 87 5 (.slice (some ⟨lb, lo, none⟩) O.length lc) O.length (O.flatMap pcC) :: .row 87 5 (.slice (some ⟨pb, po, none⟩) pls.length pc) pls.length (pls.flatMap pcC) :: L) → Row y lb lo (O.flatMap pcC) ∧ Row y pb po (pls.flatMap pcC) := fun h => ⟨(h.rowN (i := 1) rfl).rowOf, (h.rowN (i := 2) rfl).rowOf⟩
    repeat (first | (refine RunK ?_; intro w hL hB; try clear w) | (refine V.tree ttOk (fun x0 => Sep Tryz.prog _ w0 x0 (.blk jr [ptr k, .int .i64 (id : Int), ptr x, .slice (some ⟨lb, lo, none⟩) O.length lc, .int .i64 ((8 + lenR Rs : Nat) : Int), .bool false] 155 :: .row 87 5 (.slice (some ⟨lb, lo, none⟩) O.length lc) O.length (O.flatMap pcC) :: .row 87 5 (.slice (some ⟨pb, po, none⟩) pls.length pc) pls.length (pls.flatMap pcC) :: [])) (.q 0 (.q 1 (.q 2 (.q 3 (.q 4 (.q 5 (.q 6 (.q 7 (.q 8 (.q 9 (.q 10 (.q 11 (.q 12 (.q 13 (.q 14 (.q 15 (.q 16 (.q 17 (.q 18 (.q 19 (.q 20 (.q 21 (.q 22 .nil))))))))))))))))))))))) mixed (by decide +kernel) (hL.drew.sub (.cons_cons _ (.cons_cons _ (.cons_cons _ (List.nil_sublist _))))) ?_; replace hL := hL.drew; conv => whnf) | (refine V.tailA ttOk mixed (by decide +kernel) ?_; replace hL := hL.drew; conv => whnf) | (refine Both.mk ?_ ?_ <;> conv => whnf) | fail)
    intro o1 ho1
    conv => whnf
    repeat (first | (refine RunH ?_; intro w hL hB; try clear w) | (refine Both.mk ?_ ?_ <;> conv => whnf) | fail)
    refine Lq.of_class (fun y hy => Ld.rowF ttOk pcC_len 1 (hlow (L := []) hy).1 (ss := O) (o' := o1 + 1) (k := kk) tl3 rfl hq rfl (by omega) rfl) ?_
    conv => whnf
    repeat (first | (refine RunH ?_; intro w hL hB; try clear w) | (refine Both.mk ?_ ?_ <;> conv => whnf) | fail)
    intro o2 ho2
    conv => whnf
    repeat (first | (refine RunH ?_; intro w hL hB; try clear w) | (refine Both.mk ?_ ?_ <;> conv => whnf) | fail)
    refine Lq.of_class (fun y hy => Ld.rowF ttOk pcC_len 1 (hlow (L := []) hy).2 (ss := pls) (o' := o2 + 1) (k := i) tl3 rfl hget rfl (by omega) rfl) ?_
    conv => whnf
    by_cases hlt : q.at_ < p.at_
    case pos =>
      repeat (first | (refine RunH ?_; intro w hL hB; try clear w) | (refine Both.mk ?_ ?_ <;> conv => whnf) | fail)
      exact ⟨kk + 1, ⟨rfl, rfl, rfl, vint (by push_cast; omega), trivial⟩, ⟨by have := hmore.2 hlt; omega, hB, hL⟩, (by first | omega | (dsimp only; omega))⟩
    have hke : kk = cntA p O := by
      rcases Nat.lt_or_ge kk (cntA p O) with h | h
      · exact absurd (hmore.1 h) hlt
      · omega
    repeat (first | (refine RunH ?_; intro w hL hB; try clear w) | (refine Both.mk ?_ ?_ <;> conv => whnf) | fail)
    clear hlow hmore hq hlt hk
  case' neg =>
    have hke : kk = cntA p O := by omega
    repeat (first | (refine RunK ?_; intro w hL hB; try clear w) | (refine V.tree ttOk (fun x0 => Sep Tryz.prog _ w0 x0 (.blk jr [ptr k, .int .i64 (id : Int), ptr x, .slice la O.length lc, .int .i64 ((8 + lenR Rs : Nat) : Int), .bool false] 155 :: [])) (.q 0 (.q 1 (.q 2 (.q 3 (.q 4 (.q 5 (.q 6 (.q 7 (.q 8 (.q 9 (.q 10 (.q 11 (.q 12 (.q 13 (.q 14 (.q 15 (.q 16 (.q 17 (.q 18 (.q 19 (.q 20 (.q 21 (.q 22 .nil))))))))))))))))))))))) mixed (by decide +kernel) (hL.drew.sub (.cons_cons _ (List.nil_sublist _))) ?_; replace hL := hL.drew; conv => whnf) | (refine V.tailA ttOk mixed (by decide +kernel) ?_; replace hL := hL.drew; conv => whnf) | (refine Both.mk ?_ ?_ <;> conv => whnf) | fail)
  all_goals (
    rw [← hke] at hcut hcl
    refine Rv.buildS (len := 0) (vs := []) ttOk hL tl73 tl87 rfl rfl (by intro u hu; cases hu) (by decide) (by decide) hB fun bo w hL hB => ?_
    conv => whnf
    rcases own_shape (hL.ownR (i := 2) rfl) with ⟨hv, h0⟩ | ⟨g, gc, hv, hgc⟩
    · injection hv with hv1 hv2 hv3
      obtain rfl := List.eq_nil_of_length_eq_zero h0
      rw [hv1, hv3] at hL
      replace hL : Sep Tryz.prog B w0 w (_ :: .blk jr [ptr k, .int .i64 (id : Int), ptr x, .slice none 0 0, .int .i64 ((8 + lenR Rs : Nat) : Int), .bool false] 155 :: .row 87 5 (.slice none 0 0) 0 [] :: _) := hL
      obtain rfl : kk = 0 := by simpa using hcl
      repeat (first | (refine RunH ?_; intro w hL hB; try clear w) | (refine Both.mk ?_ ?_ <;> conv => whnf) | fail)
      intro n1 c1 q1 q2
      obtain rfl : n1 = 0 := by omega
      obtain rfl : c1 = 0 := by omega
      conv => whnf
      repeat (first | (refine RunH ?_; intro w hL hB; try clear w) | (refine Both.mk ?_ ?_ <;> conv => whnf) | fail)
      refine Rv.appendS (m := 0) (news := []) ttOk hL tl73 tl87 rfl (by decide) 0 rfl (SlN.nil _ _) (by simp) (by simp [maxLen]) (by simp) hB fun v1 w hL hB => ?_
      dsimp only [List.set, List.flatMap_nil, List.append_nil] at hL
      obtain ⟨xa, xc, rfl⟩ := (show SlN w 5 v1 _ _ from hL.rowN (i := 0) rfl).shape
      conv => whnf
      repeat (first | (refine RunH ?_; intro w hL hB; try clear w) | (refine Both.mk ?_ ?_ <;> conv => whnf) | fail)
      intro o2 ho2
      conv => whnf
      refine Ld.rowN ttOk pcC_len (hL.rowN (i := 3) rfl).rowOf tl87 rfl rfl hget (by omega) ?_
      conv => whnf
      repeat (first | (refine RunH ?_; intro w hL hB; try clear w) | (refine Both.mk ?_ ?_ <;> conv => whnf) | fail)
      refine Rv.buildS (len := 1) (vs := [.agg (pcC p).toArray]) ttOk hL tl73 tl87 rfl rfl (by intro u hu; simp only [List.mem_singleton] at hu; subst hu; rfl) (by decide) (by decide) hB fun bo2 w hL hB => ?_
      conv => whnf
      repeat (first | (refine RunH ?_; intro w hL hB; try clear w) | (refine Both.mk ?_ ?_ <;> conv => whnf) | fail)
      refine Rv.appendS (m := 1) (news := pcC p) ttOk hL tl73 tl87 rfl (by decide) 1 rfl (hL.rowN (i := 0) rfl) (pc_one p) (by simp only [maxLen]; omega) (by omega) hB fun v2 w hL hB => ?_
      dsimp only [List.set, List.flatMap_nil, List.append_nil] at hL
      replace hL := hL.tl
      obtain ⟨ya, yc, rfl⟩ := (show SlN w 5 v2 _ _ from hL.rowN (i := 0) rfl).shape
      conv => whnf
      repeat (first | (refine RunH ?_; intro w hL hB; try clear w) | (refine Both.mk ?_ ?_ <;> conv => whnf) | fail)
      intro n2 c2 q3 q4
      obtain rfl : n2 = 0 := by omega
      obtain rfl : c2 = 0 := by omega
      conv => whnf
      repeat (first | (refine RunH ?_; intro w hL hB; try clear w) | (refine Both.mk ?_ ?_ <;> conv => whnf) | fail)
      refine Rv.appendS (m := 0) (news := []) ttOk hL tl73 tl87 rfl (by decide) 0 rfl (SlN.nil _ _) (by simp) (by simp [maxLen]) (by simp) hB fun v3 w hL hB => ?_
      dsimp only [List.set, List.flatMap_nil, List.append_nil] at hL
      obtain ⟨za, zc, rfl⟩ := (show SlN w 5 v3 _ _ from hL.rowN (i := 0) rfl).shape
      conv => whnf
      repeat (first | (refine RunH ?_; intro w hL hB; try clear w) | (refine Both.mk ?_ ?_ <;> conv => whnf) | fail)
      refine ⟨(i + 1, .slice za (0 + 0 + 1 + 0) zc), ⟨rfl, rfl, vint (by push_cast; omega), trivial⟩, ⟨by dsimp only; omega, hB, ?_⟩, (by first | omega | (dsimp only; omega))⟩
      dsimp only
      rw [hnext, hcut]
      have hL2 := (hL.sub (L' := _ :: _ :: _ :: _ :: _ :: (F ++ dL)) (.cons_cons _ (.cons_cons _ (.cons _ (.cons_cons _ (.cons_cons _ (.cons_cons _ (.refl _)))))))).perm (.swap _ _ _)
      simpa using hL2
    · injection hv with hv1 hv2 hv3
      rw [hv1, hv3] at hL
      repeat (first | (refine RunH ?_; intro w hL hB; try clear w) | (refine Both.mk ?_ ?_ <;> conv => whnf) | fail)
      intro n1 c1 q1 q2
      obtain rfl : n1 = kk := by omega
      conv => whnf
      repeat (first | (refine RunH ?_; intro w hL hB; try clear w) | (refine Both.mk ?_ ?_ <;> conv => whnf) | fail)
      refine Rv.appendS (m := n1) (news := (O.take n1).flatMap pcC) ttOk hL tl73 tl87 rfl (by decide) 0 rfl (by
        have := SlN.takeF pcC_len (hL.rowN (i := 2) rfl) (k := n1) (by omega) (c' := c1) (by omega) (by omega)
        exact this) (pcs_one _) (by simp only [maxLen]; omega) (by omega) hB fun v1 w hL hB => ?_
      dsimp only [List.set, List.flatMap_nil, List.append_nil] at hL
      obtain ⟨xa, xc, rfl⟩ := (show SlN w 5 v1 _ _ from hL.rowN (i := 0) rfl).shape
      conv => whnf
      repeat (first | (refine RunH ?_; intro w hL hB; try clear w) | (refine Both.mk ?_ ?_ <;> conv => whnf) | fail)
      intro o2 ho2
      conv => whnf
      refine Ld.rowN ttOk pcC_len (hL.rowN (i := 3) rfl).rowOf tl87 rfl rfl hget (by omega) ?_
      conv => whnf
      repeat (first | (refine RunH ?_; intro w hL hB; try clear w) | (refine Both.mk ?_ ?_ <;> conv => whnf) | fail)
      refine Rv.buildS (len := 1) (vs := [.agg (pcC p).toArray]) ttOk hL tl73 tl87 rfl rfl (by intro u hu; simp only [List.mem_singleton] at hu; subst hu; rfl) (by decide) (by decide) hB fun bo2 w hL hB => ?_
      conv => whnf
      repeat (first | (refine RunH ?_; intro w hL hB; try clear w) | (refine Both.mk ?_ ?_ <;> conv => whnf) | fail)
      refine Rv.appendS (m := 1) (news := pcC p) ttOk hL tl73 tl87 rfl (by decide) 1 rfl (hL.rowN (i := 0) rfl) (pc_one p) (by simp only [maxLen]; omega) (by omega) hB fun v2 w hL hB => ?_
      dsimp only [List.set, List.flatMap_nil, List.append_nil] at hL
      replace hL := hL.tl
      obtain ⟨ya, yc, rfl⟩ := (show SlN w 5 v2 _ _ from hL.rowN (i := 0) rfl).shape
      conv => whnf
      repeat (first | (refine RunH ?_; intro w hL hB; try clear w) | (refine Both.mk ?_ ?_ <;> conv => whnf) | fail)
      intro o3 n2 c2 q3 q4 q5 q6
      obtain rfl : n2 = O.length - n1 := by omega
      conv => whnf
      repeat (first | (refine RunH ?_; intro w hL hB; try clear w) | (refine Both.mk ?_ ?_ <;> conv => whnf) | fail)
      refine Rv.appendS (m := O.length - n1) (news := (O.drop n1).flatMap pcC) ttOk hL tl73 tl87 rfl (by decide) 0 rfl (by
        have := SlN.dropF pcC_len (hL.rowN (i := 2) rfl) (k := n1) (by omega) (o' := o3) (n' := O.length - n1) (c' := c2) (fun h => by have := q3 (by omega); omega) (by omega) (by omega)
        exact this) (pcs_one _) (by simp only [maxLen]; omega) (by omega) hB fun v3 w hL hB => ?_
      dsimp only [List.set, List.flatMap_nil, List.append_nil] at hL
      obtain ⟨za, zc, rfl⟩ := (show SlN w 5 v3 _ _ from hL.rowN (i := 0) rfl).shape
      conv => whnf
      repeat (first | (refine RunH ?_; intro w hL hB; try clear w) | (refine Both.mk ?_ ?_ <;> conv => whnf) | fail)
      refine ⟨(i + 1, .slice za (0 + n1 + 1 + (O.length - n1)) zc), ⟨rfl, rfl, vint (by push_cast; omega), trivial⟩, ⟨by dsimp only; omega, hB, ?_⟩, (by first | omega | (dsimp only; omega))⟩
      dsimp only
      rw [hnext, hcut]
      have hL2 := (hL.sub (L' := _ :: _ :: _ :: _ :: _ :: (F ++ dL)) (.cons_cons _ (.cons_cons _ (.cons _ (.cons_cons _ (.cons_cons _ (.cons_cons _ (.refl _)))))))).perm (.swap _ _ _)
      have e : (O.take n1 ++ p :: O.drop n1).flatMap pcC = (O.take n1).flatMap pcC ++ pcC p ++ (O.drop n1).flatMap pcC := by simp
      have e2 : (O.take n1 ++ p :: O.drop n1).length = 0 + n1 + 1 + (O.length - n1) := by simp; omega
      rw [e, e2]
      exact hL2)
end
end Go.Proofs.YtladfadcgfdbfaaGreatDoor
namespace Go.Proofs.YtladfadcgfdbfaaGreatDoor
open Go.RowKit Go.Lib
set_option linter.unusedVariables false
set_option linter.unusedSimpArgs false
set_option maxRecDepth 100000
theorem RkS.totK {B : Nat} {w0 w : World} {b room : Nat} {S : List Fl} {F : List Res} (h : RkS B w0 w b room S F) : totS S ≤ room := by
  obtain ⟨L, fs, rfl, hok, _⟩ := h.of
  rw [tot_fl]; exact hok.ok.tot
theorem srt_app2 {room la : Nat} {nm : ByteArray} {D X xs : List UInt8} {R' : List Fl} (hne : nm ≠ shN nm) (hs6 : 1 ≤ (shN nm).size ∧ (shN nm).size ≤ 64) (hp : R'.Perm (appS room (volS nm D (shS (shN nm) X la)) (shN nm) xs)) (hs : (R'.map (·.nm)).Pairwise ltF) : R' = appS room (volS nm D (shS (shN nm) X la)) (shN nm) xs := by
  refine srt_eq hp hs ?_
  by_cases h : appE room (volS nm D (shS (shN nm) X la)) (shN nm) xs.length = 0
  · rw [two_app hne hs6 h]; exact srt_two _ _ _ _
  · rw [appS, if_neg h]; exact srt_two _ _ _ _
section
variable {B k x jr room id la : Nat} {nm : ByteArray} {T : List Fl} {R : List Fl} {F : List Res} {w0 w : World}
set_option maxHeartbeats 2000000 in
/-- Raw, where the record is there: its bytes lie in a row of one's own -/
theorem rawK_fn {rv : Value} (hid : id ≤ 99999999) (hnm : vnmG id = nm) (p : Pc) (D : List UInt8) (l0 : Nat) (hg : getS R nm = some ⟨nm, D, l0⟩) (hp : p.at_ + p.n ≤ D.length ∧ 0 < p.n) (hDl : D.length ≤ 1073741824) (hD : RkS B w0 w k room R (.blk x [ptr k, .int .i64 (id : Int), rv] 107 :: F)) :
    Fn Tryz.prog 92 #[ptr x, pcV p] w fun r w' => ∃ u, RkS B w0 w' k room R (.row 5 1 u D.length (bv D) :: .blk x [ptr k, .int .i64 (id : Int), rv] 107 :: F) ∧
      ∀ y, (Res.row 5 1 u D.length (bv D)).holds Tryz.prog y → Sl y r (bv (Go.Proofs.YtladfadcgfdbfaaGreatDoor.win D p.at_ p.n)) := by
  have hname := nameR_fn id hid
  rw [hnm] at hname
  obtain ⟨key, at_, n, cook, dead⟩ := p
  obtain ⟨dL, hL, hB, close⟩ := hD.open
  clear hD
  dsimp only at hp ⊢
  rw [pcV, pcC]
  dsimp only
  refine Fn.mk Tryz.func92 rfl (by kernel_rfl) Tryz.ntmps92 rfl (by rw [Tryz.results92]) ?_
  repeat (first | (refine RunH ?_; intro w hL hB; try clear w) | (refine Both.mk ?_ ?_ <;> conv => whnf) | fail)
  (refine Nw.sep hL hB (fun t3 w hL hB ht3 => ?_); conv => whnf)
  replace hL := hL.perm (.swap _ _ _)
  repeat (first | (refine RunK ?_; intro w hL hB; try clear w) | (refine V.tree ttOk (fun x0 => Sep Tryz.prog _ w0 x0 [.blk x [ptr k, .int .i64 (id : Int), rv] 107]) (.q 0 (.q 1 (.q 2 (.q 3 (.q 4 (.q 5 (.q 6 (.q 7 (.alt 8 (.alt 9 (.q 10 (.q 11 (.q 12 (.q 13 (.q 14 .nil))))) .stop) .stop))))))))) mixed (by decide +kernel) (hL.drew.one (i := 0) rfl) ?_; replace hL := hL.drew; conv => whnf) | (refine V.tailA ttOk mixed (by decide +kernel) ?_; replace hL := hL.drew; conv => whnf) | (refine Both.mk ?_ ?_ <;> conv => whnf) | fail)
  refine (hname _).mono fun r w ⟨hr, hw⟩ => ?_
  subst hr
  replace hL := hL.call hB (Turns.of_below hw)
  replace hB := Nat.le_trans hB hw.size
  conv => whnf
  refine ⟨hL.one (i := 0) rfl, ?_⟩
  conv => whnf
  repeat (first | (refine RunH ?_; intro w hL hB; try clear w) | (refine Both.mk ?_ ?_ <;> conv => whnf) | fail)
  refine (readR4_fn nm (close (F' := _ :: _ :: F) hL hB)).mono fun r w hD => ?_
  clear close hL hB
  rw [hg] at hD
  dsimp only at hD
  obtain ⟨u, hr, hD⟩ := hD
  subst hr
  obtain ⟨dL, hL, hB, close⟩ := hD.open
  clear hD
  obtain ⟨ua, uc, rfl⟩ := (show SlN w 1 u _ _ from hL.rowN (i := 0) rfl).shape
  conv => whnf
  refine ⟨hL.one (i := 1) rfl, ?_⟩
  conv => whnf
  obtain ⟨bb, o, rfl, _⟩ := SlN.addr (show SlN w 1 (.slice ua D.length uc) D.length _ from hL.rowN (i := 0) rfl) (by omega)
  have hcap := (show Sl w (.slice (some ⟨bb, o, none⟩) D.length uc) (bv D) from hL.row (i := 0) rfl).len
  simp only [bv_length] at hcap
  repeat (first | (refine RunH ?_; intro w hL hB; try clear w) | (refine Both.mk ?_ ?_ <;> conv => whnf) | fail)
  intro o1 n1 c1 z1 z2 z3 z4
  obtain rfl : n1 = n := by omega
  conv => whnf
  repeat (first | (refine RunH ?_; intro w hL hB; try clear w) | (refine Both.mk ?_ ?_ <;> conv => whnf) | fail)
  refine ⟨_, close (F' := _ :: _ :: F) (hL.sub (.cons_cons _ (.cons_cons _ (.cons _ (.refl _))))) hB, fun y hy => ?_⟩
  have hsl : Sl y (.slice (some ⟨bb, o, none⟩) D.length uc) (bv D) := Sl.of_own (show y.ownsRow 0 5 1 _ _ _ from hy)
  have := (hsl.drop (k := at_) (o' := o1) (n' := D.length - at_) (c' := c1) (by rw [bv_length]; omega) (by omega) (by omega) (by omega)).take (k := n1) (c' := c1) (by simp; omega) (by omega) (by omega)
  rw [Go.Proofs.YtladfadcgfdbfaaGreatDoor.win, bv_take, bv_drop]
  exact this
set_option maxHeartbeats 8000000 in
theorem rstep_fn {rv lv xv : Value} (hid : id ≤ 99999999) (hnm : vnmG id = nm) (A New : List Nd) (k0 : Nat) (hk : k0 ≤ (lsOf A).length) (N : Int) (hN : N ≤ 9223372036854775807) (hlen : (lsOf A).length ≤ 1000000) (hlv : LeftIs rv (lsOf A).length k0 lv) (q e : Nat)
    (hz : stepS room (shN nm) (vhd id ++ flat (A ++ New)) ((lsOf A).drop k0) N.toNat (volS nm (vhd id ++ flat (A ++ New)) (shS (shN nm) (vhd id ++ gone id A k0) la)) = (volS nm (vhd id ++ flat (A ++ New)) (shS (shN nm) (vhd id ++ gone id A (k0 + q)) la), q, e)) (hq : k0 + q ≤ (lsOf A).length) (hqN : q ≤ N.toNat)
    (hD : RkS B w0 w k room (volS nm (vhd id ++ flat (A ++ New)) (shS (shN nm) (vhd id ++ gone id A k0) la)) (rjR jr k id x A rv lv false xv F)) :
    Fn Tryz.prog 52 #[ptr jr, .int .i64 N] w fun r w' => ∃ lv', r = .tuple #[.bool (decide (e = 0 ∧ k0 + q = (lsOf A).length)), .int .i64 (e : Nat)] ∧ LeftIs rv (lsOf A).length (k0 + q) lv' ∧
      RkS B w0 w' k room (volS nm (vhd id ++ flat (A ++ New)) (shS (shN nm) (vhd id ++ gone id A (k0 + q)) la)) (rjR jr k id x A rv lv' false xv F) := by
  have hns := vnmG_size hid
  rw [hnm] at hns
  have hs6 : 1 ≤ (shN nm).size ∧ (shN nm).size ≤ 64 := by rw [shN_size]; omega
  have hsh := shadow_fn id hid
  rw [hnm] at hsh
  have hl : (vhd id ++ flat (A ++ New)).length = 8 + lenR (A ++ New) := by rw [List.length_append, flatR_len, vhd_len]
  have hroom : room ≤ 1073741824 := by
    obtain ⟨L, fs, _, hok, _⟩ := hD.of
    exact hok.ok.room
  have htot := hD.totK
  rw [vol_tot, sh_tot, hl] at htot
  have hDl : (vhd id ++ flat (A ++ New)).length ≤ 1073741824 := by omega
  have hAN := lenR_app A New
  obtain ⟨dL, hL, hB, close⟩ := hD.open
  clear hD
  rw [rjR, rjC] at hL
  refine Fn.mk Tryz.func52 rfl (by kernel_rfl) Tryz.ntmps52 rfl (by rw [Tryz.results52]) ?_
  repeat (first | (refine RunH ?_; intro w hL hB; try clear w) | (refine Both.mk ?_ ?_ <;> conv => whnf) | fail)
  refine V.loop (α := Nat) (fun c => [(0, ptr jr), (1, .int .i64 N), (6, .int .i64 (c : Int))])
    (fun c w' => c ≤ N.toNat ∧ k0 + c ≤ (lsOf A).length ∧ ∃ lv, LeftIs rv (lsOf A).length (k0 + c) lv ∧
      stepS room (shN nm) (vhd id ++ flat (A ++ New)) ((lsOf A).drop k0) N.toNat (volS nm (vhd id ++ flat (A ++ New)) (shS (shN nm) (vhd id ++ gone id A k0) la)) = ((stepS room (shN nm) (vhd id ++ flat (A ++ New)) ((lsOf A).drop (k0 + c)) (N.toNat - c) (volS nm (vhd id ++ flat (A ++ New)) (shS (shN nm) (vhd id ++ gone id A (k0 + c)) la))).1, (stepS room (shN nm) (vhd id ++ flat (A ++ New)) ((lsOf A).drop (k0 + c)) (N.toNat - c) (volS nm (vhd id ++ flat (A ++ New)) (shS (shN nm) (vhd id ++ gone id A (k0 + c)) la))).2.1 + c, (stepS room (shN nm) (vhd id ++ flat (A ++ New)) ((lsOf A).drop (k0 + c)) (N.toNat - c) (volS nm (vhd id ++ flat (A ++ New)) (shS (shN nm) (vhd id ++ gone id A (k0 + c)) la))).2.2) ∧
      RkS B w0 w' k room (volS nm (vhd id ++ flat (A ++ New)) (shS (shN nm) (vhd id ++ gone id A (k0 + c)) la)) (rjR jr k id x A rv lv false xv F)) (fun c => N.toNat - c) 0 ⟨rfl, rfl, rfl, trivial⟩ ⟨Nat.zero_le _, hk, lv, hlv, by simp, close (F' := rjR jr k id x A rv lv false xv F) hL hB⟩ ?_
  clear hL hB close hlv
  rintro c w ⟨hc, hkc, lv, hlv, hz2, hD⟩
  rw [hz] at hz2
  have hlv0 := hlv
  obtain ⟨ra, cap, la9, rfl, rfl, hla⟩ := hlv
  obtain ⟨dL, hL, hB, close⟩ := hD.open
  rw [rjR, rjC] at hL
  by_cases hcN : (c : Int) < N
  case neg =>
    obtain rfl : c = N.toNat := by omega
    rw [Nat.sub_self, stepS_zero] at hz2
    simp only [Prod.mk.injEq, Nat.zero_add] at hz2
    obtain ⟨_, rfl, rfl⟩ := hz2
    repeat (first | (refine RunH ?_; intro w hL hB; try clear w) | (refine Both.mk ?_ ?_ <;> conv => whnf) | fail)
    exact ⟨_, tupB (by omega) rfl, hlv0, hD⟩
  by_cases hkl : k0 + c < (lsOf A).length
  case neg =>
    obtain rfl : c = (lsOf A).length - k0 := by omega
    rw [List.drop_eq_nil_of_le (show (lsOf A).length ≤ k0 + ((lsOf A).length - k0) by omega), stepS_nil] at hz2
    simp only [Prod.mk.injEq, Nat.zero_add] at hz2
    obtain ⟨_, rfl, rfl⟩ := hz2
    repeat (first | (refine RunH ?_; intro w hL hB; try clear w) | (refine Both.mk ?_ ?_ <;> conv => whnf) | fail)
    exact ⟨_, tupB (by omega) rfl, hlv0, hD⟩
  have hget := List.getElem?_eq_getElem hkl
  have hpp := lsOf_in (List.getElem_mem hkl)
  have hdr : (lsOf A).drop (k0 + c) = (lsOf A)[k0 + c] :: (lsOf A).drop (k0 + (c + 1)) := List.drop_eq_getElem_cons hkl
  have hgn : gone id A (k0 + c) ++ Go.Proofs.YtladfadcgfdbfaaGreatDoor.win (vhd id ++ flat (A ++ New)) ((lsOf A)[k0 + c]).at_ ((lsOf A)[k0 + c]).n = gone id A (k0 + (c + 1)) := by
    have := gone_more id A New (k0 + c) 1
    rw [hdr, List.take_succ_cons, List.take_zero, List.flatMap_cons, List.flatMap_nil, List.append_nil] at this
    exact this
  generalize hpp0 : (lsOf A)[k0 + c] = p at *
  rw [hdr, show N.toNat - c = (N.toNat - (c + 1)) + 1 by omega, stepS] at hz2
  obtain ⟨g, rfl, rfl⟩ := hla hkl
  have hcap : (lsOf A).length ≤ cap := (own_addr (show w.ownsRow 0 87 5 _ _ _ from hL.at (i := 1) rfl) (by omega)).2
  repeat (first | (refine RunK ?_; intro w hL hB; try clear w) | (refine V.tree ttOk (fun x0 => Sep Tryz.prog _ w0 x0 (.blk jr [ptr k, .int .i64 (id : Int), ptr x, .slice (some ⟨g, 5 * (k0 + c), none⟩) ((lsOf A).length - (k0 + c)) (cap - (k0 + c)), .int .i64 ((8 + lenR A : Nat) : Int), .bool false] 155 :: .row 87 5 (.slice (some ⟨g, 0, none⟩) (lsOf A).length cap) (lsOf A).length ((lsOf A).flatMap pcC) :: [])) (.q 0 (.q 1 (.q 2 (.q 3 (.q 4 (.q 5 (.q 6 (.q 7 (.q 9 (.q 10 (.q 11 (.q 12 (.q 13 (.q 14 (.q 15 (.q 16 (.q 17 (.q 18 (.alt 8 (.alt 19 (.alt 20 (.q 21 .nil) .stop) .stop) .stop))))))))))))))))))) mixed (by decide +kernel) (hL.drew.sub (.cons_cons _ (.cons_cons _ (List.nil_sublist _)))) ?_; replace hL := hL.drew; conv => whnf) | (refine V.tailA ttOk mixed (by decide +kernel) ?_; replace hL := hL.drew; conv => whnf) | (refine Both.mk ?_ ?_ <;> conv => whnf) | fail)
  intro o1 ho1
  conv => whnf
  refine Lq.of_class (fun y hy => Ld.rowN ttOk pcC_len (hy.rowN (i := 1) rfl).rowOf (ss := lsOf A) (o' := o1) (k := k0 + c) tl87 rfl rfl hget (by omega) rfl) ?_
  conv => whnf
  repeat (first | (refine RunH ?_; intro w hL hB; try clear w) | (refine Both.mk ?_ ?_ <;> conv => whnf) | fail)
  refine (hsh _).mono fun r w ⟨hr, hw⟩ => ?_
  subst hr
  replace hL := hL.call hB (Turns.of_below hw)
  replace hB := Nat.le_trans hB hw.size
  conv => whnf
  refine ⟨hL.sub (.cons_cons _ (.cons_cons _ (List.nil_sublist _))), ?_⟩
  conv => whnf
  repeat (first | (refine RunH ?_; intro w hL hB; try clear w) | (refine Both.mk ?_ ?_ <;> conv => whnf) | fail)
  replace hL := hL.perm (L' := _ :: _ :: _ :: (F ++ dL)) ((List.perm_append_comm (l₁ := [_, _]) (l₂ := [_])).append_right (F ++ dL))
  refine (rawK_fn hid hnm p (vhd id ++ flat (A ++ New)) _ vol_get ⟨by rw [hl]; omega, hpp.2⟩ hDl (close (F' := _ :: _ :: _ :: F) hL hB)).mono fun r w ⟨u, hD, hr⟩ => ?_
  clear hL hB close
  obtain ⟨dL, hL, hB, close⟩ := hD.open
  obtain ⟨ra9, rc9, hr9⟩ := (hr _ (hL.at (i := 0) rfl)).shape
  have hwl : (Go.Proofs.YtladfadcgfdbfaaGreatDoor.win (vhd id ++ flat (A ++ New)) p.at_ p.n).length = p.n := win_len (by rw [hl]; omega)
  rw [bv_length, hwl] at hr9
  subst hr9
  conv => whnf
  refine ⟨(hL.sub (L' := [_, _]) (.cons _ (.cons _ (.cons_cons _ (.cons_cons _ (List.nil_sublist _)))))), ?_⟩
  conv => whnf
  repeat (first | (refine RunH ?_; intro w hL hB; try clear w) | (refine Both.mk ?_ ?_ <;> conv => whnf) | fail)
  refine (appendR_fn (shN nm) (by omega) _ (Go.Proofs.YtladfadcgfdbfaaGreatDoor.win (vhd id ++ flat (A ++ New)) p.at_ p.n) (by omega) (fun y hy => hr _ (hy.at (i := 0) rfl)) (close (F' := _ :: _ :: _ :: _ :: F) hL hB)).mono fun r w ⟨he, R', hp, hD⟩ => ?_
  clear hL hB close
  subst he
  have hdone := srt_app2 (shN_ne nm) hs6 hp hD.srt
  subst hdone
  clear hp
  rw [hwl]
  obtain ⟨dL, hL, hB, close⟩ := hD.open
  clear hD
  conv => whnf
  refine ⟨(hL.sub (L' := [_, _]) (.cons _ (.cons _ (.cons_cons _ (.cons_cons _ (List.nil_sublist _)))))), ?_⟩
  by_cases hE : appE room (volS nm (vhd id ++ flat (A ++ New)) (shS (shN nm) (vhd id ++ gone id A (k0 + c)) la)) (shN nm) p.n = 0
  case neg =>
    rw [if_neg hE] at hz2
    rw [appS, hwl, if_neg hE] at close
    simp only [Prod.mk.injEq, Nat.zero_add] at hz2
    obtain ⟨_, rfl, he2⟩ := hz2
    rw [← he2] at hE ⊢
    conv => whnf
    repeat (first | (refine RunH ?_; intro w hL hB; try clear w) | (refine Both.mk ?_ ?_ <;> conv => whnf) | fail)
    exact ⟨_, tupB (p := False) (by simp [hE]) rfl, hlv0, (close (F' := _ :: _ :: _ :: F) hL.tl hB).perm (by
      exact (List.perm_append_comm (l₁ := [_]) (l₂ := [_, _])).append_right F)⟩
  rw [if_pos hE, two_app (shN_ne nm) hs6 (by rw [hwl]; exact hE), List.append_assoc, hgn] at hz2
  rw [two_app (shN_ne nm) hs6 (by rw [hwl]; exact hE), List.append_assoc, hgn] at close
  rw [hE]
  conv => whnf
  repeat (first | (refine RunH ?_; intro w hL hB; try clear w) | (refine Both.mk ?_ ?_ <;> conv => whnf) | fail)
  intro o5 n5 c5 g1 g2 g3 g4
  conv => whnf
  repeat (first | (refine RunH ?_; intro w hL hB; try clear w) | (refine Both.mk ?_ ?_ <;> conv => whnf) | fail)
  have e5 : n5 = (lsOf A).length - (k0 + (c + 1)) := by omega
  have e6 : c5 = cap - (k0 + (c + 1)) := by omega
  refine ⟨c + 1, ⟨rfl, rfl, vint (by push_cast; omega), trivial⟩, ⟨by omega, by omega, .slice (some ⟨g, o5, none⟩) n5 c5, ⟨some ⟨g, 0, none⟩, cap, some ⟨g, o5, none⟩, rfl, by rw [e5, e6], fun hk => ⟨g, rfl, ?_⟩⟩, ?_, ?_⟩, (by first | omega | (dsimp only; omega))⟩
  · rw [show o5 = 5 * (k0 + (c + 1)) by omega]
  · rw [hz, hz2]
    dsimp only
    rw [show ∀ a : Nat, a + 1 + c = a + (c + 1) from fun a => by omega]
  · exact (close (F' := _ :: _ :: _ :: F) hL.tl hB).perm ((List.perm_append_comm (l₁ := [_]) (l₂ := [_, _])).append_right F)
set_option maxHeartbeats 16000000 in
theorem rcommit_fn {rv lv xv : Value} (hid : id ≤ 99999999) (hnm : vnmG id = nm) (A New : List Nd) (hok : ∀ r ∈ A ++ New, OkRec r) (k0 : Nat) (hk : k0 ≤ (lsOf A).length) (hlen : (lsOf A).length ≤ 1000000) (hlv : LeftIs rv (lsOf A).length k0 lv)
    (hD : RkS B w0 w k room (volS nm (vhd id ++ flat (A ++ New)) (shS (shN nm) (vhd id ++ gone id A k0) la)) (rjR jr k id x A rv lv false xv F)) :
    Fn Tryz.prog 53 #[ptr jr] w fun r w' => ∃ lv',
      (8 + lenR (A ++ New) + 8 + lenR (keepR (foldP 8 [] A) 8 A) + lenR New ≤ room → ∃ x2 ra rc, r = .tuple #[ptr x2, .int .i64 0] ∧
        RkS B w0 w' k room (volS nm (vhd id ++ flat (keepR (foldP 8 [] A) 8 A ++ New)) []) (rvRes x2 k id ra rc (plc 8 (keepR (foldP 8 [] A) 8 A ++ New)) (.blk jr (rjC k id x lv' (8 + lenR A) true) 155 :: F))) ∧
      (¬ 8 + lenR (A ++ New) + 8 + lenR (keepR (foldP 8 [] A) 8 A) + lenR New ≤ room → r = .tuple #[.pointer none, .int .i64 6] ∧
        RkS B w0 w' k room (volS nm (vhd id ++ flat (A ++ New)) []) (.blk jr (rjC k id x lv' (8 + lenR A) true) 155 :: F)) := by
  have hns := vnmG_size hid
  rw [hnm] at hns
  have hs6 : 1 ≤ (shN nm).size ∧ (shN nm).size ≤ 64 := by rw [shN_size]; omega
  have hsh := shadow_fn id hid
  have hname := nameR_fn id hid
  rw [hnm] at hsh hname
  have h8 := vhd_len id
  have hl : (vhd id ++ flat (A ++ New)).length = 8 + lenR (A ++ New) := by rw [List.length_append, flatR_len, vhd_len]
  have hAN := lenR_app A New
  have hKN := lenR_app (keepR (foldP 8 [] A) 8 A) New
  have hroom : room ≤ 1073741824 := by
    obtain ⟨L, fs, _, hok, _⟩ := hD.of
    exact hok.ok.room
  have htot := hD.totK
  rw [vol_tot, sh_tot, hl, List.length_append, vhd_len, gone_len] at htot
  obtain ⟨q, e, s1, s2, s3, s4, s5, s6⟩ := step_two (room := room) (id := id) (la := la) (shN_ne nm) hs6 A New k0 ((lsOf A).length - k0) (by omega)
  have hsum : sumN ((lsOf A).take (k0 + ((lsOf A).length - k0))) = lenR (keepR (foldP 8 [] A) 8 A) := by
    rw [List.take_of_length_le (by omega), lsOf_sum]
  rw [hsum] at s6
  have hstep := rstep_fn (w := w) hid hnm A New k0 hk (((lsOf A).length - k0 : Nat) : Int) (by omega) hlen hlv q e (by rw [Int.toNat_natCast]; exact s5) (by omega) (by rw [Int.toNat_natCast]; exact s2) hD
  have hall : e = 0 → gone id A (k0 + q) = flat (keepR (foldP 8 [] A) 8 A) := fun he => gone_all id (by have := s3 he; omega)
  obtain ⟨ra0, cap, la9, rfl, rfl, hla⟩ := hlv
  obtain ⟨dL, hL, hB, close⟩ := hD.open
  clear hD
  rw [rjR, rjC] at hL
  refine Fn.mk Tryz.func53 rfl (by kernel_rfl) Tryz.ntmps53 rfl (by rw [Tryz.results53]) ?_
  repeat (first | (refine RunH ?_; intro w hL hB; try clear w) | (refine Both.mk ?_ ?_ <;> conv => whnf) | fail)
  clear hL hB close
  refine hstep.mono fun r w ⟨lv1, hr, hlv1, hD⟩ => ?_
  subst hr
  have hXl : (vhd id ++ gone id A (k0 + q)).length = 8 + (gone id A (k0 + q)).length := by rw [List.length_append, vhd_len]
  have htot1 := hD.totK
  rw [vol_tot, sh_tot, hl, hXl] at htot1
  obtain ⟨dL, hL, hB, close⟩ := hD.open
  rw [rjR, rjC] at hL
  generalize hX1 : vhd id ++ gone id A (k0 + q) = X1 at *
  conv => whnf
  by_cases he : e = 0
  case' neg =>
    have f1 : e = 6 := s4 he
    have f2 : e = 0 ↔ 8 + lenR (A ++ New) + 8 + lenR (keepR (foldP 8 [] A) 8 A) + lenR New ≤ room := ⟨fun h => absurd h he, fun h => absurd (s6.2 (by omega)) he⟩
    have f3 : e ≠ 0 → e = 6 := s4
    have f4 : e = 0 → X1 = vhd id ++ flat (keepR (foldP 8 [] A) 8 A ++ New) := fun h => absurd h he
    clear f1
    repeat (first | (refine RunH ?_; intro w hL hB; try clear w) | (refine Both.mk ?_ ?_ <;> conv => whnf) | fail)
    generalize hE2 : e = E2 at *
    generalize hX3 : X1 = X2 at *
  case' pos =>
    have hX2 : X1 = vhd id ++ flat (keepR (foldP 8 [] A) 8 A) := by rw [← hX1, hall he]
    have hroom1 := s6.1 he
    have hgl : (gone id A (k0 + q)).length = lenR (keepR (foldP 8 [] A) 8 A) := by rw [hall he, flatR_len]
    subst he
    repeat (first | (refine RunK ?_; intro w hL hB; try clear w) | (refine V.tree ttOk (fun x0 => Sep Tryz.prog _ w0 x0 [.blk jr [ptr k, .int .i64 (id : Int), ptr x, lv1, .int .i64 ((8 + lenR A : Nat) : Int), .bool false] 155]) (.q 0 (.q 1 (.q 2 (.q 3 (.q 4 (.q 5 (.q 6 (.q 7 (.alt 8 (.alt 9 (.q 10 (.q 11 (.q 12 (.q 13 (.q 14 .nil))))) .stop) .stop))))))))) mixed (by decide +kernel) (hL.drew.one (i := 0) rfl) ?_; replace hL := hL.drew; conv => whnf) | (refine V.tailA ttOk mixed (by decide +kernel) ?_; replace hL := hL.drew; conv => whnf) | (refine Both.mk ?_ ?_ <;> conv => whnf) | fail)
    refine (hname _).mono fun r w ⟨hr, hw⟩ => ?_
    subst hr
    replace hL := hL.call hB (Turns.of_below hw)
    replace hB := Nat.le_trans hB hw.size
    conv => whnf
    refine ⟨hL.one (i := 0) rfl, ?_⟩
    conv => whnf
    repeat (first | (refine RunH ?_; intro w hL hB; try clear w) | (refine Both.mk ?_ ?_ <;> conv => whnf) | fail)
    refine (readR4_fn nm (close (F' := _ :: _ :: _ :: F) hL hB)).mono fun r w hD => ?_
    clear hL hB close
    rw [vol_get] at hD
    dsimp only at hD
    obtain ⟨u, hr, hD⟩ := hD
    subst hr
    obtain ⟨dL, hL, hB, close⟩ := hD.open
    obtain ⟨ua, uc, rfl⟩ := (show SlN w 1 u _ _ from hL.rowN (i := 0) rfl).shape
    obtain ⟨ub, uo, rfl, _⟩ := (show SlN w 1 (.slice ua (vhd id ++ flat (A ++ New)).length uc) (vhd id ++ flat (A ++ New)).length _ from hL.rowN (i := 0) rfl).addr (by omega)
    have huc : (vhd id ++ flat (A ++ New)).length ≤ uc := (show SlN w 1 _ (vhd id ++ flat (A ++ New)).length (bv (vhd id ++ flat (A ++ New))) from hL.rowN (i := 0) rfl).to1.len.2.1
    conv => whnf
    refine ⟨hL.one (i := 1) rfl, ?_⟩
    conv => whnf
    by_cases hnew : New = []
    case' pos =>
      have h0 : lenR New = 0 := by rw [hnew]; rfl
      have f2 : (0 : Nat) = 0 ↔ 8 + lenR (A ++ New) + 8 + lenR (keepR (foldP 8 [] A) 8 A) + lenR New ≤ room := ⟨fun _ => by omega, fun _ => rfl⟩
      have f3 : (0 : Nat) ≠ 0 → (0 : Nat) = 6 := fun h => absurd rfl h
      have f4 : (0 : Nat) = 0 → X1 = vhd id ++ flat (keepR (foldP 8 [] A) 8 A ++ New) := fun _ => by rw [hX2, hnew, List.append_nil]
      repeat (first | (refine RunH ?_; intro w hL hB; try clear w) | (refine Both.mk ?_ ?_ <;> conv => whnf) | fail)
      replace hL := hL.tl
      obtain ⟨E2, hE2⟩ : ∃ E2 : Nat, E2 = 0 := ⟨0, rfl⟩
      replace f2 : E2 = 0 ↔ 8 + lenR (A ++ New) + 8 + lenR (keepR (foldP 8 [] A) 8 A) + lenR New ≤ room := ⟨fun _ => f2.1 rfl, fun _ => hE2⟩
      replace f3 : E2 ≠ 0 → E2 = 6 := fun h => absurd hE2 h
      replace f4 : E2 = 0 → X1 = vhd id ++ flat (keepR (foldP 8 [] A) 8 A ++ New) := fun _ => f4 rfl
      generalize hX3 : X1 = X2 at *
    case' neg =>
      have h0 : 0 < lenR New := by
        cases hn : New with
        | nil => exact absurd hn hnew
        | cons r rs => have := szR_le r; simp only [lenR, List.map_cons, List.sum_cons]; omega
      have hdrop : (vhd id ++ flat (A ++ New)).drop (8 + lenR A) = flat New := by
        rw [flat_app, ← List.append_assoc, List.drop_left' (by rw [List.length_append, flatR_len, vhd_len])]
      repeat (first | (refine RunK ?_; intro w hL hB; try clear w) | (refine V.tree ttOk (fun x0 => Sep Tryz.prog _ w0 x0 [.blk jr [ptr k, .int .i64 (id : Int), ptr x, lv1, .int .i64 ((8 + lenR A : Nat) : Int), .bool false] 155]) (.q 0 (.q 1 (.q 2 (.q 3 (.q 4 (.q 5 (.q 6 (.q 7 (.q 9 (.q 10 (.q 11 (.q 12 (.q 13 (.q 14 (.alt 8 (.alt 15 (.q 16 .nil) .stop) .stop))))))))))))))) mixed (by decide +kernel) (hL.drew.one (i := 1) rfl) ?_; replace hL := hL.drew; conv => whnf) | (refine V.tailA ttOk mixed (by decide +kernel) ?_; replace hL := hL.drew; conv => whnf) | (refine Both.mk ?_ ?_ <;> conv => whnf) | fail)
      intro o1 n1 c1 z1 z2 z3 z4
      conv => whnf
      repeat (first | (refine RunH ?_; intro w hL hB; try clear w) | (refine Both.mk ?_ ?_ <;> conv => whnf) | fail)
      refine (hsh _).mono fun r w ⟨hr, hw⟩ => ?_
      subst hr
      replace hL := hL.call hB (Turns.of_below hw)
      replace hB := Nat.le_trans hB hw.size
      conv => whnf
      refine ⟨hL.one (i := 1) rfl, ?_⟩
      conv => whnf
      repeat (first | (refine RunH ?_; intro w hL hB; try clear w) | (refine Both.mk ?_ ?_ <;> conv => whnf) | fail)
      have hslN : ∀ {L : List Res} {y : World}, Sep Tryz.prog B w0 y (.row 5 1 (.slice (some ⟨ub, uo, none⟩) (vhd id ++ flat (A ++ New)).length uc) (vhd id ++ flat (A ++ New)).length (bv (vhd id ++ flat (A ++ New))) :: L) → Sl y (.slice (some ⟨ub, o1, none⟩) n1 c1) (bv (flat New)) := fun {L y} hy => by
        have hs9 : Sl y (.slice (some ⟨ub, uo, none⟩) (vhd id ++ flat (A ++ New)).length uc) (bv (vhd id ++ flat (A ++ New))) := Sl.of_own (show y.ownsRow 0 5 1 _ _ _ from hy.at (i := 0) rfl)
        have := hs9.drop (k := 8 + lenR A) (o' := o1) (n' := n1) (c' := c1) (by rw [bv_length]; omega) (by omega) (by omega) (by omega)
        rw [← bv_drop, hdrop] at this
        exact this
      refine (appendR_fn (shN nm) (by omega) _ (flat New) (by rw [flatR_len]; omega) (fun y hy => hslN hy) (close (F' := _ :: _ :: _ :: _ :: F) hL hB)).mono fun r w ⟨hr, R', hp, hD⟩ => ?_
      clear hL hB close
      subst hr
      have hdone := srt_app2 (shN_ne nm) hs6 hp hD.srt
      subst hdone
      clear hp hslN
      rw [flatR_len, two_appE (shN_ne nm) hs6, hl, hXl, hgl]
      have hfitA : appE room (volS nm (vhd id ++ flat (A ++ New)) (shS (shN nm) X1 la)) (shN nm) (flat New).length = if room < 8 + lenR (A ++ New) + (8 + lenR (keepR (foldP 8 [] A) 8 A)) + lenR New then 6 else 0 := by rw [flatR_len, two_appE (shN_ne nm) hs6, hl, hXl, hgl]
      obtain ⟨E2, X2, hE2, f2, f3, f4, hS2⟩ : ∃ E2 X2, (if room < 8 + lenR (A ++ New) + (8 + lenR (keepR (foldP 8 [] A) 8 A)) + lenR New then 6 else 0 : Nat) = E2 ∧ (E2 = 0 ↔ 8 + lenR (A ++ New) + 8 + lenR (keepR (foldP 8 [] A) 8 A) + lenR New ≤ room) ∧ (E2 ≠ 0 → E2 = 6) ∧ (E2 = 0 → X2 = vhd id ++ flat (keepR (foldP 8 [] A) 8 A ++ New)) ∧
          appS room (volS nm (vhd id ++ flat (A ++ New)) (shS (shN nm) X1 la)) (shN nm) (flat New) = volS nm (vhd id ++ flat (A ++ New)) (shS (shN nm) X2 la) := by
        by_cases hfit : room < 8 + lenR (A ++ New) + (8 + lenR (keepR (foldP 8 [] A) 8 A)) + lenR New
        · rw [if_pos hfit] at hfitA
          exact ⟨6, X1, if_pos hfit, ⟨(fun h => by cases h), fun h => by omega⟩, fun _ => rfl, (fun h => by cases h), by rw [appS, hfitA]; rfl⟩
        · rw [if_neg hfit] at hfitA
          exact ⟨0, X1 ++ flat New, if_neg hfit, ⟨fun _ => by omega, fun _ => rfl⟩, fun h => absurd rfl h, fun _ => by rw [hX2, flat_app, List.append_assoc], two_app (shN_ne nm) hs6 hfitA⟩
      rw [hS2] at hD
      rw [hE2]
      obtain ⟨dL, hL, hB, close⟩ := hD.open
      conv => whnf
      refine ⟨hL.one (i := 1) rfl, ?_⟩
      conv => whnf
      repeat (first | (refine RunH ?_; intro w hL hB; try clear w) | (refine Both.mk ?_ ?_ <;> conv => whnf) | fail)
      replace hL := hL.tl
      clear hX1
    skip
  all_goals (
    by_cases hfit : 8 + lenR (A ++ New) + 8 + lenR (keepR (foldP 8 [] A) 8 A) + lenR New ≤ room
    case neg =>
      first | exact absurd (f2.1 (by assumption)) hfit | (
      have hE6 : E2 = 6 := f3 fun h => hfit (f2.1 h)
      rw [hE6]
      repeat (first | (refine RunK ?_; intro w hL hB; try clear w) | (refine V.tree ttOk (fun x0 => Sep Tryz.prog _ w0 x0 [.blk jr [ptr k, .int .i64 (id : Int), ptr x, lv1, .int .i64 ((8 + lenR A : Nat) : Int), .bool true] 155]) (.q 0 (.q 1 (.q 2 (.q 3 (.q 4 (.q 5 (.q 6 (.q 7 (.alt 8 (.alt 9 .nil .stop) .stop))))))))) mixed (by decide +kernel) (hL.drew.one (i := 0) rfl) ?_; replace hL := hL.drew; conv => whnf) | (refine V.tailA ttOk mixed (by decide +kernel) ?_; replace hL := hL.drew; conv => whnf) | (refine Both.mk ?_ ?_ <;> conv => whnf) | fail)
      refine (hsh _).mono fun r w ⟨hr, hw⟩ => ?_
      subst hr
      replace hL := hL.call hB (Turns.of_below hw)
      replace hB := Nat.le_trans hB hw.size
      conv => whnf
      refine ⟨hL.one (i := 0) rfl, ?_⟩
      conv => whnf
      repeat (first | (refine RunH ?_; intro w hL hB; try clear w) | (refine Both.mk ?_ ?_ <;> conv => whnf) | fail)
      refine (removeR_fn (shN nm) (close (F' := _ :: _ :: _ :: F) hL hB)).mono fun r w ⟨hr, hD⟩ => ?_
      subst hr
      rw [two_del (shN_ne nm)] at hD
      rw [show (getS (volS nm (vhd id ++ flat (A ++ New)) (shS (shN nm) X2 la)) (shN nm)).isSome = true from by rw [two_get (shN_ne nm)]; rfl]
      clear hL hB close
      obtain ⟨dL, hL, hB, close⟩ := hD.open
      conv => whnf
      refine ⟨hL.one (i := 0) rfl, ?_⟩
      conv => whnf
      repeat (first | (refine RunH ?_; intro w hL hB; try clear w) | (refine Both.mk ?_ ?_ <;> conv => whnf) | fail)
      exact ⟨lv1, fun h => absurd h hfit, fun _ => ⟨rfl, close (F' := _ :: F) (hL.sub (.cons_cons _ (.cons _ (.cons _ (.refl _))))) hB⟩⟩)
    have hE0 : E2 = 0 := f2.2 hfit
    first | exact absurd hE0 he | (
    have hX := f4 hE0
    subst hX
    try rw [hE0]
    repeat (first | (refine RunK ?_; intro w hL hB; try clear w) | (refine V.tree ttOk (fun x0 => Sep Tryz.prog _ w0 x0 [.blk jr [ptr k, .int .i64 (id : Int), ptr x, lv1, .int .i64 ((8 + lenR A : Nat) : Int), .bool true] 155]) (.q 0 (.q 1 (.q 2 (.q 3 (.q 4 (.q 5 (.q 6 (.q 7 (.alt 8 (.alt 9 .nil .stop) .stop))))))))) mixed (by decide +kernel) (hL.drew.one (i := 0) rfl) ?_; replace hL := hL.drew; conv => whnf) | (refine V.tailA ttOk mixed (by decide +kernel) ?_; replace hL := hL.drew; conv => whnf) | (refine Both.mk ?_ ?_ <;> conv => whnf) | fail)
    refine (hsh _).mono fun r w ⟨hr, hw⟩ => ?_
    subst hr
    replace hL := hL.call hB (Turns.of_below hw)
    replace hB := Nat.le_trans hB hw.size
    conv => whnf
    refine ⟨hL.one (i := 0) rfl, ?_⟩
    conv => whnf
    repeat (first | (refine RunH ?_; intro w hL hB; try clear w) | (refine Both.mk ?_ ?_ <;> conv => whnf) | fail)
    refine (syncR_fn (shN nm) (close (F' := _ :: _ :: _ :: F) hL hB)).mono fun r w ⟨hr, hD⟩ => ?_
    subst hr
    rw [two_sync (shN_ne nm)] at hD
    rw [show (getS (volS nm (vhd id ++ flat (A ++ New)) (shS (shN nm) (vhd id ++ flat (keepR (foldP 8 [] A) 8 A ++ New)) la)) (shN nm)).isSome = true from by rw [two_get (shN_ne nm)]; rfl]
    clear hL hB close
    obtain ⟨dL, hL, hB, close⟩ := hD.open
    conv => whnf
    refine ⟨hL.one (i := 0) rfl, ?_⟩
    conv => whnf
    repeat (first | (refine RunK ?_; intro w hL hB; try clear w) | (refine V.tree ttOk (fun x0 => Sep Tryz.prog _ w0 x0 [.blk jr [ptr k, .int .i64 (id : Int), ptr x, lv1, .int .i64 ((8 + lenR A : Nat) : Int), .bool true] 155]) (.q 0 (.q 1 (.q 2 (.q 3 (.q 4 (.q 5 (.q 6 (.q 7 (.q 9 (.q 10 (.q 11 (.q 12 (.alt 8 (.alt 13 (.alt 14 .nil .stop) .stop) .stop))))))))))))) mixed (by decide +kernel) (hL.drew.one (i := 0) rfl) ?_; replace hL := hL.drew; conv => whnf) | (refine V.tailA ttOk mixed (by decide +kernel) ?_; replace hL := hL.drew; conv => whnf) | (refine Both.mk ?_ ?_ <;> conv => whnf) | fail)
    refine (hsh _).mono fun r w ⟨hr, hw⟩ => ?_
    subst hr
    replace hL := hL.call hB (Turns.of_below hw)
    replace hB := Nat.le_trans hB hw.size
    conv => whnf
    refine ⟨hL.one (i := 0) rfl, ?_⟩
    conv => whnf
    repeat (first | (refine RunH ?_; intro w hL hB; try clear w) | (refine Both.mk ?_ ?_ <;> conv => whnf) | fail)
    refine (hname _).mono fun r w ⟨hr, hw⟩ => ?_
    subst hr
    replace hL := hL.call hB (Turns.of_below hw)
    replace hB := Nat.le_trans hB hw.size
    conv => whnf
    refine ⟨hL.one (i := 0) rfl, ?_⟩
    conv => whnf
    repeat (first | (refine RunH ?_; intro w hL hB; try clear w) | (refine Both.mk ?_ ?_ <;> conv => whnf) | fail)
    refine (renameR_fn (shN nm) nm (by omega) (by omega) (close (F' := _ :: _ :: _ :: F) hL hB)).mono fun r w ⟨hr, R', hp, hD⟩ => ?_
    have hr0 : renE (volS nm (vhd id ++ flat (A ++ New)) (shS (shN nm) (vhd id ++ flat (keepR (foldP 8 [] A) 8 A ++ New)) (vhd id ++ flat (keepR (foldP 8 [] A) 8 A ++ New)).length)) (shN nm) nm = 0 := by
      rw [renE, if_neg (fun h => h (by omega)), two_get (shN_ne nm)]; rfl
    rw [hr0] at hr hp
    rw [if_neg (by decide), two_ren (shN_ne nm)] at hp
    subst hr
    have hdone := srt_eq hp hD.srt (srt_one nm (vhd id ++ flat (keepR (foldP 8 [] A) 8 A ++ New)))
    subst hdone
    clear hL hB close hp
    obtain ⟨dL, hL, hB, close⟩ := hD.open
    conv => whnf
    refine ⟨hL.one (i := 0) rfl, ?_⟩
    conv => whnf
    repeat (first | (refine RunK ?_; intro w hL hB; try clear w) | (refine V.tree ttOk (fun x0 => Sep Tryz.prog _ w0 x0 [.blk jr [ptr k, .int .i64 (id : Int), ptr x, lv1, .int .i64 ((8 + lenR A : Nat) : Int), .bool true] 155]) (.q 0 (.q 1 (.q 2 (.q 3 (.q 4 (.q 5 (.q 6 (.q 7 (.alt 8 (.q 9 (.q 10 (.q 11 (.q 12 .nil)))) .stop))))))))) mixed (by decide +kernel) (hL.drew.one (i := 0) rfl) ?_; replace hL := hL.drew; conv => whnf) | (refine V.tailA ttOk mixed (by decide +kernel) ?_; replace hL := hL.drew; conv => whnf) | (refine Both.mk ?_ ?_ <;> conv => whnf) | fail)
    refine (ropen_fn hid hnm (close (F' := _ :: _ :: _ :: F) hL hB)).mono fun r w ⟨_, h2⟩ => ?_
    have hokK : ∀ r ∈ keepR (foldP 8 [] A) 8 A ++ New, OkRec r := fun r hr => by
      rcases List.mem_append.1 hr with hr | hr
      · exact keep_ok (fun r hr => hok r (by simp [hr])) r hr
      · exact hok r (by simp [hr])
    obtain ⟨x2, r2, c2, rL, o, hsc, hok2, hlen2, hr, hD⟩ := h2 open_vol
    clear h2
    subst hr
    rw [show datS [(⟨nm, vhd id ++ flat (keepR (foldP 8 [] A) 8 A ++ New), (vhd id ++ flat (keepR (foldP 8 [] A) 8 A ++ New)).length⟩ : Fl)] nm = vhd id ++ flat (keepR (foldP 8 [] A) 8 A ++ New) from vol_dat, ← h8] at hsc
    obtain ⟨hrL, rfl⟩ := scanL_clean _ hokK hsc
    rw [h8, List.nil_append] at hrL
    subst hrL
    simp only [cutAt] at hD
    clear hL hB close
    obtain ⟨dL, hL, hB, close⟩ := hD.open
    rw [rvRes] at hL
    conv => whnf
    refine ⟨hL.one (i := 2) rfl, ?_⟩
    conv => whnf
    repeat (first | (refine RunH ?_; intro w hL hB; try clear w) | (refine Both.mk ?_ ?_ <;> conv => whnf) | fail)
    exact ⟨lv1, fun _ => ⟨x2, r2, c2, rfl, close (F' := _ :: _ :: _ :: F) (hL.sub (.cons_cons _ (.cons_cons _ (.cons_cons _ (.cons _ (.cons _ (.refl _))))))) hB⟩, fun h => absurd hfit h⟩))
end
end Go.Proofs.YtladfadcgfdbfaaGreatDoor
