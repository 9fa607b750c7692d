/- VacuumCrashes. VacuumPlays: one step, in both. Nothing is claimed here. -/
import Derived.Test.YtladfadcgfdbfaaGreatDoorD32
import Derived.Test.YtladfadcgfdbfaaGreatDoorD08
import Derived.Test.YtladfadcgfdbfaaGreatDoorD22
import Derived.Test.YtladfadcgfdbfaaGreatDoorD44
namespace Go.Proofs.YtladfadcgfdbfaaGreatDoor
open Go.RowKit Go.Lib
set_option linter.unusedVariables false
set_option linter.unusedSimpArgs false
set_option maxRecDepth 100000
theorem crash_vol (nm sh : ByteArray) (D X : List UInt8) (la : Nat) (draw : Int) : ∃ X' la', crashS (volS nm D (shS sh X la)) draw = volS nm D (shS sh X' la') := by
  have h1 : ∀ i, crash1 draw i ⟨nm, D, D.length⟩ = ⟨nm, D, D.length⟩ := fun i => by
    have : stays draw i ⟨nm, D, D.length⟩ = D.length := by
      rw [stays]; dsimp only; rw [Nat.sub_self, Nat.zero_add, Nat.mod_one, Nat.add_zero]
    rw [crash1, this]; dsimp only; rw [List.take_length]
  have h2 : crashS (volS nm D (shS sh X la)) draw = [crash1 draw (rank (volS nm D (shS sh X la)) ⟨nm, D, D.length⟩) ⟨nm, D, D.length⟩, crash1 draw (rank (volS nm D (shS sh X la)) ⟨sh, X, la⟩) ⟨sh, X, la⟩] := rfl
  rw [h2, h1]
  exact ⟨_, _, rfl⟩
end Go.Proofs.YtladfadcgfdbfaaGreatDoor
namespace Go.Proofs.YtladfadcgfdbfaaGreatDoor
open Go.RowKit Go.Lib
set_option linter.unusedVariables false
set_option linter.unusedSimpArgs false
set_option maxRecDepth 100000
theorem tw (a b : Res) (X : List Res) : [a, b].Sublist (a :: b :: X) := .cons_cons _ (.cons_cons _ (List.nil_sublist _))
theorem tw1 (a b x : Res) (X : List Res) : [a, b].Sublist (x :: a :: b :: X) := .cons _ (tw a b X)
theorem crash_T {nm : ByteArray} {T : List Fl} (h : ShT nm T) (D : List UInt8) (draw : Int) : ∃ T', ShT nm T' ∧ crashS (volS nm D T) draw = volS nm D T' := by
  rcases h with rfl | ⟨X, la, rfl⟩
  · exact ⟨[], .inl rfl, crash_oneS nm D draw⟩
  · obtain ⟨X', la', e⟩ := crash_vol nm (shN nm) D X la draw
    exact ⟨_, .inr ⟨X', la', rfl⟩, e⟩
section
variable {d k room p : Nat} {nm : ByteArray} {F : List Res} {w0 w : World}
set_option maxHeartbeats 32000000 in
theorem pdoesV_fn (s : Vst) (ok : OkVst w0 s) (hn : NameIn w0.heap.size w0 5 nm) (hnm : vnmG 5 = nm) (hrm : room ≤ 1048576) (hP : Pv w0.heap.size w0 w d k room p nm F) :
    Fn Tryz.prog 16 #[ptr p, .agg (vstC s).toArray] w fun r w' => r = .bool true ∧ Pv w0.heap.size w0 w' d k room p nm F := by
  obtain ⟨kind, n, key, cook, dead, dV, l⟩ := s
  obtain ⟨hnn, hk, hc, hsl⟩ := ok
  dsimp only at *
  obtain ⟨Rs, T, v, m, x, ra, rc, jv, kv, J, hok, hT, hJ, hb⟩ := hP
  have hid : 5 ≤ 99999999 := by decide
  have hns := vnmG_size hid
  rw [hnm] at hns
  have hsz : nm.size ≤ 60 := by omega
  have hn1 : 1 ≤ nm.size ∧ nm.size ≤ 64 := by omega
  have hl : (vhd 5 ++ flat Rs).length = 8 + lenR Rs := by rw [List.length_append, flatR_len, vhd_len]
  have htot := hb.totD
  rw [vol_tot, hl] at htot
  have hRl := lenR_len Rs
  have hR6 : Rs.length ≤ 1000000 := by omega
  have hpl6 : (plc 8 Rs).length ≤ 1000000 := by rw [plc_length]; exact hR6
  have hndp := foldP_nd Rs 8 [] NdP.nil
  obtain ⟨j1, j2, j3, j4, j5⟩ := hJ.shape
  obtain ⟨da, dc, rfl⟩ := hsl.shape
  rw [bv_length] at *
  have p1 : ∀ {L : List Res} (w' : World), Sep Tryz.prog w0.heap.size w0 w' L → Sl w' (.slice da l.length dc) (bv l) := fun w' h => h.sl hsl rfl
  rw [pvRes, rvRes] at hb
  obtain ⟨G, hL, hB, cl⟩ := hb.sep
  clear hb
  rw [vstC]
  dsimp only
  refine Fn.mk Tryz.func16 rfl (by kernel_rfl) Tryz.ntmps16 rfl (by rw [Tryz.results16]) ?_
  repeat (first | (refine RunH ?_; intro w hL hB; try clear w) | (refine Both.mk ?_ ?_ <;> conv => whnf) | fail)
  (refine Nw.sep hL hB (fun t3 w hL hB ht3 => ?_); conv => whnf)
  repeat (first | (refine RunH ?_; intro w hL hB; try clear w) | (refine Both.mk ?_ ?_ <;> conv => whnf) | fail)
  by_cases h1 : kind = 1
  · subst h1
    repeat (first | (refine RunK ?_; intro w hL hB; try clear w) | (refine V.tree ttOk (fun x0 => Sep Tryz.prog _ w0 x0 (.blk t3 [.int .i64 1, .int .i64 n, .int .u64 (key : Int), .int .u32 (cook : Int), .bool dead, .slice da l.length dc] 44 :: .blk p [ptr d, ptr k, ptr v, ptr x, jv, kv] 52 :: [])) (.q 0 (.q 1 (.q 2 (.q 3 (.q 4 (.q 5 (.q 7 (.q 8 (.q 9 (.q 10 (.q 11 (.q 12 (.alt 6 (.alt 13 (.q 14 (.q 15 .nil)) .stop) .stop))))))))))))) mixed (by decide +kernel) (hL.drew.sub (.cons_cons _ (.cons_cons _ (List.nil_sublist _)))) ?_; replace hL := hL.drew; conv => whnf) | (refine V.tailA ttOk mixed (by decide +kernel) ?_; replace hL := hL.drew; conv => whnf) | (refine Both.mk ?_ ?_ <;> conv => whnf) | fail)
    obtain ⟨dR, hD, back⟩ := ((cl (F' := _ :: _ :: _ :: _ :: _ :: _ :: (J ++ F)) hL hB).perm (F' := _ :: _ :: _ :: _ :: _ :: _ :: (J ++ F)) (swap22 _ _ _ _ _)).dk
    refine (vput_fn hn key cook dead _ l hk hc hndp (fun w' h => p1 w' h) hD).mono fun r w ⟨hr, hD⟩ => ?_
    subst hr
    clear cl hL hB
    obtain ⟨G, hL, hB, cl⟩ := ((back (F' := _ :: _ :: _ :: _ :: _ :: _ :: (J ++ F)) hD).perm (F' := _ :: _ :: _ :: _ :: _ :: _ :: (J ++ F)) (swap22 _ _ _ _ _)).sep
    conv => whnf
    refine ⟨hL.sub (tw _ _ _), ?_⟩
    conv => whnf
    repeat (first | (refine RunH ?_; intro w hL hB; try clear w) | (refine Both.mk ?_ ?_ <;> conv => whnf) | fail)
    obtain ⟨dD, hD, back⟩ := ((cl (F' := _ :: _ :: _ :: _ :: _ :: _ :: (J ++ F)) hL hB).perm (F' := _ :: _ :: _ :: _ :: _ :: _ :: (J ++ F)) ((List.perm_append_comm (l₁ := [_, _, _, _]) (l₂ := [_, _])).append_right (J ++ F))).rk
    refine (rput_fn hid hnm key cook dead _ l hk hc (rel_plc Rs) hpl6 (hone_T hn1 hT _) (fun w' h => p1 w' h) hD).mono fun r w ⟨hr, ra', rc', hD⟩ => ?_
    subst hr
    rw [rvRes] at hD
    clear cl hL hB
    have hb := (back (F' := _ :: _ :: _ :: _ :: _ :: _ :: (J ++ F)) hD).perm (F' := _ :: _ :: _ :: _ :: _ :: _ :: (J ++ F)) ((List.perm_append_comm (l₁ := [_, _]) (l₂ := [_, _, _, _])).append_right (J ++ F))
    obtain ⟨G, hL, hB, cl⟩ := hb.sep
    conv => whnf
    refine ⟨hL.sub (tw _ _ _), ?_⟩
    conv => whnf
    repeat (first | (refine RunH ?_; intro w hL hB; try clear w) | (refine Both.mk ?_ ?_ <;> conv => whnf) | fail)
    refine ⟨by simp, ?_⟩
    by_cases hE : vputE room (volS nm (vhd 5 ++ flat Rs) T) nm (foldP 8 [] Rs) key dead l.length = 0
    · obtain ⟨g1, g2, g3, g4⟩ := vol_put_ok (cook := cook) hn1 hE
      have g5 : vputL room (volS nm (vhd 5 ++ flat Rs) T) nm (foldP 8 [] Rs) (plc 8 Rs) key cook dead l = plc 8 (Rs ++ [⟨key, cook, dead, l⟩]) := by
        rw [vputL, if_pos hE, vol_sz, hl, plc_snoc]; rfl
      have g3' : vputS room (volS nm (vhd 5 ++ flat Rs) T) nm (foldP 8 [] Rs) key cook dead l = volS nm (vhd 5 ++ flat (Rs ++ [⟨key, cook, dead, l⟩])) T := by
        rw [g3, flat_app, ← List.append_assoc]; simp [flat, encR]
      have g4' : vputP room (volS nm (vhd 5 ++ flat Rs) T) nm (foldP 8 [] Rs) key cook dead l = foldP 8 [] (Rs ++ [⟨key, cook, dead, l⟩]) := by
        rw [g4, hl, foldP_snoc]; rfl
      rw [g3', g4', g5] at hb
      refine ⟨Rs ++ [⟨key, cook, dead, l⟩], T, v, m, x, ra', rc', jv, kv, J, fun r hr => ?_, hT, hJ.more _, hb.sub (.cons _ (.refl _))⟩
      rcases List.mem_append.1 hr with hr | hr
      · exact hok r hr
      · simp only [List.mem_singleton] at hr
        subst hr
        exact ⟨hk, hc, g1⟩
    · obtain ⟨g3, g4⟩ := vol_put_no (cook := cook) (xs := l) hE
      have g5 : vputL room (volS nm (vhd 5 ++ flat Rs) T) nm (foldP 8 [] Rs) (plc 8 Rs) key cook dead l = plc 8 Rs := by rw [vputL, if_neg hE]
      rw [g3, g4, g5] at hb
      exact ⟨Rs, T, v, m, x, ra', rc', jv, kv, J, hok, hT, hJ, hb.sub (.cons _ (.refl _))⟩
  by_cases h2 : kind = 2
  · subst h2
    repeat (first | (refine RunH ?_; intro w hL hB; try clear w) | (refine Both.mk ?_ ?_ <;> conv => whnf) | fail)
    obtain ⟨dR, hD, back⟩ := (cl (F' := _ :: _ :: _ :: _ :: _ :: _ :: (J ++ F)) hL hB).dk
    refine (begin_any hn hsz Rs hok hR6 hT hD).mono fun r w ⟨b1, b2, b3⟩ => ?_
    clear cl hL hB
    by_cases hTe : T = []
    case neg =>
      obtain ⟨hr, hD⟩ := b1 hTe
      subst hr
      clear b1 b2 b3
      obtain ⟨G, hL, hB, cl⟩ := (back (F' := _ :: _ :: _ :: _ :: _ :: _ :: (J ++ F)) hD).sep
      conv => whnf
      repeat (first | (refine RunH ?_; intro w hL hB; try clear w) | (refine Both.mk ?_ ?_ <;> conv => whnf) | fail)
      obtain ⟨dD, hD, back⟩ := (cl (F' := _ :: _ :: _ :: _ :: _ :: _ :: (J ++ F)) hL hB).rk
      refine (rbegin_fn hid hnm Rs hok hR6 hT hD).mono fun r w ⟨b1, b2, b3⟩ => ?_
      obtain ⟨hr, hD⟩ := b1 hTe
      subst hr
      clear b1 b2 b3 cl hL hB
      have hb := back (F' := _ :: _ :: _ :: _ :: _ :: _ :: (J ++ F)) hD
      obtain ⟨G, hL, hB, cl⟩ := hb.sep
      conv => whnf
      repeat (first | (refine RunH ?_; intro w hL hB; try clear w) | (refine Both.mk ?_ ?_ <;> conv => whnf) | fail)
      exact ⟨by simp, Rs, T, v, m, x, ra, rc, jv, kv, J, hok, hT, hJ, hb.sub (.cons _ (.refl _))⟩
    subst hTe
    by_cases hroom : 8 + lenR Rs + 8 ≤ room
    case neg =>
      obtain ⟨hr, hD⟩ := b2 rfl hroom
      subst hr
      clear b1 b2 b3
      obtain ⟨G, hL, hB, cl⟩ := (back (F' := _ :: _ :: _ :: _ :: _ :: _ :: (J ++ F)) hD).sep
      conv => whnf
      repeat (first | (refine RunH ?_; intro w hL hB; try clear w) | (refine Both.mk ?_ ?_ <;> conv => whnf) | fail)
      obtain ⟨dD, hD, back⟩ := (cl (F' := _ :: _ :: _ :: _ :: _ :: _ :: (J ++ F)) hL hB).rk
      refine (rbegin_fn hid hnm Rs hok hR6 hT hD).mono fun r w ⟨b1, b2, b3⟩ => ?_
      obtain ⟨hr, hD⟩ := b2 rfl hroom
      subst hr
      clear b1 b2 b3 cl hL hB
      have hb := back (F' := _ :: _ :: _ :: _ :: _ :: _ :: (J ++ F)) hD
      obtain ⟨G, hL, hB, cl⟩ := hb.sep
      conv => whnf
      repeat (first | (refine RunH ?_; intro w hL hB; try clear w) | (refine Both.mk ?_ ?_ <;> conv => whnf) | fail)
      exact ⟨by simp, Rs, [], v, m, x, ra, rc, jv, kv, J, hok, hT, hJ, hb.sub (.cons _ (.refl _))⟩
    obtain ⟨j, rv, hr, hlv, hD⟩ := b3 rfl hroom
    subst hr
    clear b1 b2 b3
    rw [jobR] at hD
    obtain ⟨G, hL, hB, cl⟩ := ((back (F' := _ :: _ :: _ :: _ :: _ :: _ :: _ :: _ :: (J ++ F)) hD).perm (F' := _ :: _ :: _ :: _ :: _ :: _ :: _ :: _ :: (J ++ F)) ((List.perm_append_comm (l₁ := [_, _]) (l₂ := [_, _, _, _, _, _])).append_right (J ++ F))).sep
    conv => whnf
    repeat (first | (refine RunH ?_; intro w hL hB; try clear w) | (refine Both.mk ?_ ?_ <;> conv => whnf) | fail)
    obtain ⟨dD, hD, back⟩ := (cl (F' := _ :: _ :: _ :: _ :: _ :: _ :: _ :: _ :: (J ++ F)) hL hB).rk
    clear cl hL hB
    refine (rbegin_fn hid hnm Rs hok hR6 hT hD).mono fun r w ⟨b1, b2, b3⟩ => ?_
    obtain ⟨jr, x', xv, rv', hr, hlv', hD⟩ := b3 rfl hroom
    subst hr
    clear b1 b2 b3
    rw [rjR] at hD
    have hb := back (F' := _ :: _ :: _ :: _ :: _ :: _ :: _ :: _ :: _ :: _ :: _ :: (J ++ F)) hD
    obtain ⟨G, hL, hB, cl⟩ := hb.sep
    conv => whnf
    repeat (first | (refine RunH ?_; intro w hL hB; try clear w) | (refine Both.mk ?_ ?_ <;> conv => whnf) | fail)
    have hb := cl (F' := _ :: _ :: _ :: _ :: _ :: _ :: _ :: _ :: _ :: _ :: _ :: (J ++ F)) hL hB
    refine ⟨by simp, Rs, shS (shN nm) (vhd 5 ++ gone 5 Rs 0) 0, v, m, x, ra, rc, ptr j, ptr jr, jobR j d 5 nm Rs rv rv (rjR jr k 5 x' Rs rv' rv' false xv []), hok, .inr ⟨_, _, rfl⟩, .act j jr x' Rs [] 0 rv rv rv' rv' xv 0 (by simp) (Nat.zero_le _) hlv hlv' rfl, ?_⟩
    refine (hb.sub (F' := _ :: _ :: _ :: _ :: _ :: _ :: _ :: _ :: _ :: _ :: F) (.cons_cons _ (.cons_cons _ (.cons_cons _ (.cons _ (.cons_cons _ (.cons_cons _ (.cons_cons _ (.cons_cons _ (.cons_cons _ (.cons_cons _ (.cons_cons _ (List.sublist_append_right _ _))))))))))))).perm ?_
    exact (((List.perm_append_comm (l₁ := [_, _, _]) (l₂ := [_, _, _, _, _])).append_right (_ :: _ :: F))).trans (List.Perm.append_left [_, _, _, _, _] ((List.perm_append_comm (l₁ := [_, _, _]) (l₂ := [_, _])).append_right (F)))
  by_cases h3 : kind = 3
  · subst h3
    cases hJ with
    | no =>
      repeat (first | (refine RunH ?_; intro w hL hB; try clear w) | (refine Both.mk ?_ ?_ <;> conv => whnf) | fail)
      exact ⟨rfl, Rs, T, v, m, x, ra, rc, _, _, [], hok, hT, .no, (cl (F' := _ :: _ :: _ :: _ :: _ :: _ :: (([] : List Res) ++ F)) hL hB).sub (.cons _ (.refl _))⟩
    | over j jk x' lv lv' bg en =>
      simp only [List.cons_append, List.nil_append] at hL
      repeat (first | (refine RunK ?_; intro w hL hB; try clear w) | (refine V.tree ttOk (fun x0 => Sep Tryz.prog _ w0 x0 (.blk t3 [.int .i64 3, .int .i64 n, .int .u64 (key : Int), .int .u32 (cook : Int), .bool dead, .slice da l.length dc] 44 :: .blk p [ptr d, ptr k, ptr v, ptr x, ptr j, ptr jk] 52 :: [])) (.q 0 (.q 1 (.q 2 (.q 3 (.q 4 (.q 5 (.alt 6 (.q 7 (.q 8 (.q 9 (.q 10 (.q 11 .nil))))) .stop))))))) mixed (by decide +kernel) (hL.drew.sub (.cons_cons _ (.cons_cons _ (List.nil_sublist _)))) ?_; replace hL := hL.drew; conv => whnf) | (refine V.tailA ttOk mixed (by decide +kernel) ?_; replace hL := hL.drew; conv => whnf) | (refine Both.mk ?_ ?_ <;> conv => whnf) | fail)
      obtain ⟨dR, hD, back⟩ := (((cl (F' := _ :: _ :: _ :: _ :: _ :: _ :: _ :: _ :: F) hL hB)).fr (i := 6) rfl).dk
      refine (stepOver_fn n hD).mono fun r w ⟨hr, hD⟩ => ?_
      subst hr
      clear cl hL hB
      obtain ⟨G, hL, hB, cl⟩ := (back (F' := _ :: _ :: _ :: _ :: _ :: _ :: _ :: _ :: F) hD).sep
      conv => whnf
      refine ⟨hL.sub (tw1 _ _ _ _), ?_⟩
      conv => whnf
      replace hL := hL.perm (L' := _ :: _ :: _ :: _ :: _ :: _ :: _ :: _ :: (F ++ G)) ((List.perm_append_comm (l₁ := [_]) (l₂ := [_, _, _, _, _, _])).append_right (_ :: (F ++ G)))
      repeat (first | (refine RunK ?_; intro w hL hB; try clear w) | (refine V.tree ttOk (fun x0 => Sep Tryz.prog _ w0 x0 (.blk t3 [.int .i64 3, .int .i64 n, .int .u64 (key : Int), .int .u32 (cook : Int), .bool dead, .slice da l.length dc] 44 :: .blk p [ptr d, ptr k, ptr v, ptr x, ptr j, ptr jk] 52 :: [])) (.q 0 (.q 1 (.q 2 (.q 3 (.q 4 (.q 5 (.alt 6 (.q 7 (.q 8 (.q 9 (.q 10 (.q 11 .nil))))) .stop))))))) mixed (by decide +kernel) (hL.drew.sub (.cons_cons _ (.cons_cons _ (List.nil_sublist _)))) ?_; replace hL := hL.drew; conv => whnf) | (refine V.tailA ttOk mixed (by decide +kernel) ?_; replace hL := hL.drew; conv => whnf) | (refine Both.mk ?_ ?_ <;> conv => whnf) | fail)
      obtain ⟨dD, hD, back⟩ := (((cl (F' := _ :: _ :: _ :: _ :: _ :: _ :: _ :: _ :: F) hL hB)).fr (i := 7) rfl).rk
      refine (rstepOver_fn n hD).mono fun r w ⟨hr, hD⟩ => ?_
      subst hr
      clear cl hL hB
      have hb := back (F' := _ :: _ :: _ :: _ :: _ :: _ :: _ :: _ :: F) hD
      obtain ⟨G, hL, hB, cl⟩ := hb.sep
      conv => whnf
      refine ⟨hL.sub (tw1 _ _ _ _), ?_⟩
      conv => whnf
      repeat (first | (refine RunH ?_; intro w hL hB; try clear w) | (refine Both.mk ?_ ?_ <;> conv => whnf) | fail)
      exact ⟨by simp, Rs, T, v, m, x, ra, rc, _, _, _, hok, hT, .over j jk x' lv lv' bg en, (hb.perm (F' := _ :: _ :: _ :: _ :: _ :: _ :: _ :: _ :: F) ((List.perm_append_comm (l₁ := [_]) (l₂ := [_, _, _, _, _, _, _])).append_right (F))).sub (.cons _ (.refl _))⟩
    | act j jk x' A New k0 rv lv rv' lv' xv la e1 e2 e3 e4 e5 =>
      subst e1
      subst e5
      simp only [jobR, rjR, List.cons_append, List.nil_append] at hL
      have hNA := lenR_app A New
      have hAl := lenR_len A
      have hls := lsOf_len A
      have hs6 : 1 ≤ (shN nm).size ∧ (shN nm).size ≤ 64 := by rw [shN_size]; omega
      rw [sh_tot, List.length_append, vhd_len, gone_len] at htot
      obtain ⟨q, e, s1, s2, s3, s4, s5, s6⟩ := step_two (room := room) (id := 5) (la := la) (shN_ne nm) hs6 A New k0 n.toNat (by omega)
      repeat (first | (refine RunK ?_; intro w hL hB; try clear w) | (refine V.tree ttOk (fun x0 => Sep Tryz.prog _ w0 x0 (.blk t3 [.int .i64 3, .int .i64 n, .int .u64 (key : Int), .int .u32 (cook : Int), .bool dead, .slice da l.length dc] 44 :: .blk p [ptr d, ptr k, ptr v, ptr x, ptr j, ptr jk] 52 :: [])) (.q 0 (.q 1 (.q 2 (.q 3 (.q 4 (.q 5 (.alt 6 (.q 7 (.q 8 (.q 9 (.q 10 (.q 11 .nil))))) .stop))))))) mixed (by decide +kernel) (hL.drew.sub (.cons_cons _ (.cons_cons _ (List.nil_sublist _)))) ?_; replace hL := hL.drew; conv => whnf) | (refine V.tailA ttOk mixed (by decide +kernel) ?_; replace hL := hL.drew; conv => whnf) | (refine Both.mk ?_ ?_ <;> conv => whnf) | fail)
      obtain ⟨dR, hD, back⟩ := (((cl (F' := _ :: _ :: _ :: _ :: _ :: _ :: _ :: _ :: _ :: _ :: _ :: F) hL hB)).fr (i := 7) rfl |>.fr (i := 7) rfl).dk
      refine (step_oneQ hn hsz A New k0 e2 n hnn.2 e3 q e s5 hD).mono fun r w ⟨lv1, hq1, hr, hlv1, hD⟩ => ?_
      subst hr
      rw [jobR] at hD
      clear cl hL hB
      obtain ⟨G, hL, hB, cl⟩ := (back (F' := _ :: _ :: _ :: _ :: _ :: _ :: _ :: _ :: _ :: _ :: _ :: F) hD).sep
      conv => whnf
      refine ⟨hL.sub (.cons _ (tw1 _ _ _ _)), ?_⟩
      conv => whnf
      replace hL := hL.perm (L' := _ :: _ :: _ :: _ :: _ :: _ :: _ :: _ :: _ :: _ :: _ :: (F ++ G)) ((List.perm_append_comm (l₁ := [_, _]) (l₂ := [_, _])).append_right (_ :: _ :: _ :: _ :: _ :: _ :: _ :: (F ++ G)))
      repeat (first | (refine RunK ?_; intro w hL hB; try clear w) | (refine V.tree ttOk (fun x0 => Sep Tryz.prog _ w0 x0 (.blk t3 [.int .i64 3, .int .i64 n, .int .u64 (key : Int), .int .u32 (cook : Int), .bool dead, .slice da l.length dc] 44 :: .blk p [ptr d, ptr k, ptr v, ptr x, ptr j, ptr jk] 52 :: [])) (.q 0 (.q 1 (.q 2 (.q 3 (.q 4 (.q 5 (.alt 6 (.q 7 (.q 8 (.q 9 (.q 10 (.q 11 .nil))))) .stop))))))) mixed (by decide +kernel) (hL.drew.sub (.cons_cons _ (.cons_cons _ (List.nil_sublist _)))) ?_; replace hL := hL.drew; conv => whnf) | (refine V.tailA ttOk mixed (by decide +kernel) ?_; replace hL := hL.drew; conv => whnf) | (refine Both.mk ?_ ?_ <;> conv => whnf) | fail)
      obtain ⟨dD, hD, back⟩ := (((cl (F' := _ :: _ :: _ :: _ :: _ :: _ :: _ :: _ :: _ :: _ :: _ :: F) hL hB)).fr (i := 10) rfl |>.fr (i := 10) rfl |>.fr (i := 10) rfl).rk
      refine (rstep_fn hid hnm A New k0 e2 n hnn.2 (by omega) e4 q e s5 hq1 s2 hD).mono fun r w ⟨lv2, hr, hlv2, hD⟩ => ?_
      subst hr
      rw [rjR] at hD
      clear cl hL hB
      have hb := back (F' := _ :: _ :: _ :: _ :: _ :: _ :: _ :: _ :: _ :: _ :: _ :: F) hD
      obtain ⟨G, hL, hB, cl⟩ := hb.sep
      conv => whnf
      refine ⟨hL.sub (.cons _ (.cons _ (tw1 _ _ _ _))), ?_⟩
      conv => whnf
      repeat (first | (refine RunH ?_; intro w hL hB; try clear w) | (refine Both.mk ?_ ?_ <;> conv => whnf) | (refine Br.beq rfl ?_; conv => whnf) | fail)
      refine ⟨by simp, A ++ New, _, v, m, x, ra, rc, _, _, _, hok, .inr ⟨_, _, rfl⟩, .act j jk x' A New (k0 + q) rv lv1 rv' lv2 xv la rfl hq1 hlv1 hlv2 rfl, ?_⟩
      have hb2 := hb.sub (F' := _ :: _ :: _ :: _ :: _ :: _ :: _ :: _ :: _ :: _ :: F) (.cons_cons _ (.cons_cons _ (.cons_cons _ (.cons _ (.refl _)))))
      refine hb2.perm ?_
      exact ((List.perm_append_comm (l₁ := [_, _, _]) (l₂ := [_])).append_right (_ :: _ :: _ :: _ :: _ :: _ :: F)).trans ((List.Perm.cons _ ((List.perm_append_comm (l₁ := [_, _, _, _, _]) (l₂ := [_, _, _, _])).append_right (F))).trans (List.Perm.append_left [_, _, _, _, _] ((List.perm_append_comm (l₁ := [_, _, _]) (l₂ := [_, _])).append_right (F))))
  by_cases h4 : kind = 4
  · subst h4
    cases hJ with
    | no =>
      repeat (first | (refine RunH ?_; intro w hL hB; try clear w) | (refine Both.mk ?_ ?_ <;> conv => whnf) | fail)
      exact ⟨rfl, Rs, T, v, m, x, ra, rc, _, _, [], hok, hT, .no, (cl (F' := _ :: _ :: _ :: _ :: _ :: _ :: (([] : List Res) ++ F)) hL hB).sub (.cons _ (.refl _))⟩
    | over j jk x' lv lv' bg en =>
      simp only [List.cons_append, List.nil_append] at hL
      repeat (first | (refine RunH ?_; intro w hL hB; try clear w) | (refine Both.mk ?_ ?_ <;> conv => whnf) | fail)
      obtain ⟨dR, hD, back⟩ := (((cl (F' := _ :: _ :: _ :: _ :: _ :: _ :: _ :: _ :: F) hL hB)).fr (i := 6) rfl).dk
      refine (commitOver_fn hD).mono fun r w ⟨hr, hD⟩ => ?_
      subst hr
      clear cl hL hB
      obtain ⟨G, hL, hB, cl⟩ := (back (F' := _ :: _ :: _ :: _ :: _ :: _ :: _ :: _ :: F) hD).sep
      conv => whnf
      repeat (first | (refine RunH ?_; intro w hL hB; try clear w) | (refine Both.mk ?_ ?_ <;> conv => whnf) | fail)
      obtain ⟨dD, hD, back⟩ := (((cl (F' := _ :: _ :: _ :: _ :: _ :: _ :: _ :: _ :: F) hL hB)).fr (i := 7) rfl).rk
      refine (rcommitOver_fn hD).mono fun r w ⟨hr, hD⟩ => ?_
      subst hr
      clear cl hL hB
      have hb := back (F' := _ :: _ :: _ :: _ :: _ :: _ :: _ :: _ :: F) hD
      obtain ⟨G, hL, hB, cl⟩ := hb.sep
      conv => whnf
      repeat (first | (refine RunH ?_; intro w hL hB; try clear w) | (refine Both.mk ?_ ?_ <;> conv => whnf) | fail)
      exact ⟨by simp, Rs, T, v, m, x, ra, rc, _, _, _, hok, hT, .over j jk x' lv lv' bg en, (hb.perm (F' := _ :: _ :: _ :: _ :: _ :: _ :: _ :: _ :: F) (((List.perm_append_comm (l₁ := [_, _]) (l₂ := [_, _, _, _, _, _])).append_right (F)).trans (List.Perm.append_left [_, _, _, _, _, _] ((List.perm_append_comm (l₁ := [_]) (l₂ := [_])).append_right (F))))).sub (.cons _ (.refl _))⟩
    | act j jk x' A New k0 rv lv rv' lv' xv la e1 e2 e3 e4 e5 =>
      subst e1
      subst e5
      simp only [jobR, rjR, List.cons_append, List.nil_append] at hL
      have hNA := lenR_app A New
      have hAl := lenR_len A
      have hls := lsOf_len A
      have hokK : ∀ r ∈ keepR (foldP 8 [] A) 8 A ++ New, OkRec r := fun r hr => by
        rcases List.mem_append.1 hr with hr | hr
        · exact keep_ok (fun r hr => hok r (by simp [hr])) r hr
        · exact hok r (by simp [hr])
      repeat (first | (refine RunH ?_; intro w hL hB; try clear w) | (refine Both.mk ?_ ?_ <;> conv => whnf) | fail)
      obtain ⟨dR, hD, back⟩ := (((cl (F' := _ :: _ :: _ :: _ :: _ :: _ :: _ :: _ :: _ :: _ :: _ :: F) hL hB)).fr (i := 7) rfl |>.fr (i := 7) rfl).dk
      refine (commit_one hn hsz A New hok k0 e2 (by omega) e3 hD).mono fun r w ⟨lv1, c1, c2⟩ => ?_
      clear cl hL hB
      by_cases hfit : 8 + lenR (A ++ New) + 8 + lenR (keepR (foldP 8 [] A) 8 A) + lenR New ≤ room
      case neg =>
        obtain ⟨hr, hD⟩ := c2 hfit
        subst hr
        clear c1 c2
        obtain ⟨G, hL, hB, cl⟩ := (back (F' := _ :: _ :: _ :: _ :: _ :: _ :: _ :: _ :: _ :: _ :: F) hD).sep
        conv => whnf
        repeat (first | (refine RunH ?_; intro w hL hB; try clear w) | (refine Both.mk ?_ ?_ <;> conv => whnf) | fail)
        obtain ⟨dD, hD, back⟩ := (((cl (F' := _ :: _ :: _ :: _ :: _ :: _ :: _ :: _ :: _ :: _ :: F) hL hB)).fr (i := 9) rfl |>.fr (i := 9) rfl |>.fr (i := 9) rfl).rk
        refine (rcommit_fn hid hnm A New hok k0 e2 (by omega) e4 hD).mono fun r w ⟨lv2, c1, c2⟩ => ?_
        clear cl hL hB
        obtain ⟨hr, hD⟩ := c2 hfit
        subst hr
        clear c1 c2
        have hb := back (F' := _ :: _ :: _ :: _ :: _ :: _ :: _ :: _ :: F) hD
        obtain ⟨G, hL, hB, cl⟩ := hb.sep
        rw [rjC] at hL
        conv => whnf
        repeat (first | (refine RunH ?_; intro w hL hB; try clear w) | (refine Both.mk ?_ ?_ <;> conv => whnf) | fail)
        refine ⟨by simp, A ++ New, [], v, m, x, ra, rc, _, _, _, hok, .inl rfl, .over j jk x' lv1 lv2 (8 + lenR A) (8 + lenR A), ?_⟩
        exact (hb.perm (F' := _ :: _ :: _ :: _ :: _ :: _ :: _ :: _ :: F) (((List.perm_append_comm (l₁ := [_, _]) (l₂ := [_, _, _, _, _, _])).append_right (F)).trans (List.Perm.append_left [_, _, _, _, _, _] ((List.perm_append_comm (l₁ := [_]) (l₂ := [_])).append_right (F))))).sub (.cons _ (.refl _))
      obtain ⟨v2, m2, hr, hD⟩ := c1 hfit
      subst hr
      clear c1 c2
      obtain ⟨G, hL, hB, cl⟩ := (back (F' := _ :: _ :: _ :: _ :: _ :: _ :: _ :: _ :: _ :: _ :: _ :: _ :: F) hD).sep
      conv => whnf
      repeat (first | (refine RunH ?_; intro w hL hB; try clear w) | (refine Both.mk ?_ ?_ <;> conv => whnf) | fail)
      obtain ⟨dD, hD, back⟩ := (((cl (F' := _ :: _ :: _ :: _ :: _ :: _ :: _ :: _ :: _ :: _ :: _ :: _ :: F) hL hB)).fr (i := 11) rfl |>.fr (i := 11) rfl |>.fr (i := 11) rfl).rk
      refine (rcommit_fn hid hnm A New hok k0 e2 (by omega) e4 hD).mono fun r w ⟨lv2, c1, c2⟩ => ?_
      clear cl hL hB
      obtain ⟨x2, ra2, rc2, hr, hD⟩ := c1 hfit
      subst hr
      clear c1 c2
      rw [rvRes] at hD
      obtain ⟨G, hL, hB, cl⟩ := (back (F' := _ :: _ :: _ :: _ :: _ :: _ :: _ :: _ :: _ :: _ :: _ :: _ :: F) hD).sep
      conv => whnf
      repeat (first | (refine RunH ?_; intro w hL hB; try clear w) | (refine Both.mk ?_ ?_ <;> conv => whnf) | fail)
      have hb := cl (F' := _ :: _ :: _ :: _ :: _ :: _ :: _ :: _ :: _ :: _ :: _ :: _ :: F) hL hB
      refine ⟨by simp, keepR (foldP 8 [] A) 8 A ++ New, [], v2, m2, x2, ra2, rc2, _, _, _, hokK, .inl rfl, .over j jk x' lv1 lv2 (8 + lenR A) (8 + lenR A), ?_⟩
      have hb2 := hb.sub (F' := _ :: _ :: _ :: _ :: _ :: _ :: _ :: F) (.cons_cons _ (.cons_cons _ (.cons_cons _ (.cons_cons _ (.cons_cons _ (.cons_cons _ (.cons _ (.cons_cons _ (.cons _ (.cons _ (.cons _ (.cons _ (.refl _)))))))))))))
      exact hb2.perm (((List.perm_append_comm (l₁ := [_, _, _, _, _, _]) (l₂ := [_])).append_right (F)).trans (.cons _ (((List.perm_append_comm (l₁ := [_, _, _]) (l₂ := [_, _])).append_right (_ :: F)).trans (List.Perm.append_left [_, _, _, _] ((List.perm_append_comm (l₁ := [_]) (l₂ := [_])).append_right (F))))))
  by_cases h5 : kind = 5
  · subst h5
    repeat (first | (refine RunK ?_; intro w hL hB; try clear w) | (refine V.tree ttOk (fun x0 => Sep Tryz.prog _ w0 x0 (.blk t3 [.int .i64 5, .int .i64 n, .int .u64 (key : Int), .int .u32 (cook : Int), .bool dead, .slice da l.length dc] 44 :: .blk p [ptr d, ptr k, ptr v, ptr x, jv, kv] 52 :: [])) (.q 0 (.q 1 (.q 2 (.q 3 (.q 4 (.q 5 (.alt 6 .nil .stop))))))) mixed (by decide +kernel) (hL.drew.sub (.cons_cons _ (.cons_cons _ (List.nil_sublist _)))) ?_; replace hL := hL.drew; conv => whnf) | (refine V.tailA ttOk mixed (by decide +kernel) ?_; replace hL := hL.drew; conv => whnf) | (refine Both.mk ?_ ?_ <;> conv => whnf) | fail)
    obtain ⟨dR, hD, back⟩ := (cl (F' := _ :: _ :: _ :: _ :: _ :: _ :: (J ++ F)) hL hB).dk
    refine (crash_fn n hnn.2 hD).mono fun r w hD => ?_
    clear cl hL hB
    obtain ⟨T', hT', hcr⟩ := crash_T hT (vhd 5 ++ flat Rs) n
    rw [hcr] at hD
    obtain ⟨G, hL, hB, cl⟩ := (back (F' := _ :: _ :: _ :: _ :: _ :: _ :: (J ++ F)) hD).sep
    conv => whnf
    refine ⟨hL.sub (tw _ _ _), ?_⟩
    conv => whnf
    repeat (first | (refine RunK ?_; intro w hL hB; try clear w) | (refine V.tree ttOk (fun x0 => Sep Tryz.prog _ w0 x0 (.blk t3 [.int .i64 5, .int .i64 n, .int .u64 (key : Int), .int .u32 (cook : Int), .bool dead, .slice da l.length dc] 44 :: .blk p [ptr d, ptr k, ptr v, ptr x, jv, kv] 52 :: [])) (.q 0 (.q 1 (.q 2 (.q 3 (.q 4 (.q 5 (.alt 6 .nil .stop))))))) mixed (by decide +kernel) (hL.drew.sub (.cons_cons _ (.cons_cons _ (List.nil_sublist _)))) ?_; replace hL := hL.drew; conv => whnf) | (refine V.tailA ttOk mixed (by decide +kernel) ?_; replace hL := hL.drew; conv => whnf) | (refine Both.mk ?_ ?_ <;> conv => whnf) | fail)
    obtain ⟨dD, hD, back⟩ := (cl (F' := _ :: _ :: _ :: _ :: _ :: _ :: (J ++ F)) hL hB).rk
    refine (crashR_fn n hnn hD).mono fun r w hD => ?_
    clear cl hL hB
    rw [hcr] at hD
    obtain ⟨G, hL, hB, cl⟩ := (back (F' := _ :: _ :: _ :: _ :: _ :: _ :: (J ++ F)) hD).sep
    conv => whnf
    refine ⟨hL.sub (tw _ _ _), ?_⟩
    conv => whnf
    repeat (first | (refine RunH ?_; intro w hL hB; try clear w) | (refine Both.mk ?_ ?_ <;> conv => whnf) | fail)
    have hb := (cl (F' := _ :: _ :: _ :: _ :: _ :: _ :: (J ++ F)) hL hB).sub (F' := _ :: (([] : List Res) ++ F)) (.cons _ (.cons_cons _ (.cons _ (.cons _ (.cons _ (.cons _ (List.sublist_append_right _ _)))))))
    refine (popenV_fn hn hnm hok hT' .no ⟨⟨rfl, rfl⟩, rfl, rfl⟩ hb).mono fun r w ⟨hr, hP⟩ => ?_
    subst hr
    conv => whnf
    refine RunR ?_
    exact ⟨rfl, hP⟩
  by_cases h6 : kind = 6
  · subst h6
    rcases j5 with ⟨rfl, rfl⟩ | ⟨j, jk, rfl, rfl⟩
    case inr =>
      repeat (first | (refine RunH ?_; intro w hL hB; try clear w) | (refine Both.mk ?_ ?_ <;> conv => whnf) | fail)
      exact ⟨rfl, Rs, T, v, m, x, ra, rc, _, _, J, hok, hT, hJ, (cl (F' := _ :: _ :: _ :: _ :: _ :: _ :: (J ++ F)) hL hB).sub (.cons _ (.refl _))⟩
    repeat (first | (refine RunK ?_; intro w hL hB; try clear w) | (refine V.tree ttOk (fun x0 => Sep Tryz.prog _ w0 x0 (.blk t3 [.int .i64 6, .int .i64 n, .int .u64 (key : Int), .int .u32 (cook : Int), .bool dead, .slice da l.length dc] 44 :: .blk p [ptr d, ptr k, ptr v, ptr x, .pointer none, .pointer none] 52 :: [])) (.q 0 (.q 1 (.q 2 (.q 3 (.q 5 (.q 6 (.q 7 (.q 8 (.alt 4 (.alt 9 (.q 10 (.q 11 .nil)) .stop) .stop))))))))) mixed (by decide +kernel) (hL.drew.sub (.cons_cons _ (.cons_cons _ (List.nil_sublist _)))) ?_; replace hL := hL.drew; conv => whnf) | (refine V.tailA ttOk mixed (by decide +kernel) ?_; replace hL := hL.drew; conv => whnf) | (refine Both.mk ?_ ?_ <;> conv => whnf) | fail)
    obtain ⟨dR, hD, back⟩ := (cl (F' := _ :: _ :: _ :: _ :: _ :: _ :: (J ++ F)) hL hB).dk
    refine (clear_fn hn hD).mono fun r w ⟨hr, hD⟩ => ?_
    subst hr
    clear cl hL hB
    obtain ⟨G, hL, hB, cl⟩ := (back (F' := _ :: _ :: _ :: _ :: _ :: _ :: (J ++ F)) hD).sep
    conv => whnf
    refine ⟨hL.sub (tw _ _ _), ?_⟩
    conv => whnf
    repeat (first | (refine RunH ?_; intro w hL hB; try clear w) | (refine Both.mk ?_ ?_ <;> conv => whnf) | fail)
    obtain ⟨dD, hD, back⟩ := (cl (F' := _ :: _ :: _ :: _ :: _ :: _ :: (J ++ F)) hL hB).rk
    refine (rclear_fn hid hnm hD).mono fun r w ⟨hr, hD⟩ => ?_
    subst hr
    clear cl hL hB
    have hdel : delS (volS nm (vhd 5 ++ flat Rs) T) (shN nm) = volS nm (vhd 5 ++ flat Rs) [] := by
      rcases hT with rfl | ⟨X, la, rfl⟩
      · exact one_del_sh (shN_ne nm)
      · exact two_del (shN_ne nm)
    have hb := back (F' := _ :: _ :: _ :: _ :: _ :: _ :: (J ++ F)) hD
    rw [hdel] at hb
    obtain ⟨G, hL, hB, cl⟩ := hb.sep
    conv => whnf
    refine ⟨hL.sub (tw _ _ _), ?_⟩
    conv => whnf
    repeat (first | (refine RunH ?_; intro w hL hB; try clear w) | (refine Both.mk ?_ ?_ <;> conv => whnf) | fail)
    exact ⟨by simp, Rs, [], v, m, x, ra, rc, _, _, [], hok, .inl rfl, .no, (hb.sub (F' := _ :: _ :: _ :: _ :: _ :: (([] : List Res) ++ F)) (.cons _ (.cons_cons _ (.cons_cons _ (.cons_cons _ (.cons_cons _ (.cons_cons _ (List.sublist_append_right _ _))))))))⟩
  repeat (first | (refine RunH ?_; intro w hL hB; try clear w) | (refine Both.mk ?_ ?_ <;> conv => whnf) | fail)
  have hb := (cl (F' := _ :: _ :: _ :: _ :: _ :: _ :: (J ++ F)) hL hB).sub (F' := _ :: (J ++ F)) (.cons _ (.cons_cons _ (.cons _ (.cons _ (.cons _ (.cons _ (.refl _)))))))
  refine (popenV_fn hn hnm hok hT hJ ⟨⟨rfl, rfl⟩, rfl, rfl⟩ hb).mono fun r w ⟨hr, hP⟩ => ?_
  subst hr
  conv => whnf
  refine RunR ?_
  exact ⟨rfl, hP⟩
end
end Go.Proofs.YtladfadcgfdbfaaGreatDoor
