/- VolumePlays: one step, in both. VolumePlays: what stands in both. Nothing is claimed here. -/
import Derived.Test.YtpkealgeigpjpaaGreatDoorK37
namespace Go.Proofs.YtpkealgeigpjpaaGreatDoor
open Go.RowKit Go.Lib
open Go.Maps (Keyed)
set_option linter.unusedVariables false
set_option linter.unusedSimpArgs false
set_option maxRecDepth 100000
/-- a step of a script -/
structure Vtp where
  kind : Int
  n : Int
  key : Nat
  cook : Nat
  dead : Bool
  dV : Value
  d : List UInt8
  by_ : UInt8
def vtpC (s : Vtp) : List Value := [.int .i64 s.kind, .int .i64 s.n, .int .u64 (s.key : Int), .int .u32 (s.cook : Int), .bool s.dead, s.dV, .int .u8 (s.by_.toNat : Int)]
theorem vtpC_len (s : Vtp) : (vtpC s).length = 7 := rfl
structure OkVtp (w0 : World) (s : Vtp) : Prop where
  n : -9223372036854775808 ≤ s.n ∧ s.n ≤ 9223372036854775807
  key : s.key < 18446744073709551616
  cook : s.cook < 4294967296
  d : s.d.length ≤ 20000
  sl : Sl w0 s.dV (bv s.d)
theorem app_sz {nm : ByteArray} {S : List Fl} (h : OneN nm S) {room : Nat} {xs : List UInt8} (hE : appE room S nm xs.length = 0) : szS (syncS (appS room S nm xs) nm) nm = szS S nm + xs.length := by
  rw [appS, if_pos hE]
  rcases h with rfl | ⟨d, la, rfl⟩
  · simp [szS, syncS, appF, getS, putS]
  · simp [szS, syncS, appF, getS, putS]
theorem app_le {nm : ByteArray} {S : List Fl} (h : OneN nm S) (room : Nat) (xs : List UInt8) : szS (appS room S nm xs) nm ≤ szS S nm + xs.length := by
  rw [appS]
  split
  · rcases h with rfl | ⟨d, la, rfl⟩
    · simp [szS, appF, getS, putS]
    · simp [szS, appF, getS, putS]
  · omega
theorem cut_le {nm : ByteArray} {S : List Fl} (h : OneN nm S) (n : Int) : szS (cutS S nm n) nm ≤ szS S nm := by
  rcases h with rfl | ⟨d, la, rfl⟩
  · exact Nat.le_refl _
  · simp only [cutS, getS, if_pos]
    split
    · exact Nat.le_refl _
    · simp [szS, getS, putS]; omega
theorem rot_eq {nm : ByteArray} {S : List Fl} (h : OneN nm S) (n : Int) (x : UInt8) : szS (rotS S nm n x) nm = szS S nm := by
  rcases h with rfl | ⟨d, la, rfl⟩
  · rfl
  · simp only [rotS, getS, if_pos]
    split
    · rfl
    · simp [szS, getS, putS, rotL]
theorem crash_le {nm : ByteArray} {S : List Fl} (h : OneN nm S) (n : Int) : szS (crashS S n) nm ≤ szS S nm := by
  rcases h with rfl | ⟨d, la, rfl⟩
  · exact Nat.le_refl _
  · simp [szS, crashS, crash1, getS]; omega
theorem PrS.put {nm : ByteArray} {S : List Fl} {ps rL : List Pc} (h : PrS nm S ps rL) {room key cook : Nat} {dead : Bool} {xs : List UInt8} (hk : key < 18446744073709551616) (hc : cook < 4294967296) (hx : xs.length ≤ 20000) (hsz : szS S nm ≤ 1073741824) :
    PrS nm (vputS room S nm ps key cook dead xs) (vputP room S nm ps key cook dead xs) (vputL room S nm ps rL key cook dead xs) ∧ szS (vputS room S nm ps key cook dead xs) nm ≤ szS S nm + 20035 := by
  rw [vputS, vputP, vputL]
  by_cases hE : vputE room S nm ps key dead xs.length = 0
  · rw [if_pos hE, if_pos hE, if_pos hE]
    have hA : appE room S nm (encN key cook dead xs).length = 0 := by
      rw [encN_len]
      rw [vputE] at hE
      split at hE
      · omega
      · split at hE
        · omega
        · split at hE
          · omega
          · exact hE
    have hs := app_sz h.one hA
    rw [encN_len] at hs
    have hz := szN_le xs.length
    have hpc : key < 18446744073709551616 ∧ cook < 4294967296 ∧ szS S nm ≤ 1073741824 ∧ 28 ≤ szN xs.length ∧ szN xs.length ≤ 65571 := ⟨hk, hc, hsz, by omega, by omega⟩
    have hsl := sumN_lay ps ⟨key, szS S nm, szN xs.length, cook, dead⟩
    have h1 := h.sumP
    have h2 := h.lenL
    dsimp only at hsl
    refine ⟨⟨(h.one.app room _).sync, h.rel.lay _, layP_ok h.okP hpc, fun p hp => ?_, by rw [hs]; omega, by rw [hs, List.length_append]; simp; omega⟩, by rw [hs]; omega⟩
    rcases List.mem_append.1 hp with hp | hp
    · exact h.okL p hp
    · simp only [List.mem_singleton] at hp
      subst hp
      exact hpc
  · rw [if_neg hE, if_neg hE, if_neg hE]
    exact ⟨h, by omega⟩
theorem pl_le {nm : ByteArray} {S : List Fl} {ps rL : List Pc} (h : PrS nm S ps rL) : 28 * ps.length + 8 ≤ szS S nm := by
  have h1 := sumN_len (ps := ps) (fun q hq => (h.okP q hq).2.2.2.1)
  have := h.sumP
  omega
/-- what a step leaves -/
def doesPost (w0 w' : World) (d k room id : Nat) (nm : ByteArray) (p : Nat) (c : Nat) (F : List Res) (r : Value) : Prop :=
  (r = .tuple #[.bool true, .bool true] ∧ ∃ S', szS S' nm ≤ c ∧ Pr w0.heap.size w0 w' d k room id nm p S' F) ∨ (r = .tuple #[.bool true, .bool false] ∧ Below w0.heap.size w0 w')
set_option maxHeartbeats 16000000 in
theorem pdoes_fn {w0 w : World} {d k room id p : Nat} {nm : ByteArray} {S : List Fl} {F : List Res} (s : Vtp) (ok : OkVtp w0 s) (hn : NameIn w0.heap.size w0 id nm) (hnm : vnmG id = nm) (hsz : szS S nm ≤ 20000000) (hP : Pr w0.heap.size w0 w d k room id nm p S F) :
    Fn Tryz.prog 13 #[ptr p, .agg (vtpC s).toArray] w fun r w' => doesPost w0 w' d k room id nm p (szS S nm + 20100) F r := by
  obtain ⟨kind, n, key, cook, dead, dV, l, y⟩ := s
  obtain ⟨hnn, hk, hc, hl, hsl⟩ := ok
  dsimp only at *
  obtain ⟨v, m, x, ra, rc, ps, rL, hb, hS⟩ := hP
  have hid := hn.1.1
  have hns := vnmG_size hid
  rw [hnm] at hns
  have hn6 : nm.size ≤ 1000000 := by omega
  have hn7 : nm.size ≤ 140737488355328 := by omega
  have hname := nameR_fn id hid
  rw [hnm] at hname
  have hpl := pl_le hS
  have hlL := hS.lenL
  have hone := hS.one
  obtain ⟨da, dc, rfl⟩ := hsl.shape
  rw [bv_length] at *
  have p1 : ∀ {L : List Res} (w' : World), Sep Tryz.prog w0.heap.size w0 w' L → Sl w' (.slice da l.length dc) (bv l) := fun w' h => h.sl hsl rfl
  replace hb := hb.perm (F' := .blk p [ptr d, ptr k, ptr v, ptr x, .int .i64 (id : Int)] 36 :: .blk v (volC d id nm m) 70 :: .mp 45 m (ps.map pcE) :: rvRes x k id ra rc rL F) ((List.perm_append_comm (l₁ := [_, _]) (l₂ := [_])).append_right _)
  have fin : ∀ {S' : List Fl} {r : Value} {w' : World}, szS S' nm ≤ szS S nm + 20100 → ((openE S' nm id ≠ 0 → r = .tuple #[.bool true, .bool false] ∧ Btw w0.heap.size w0 w' d k room S' S' F) ∧
      (openE S' nm id = 0 → r = .tuple #[.bool true, .bool true] ∧ ∃ S'', szS S'' nm ≤ szS S' nm ∧ Pr w0.heap.size w0 w' d k room id nm p S'' F)) → doesPost w0 w' d k room id nm p (szS S nm + 20100) F r := fun {S'} {r} {w'} hle ⟨h1, h2⟩ => by
    by_cases hE : openE S' nm id = 0
    · obtain ⟨hr, S'', h3, h4⟩ := h2 hE
      exact .inl ⟨hr, S'', Nat.le_trans h3 hle, h4⟩
    · obtain ⟨hr, hb⟩ := h1 hE
      obtain ⟨G, hL, hB, _⟩ := hb.sep
      exact .inr ⟨hr, hL.below⟩
  rw [volC, rvRes] at hb
  obtain ⟨G, hL, hB, cl⟩ := hb.sep
  clear hb
  rw [vtpC]
  dsimp only
  refine Fn.mk Tryz.func13 rfl (by kernel_rfl) Tryz.ntmps13 rfl (by rw [Tryz.results13]) ?_
  repeat (first | (refine RunH ?_; intro w hL hB; try clear w) | (refine Both.mk ?_ ?_ <;> conv => whnf) | fail)
  (refine Nw.sep hL hB (fun t3 w hL hB ht3 => ?_); conv => whnf)
  replace hL := hL.perm (.swap _ _ _)
  repeat (first | (refine RunH ?_; intro w hL hB; try clear w) | (refine Both.mk ?_ ?_ <;> conv => whnf) | fail)
  refine (hname _).mono fun r w ⟨hr, hw⟩ => ?_
  subst hr
  replace hL := hL.call hB (Turns.of_below hw)
  replace hB := Nat.le_trans hB hw.size
  conv => whnf
  by_cases h4 : kind = 4
  · subst h4
    repeat (first | (refine RunK ?_; intro w hL hB; try clear w) | (refine V.tree ttOk (fun x0 => Sep Tryz.prog _ w0 x0 (.blk p [ptr d, ptr k, ptr v, ptr x, .int .i64 (id : Int)] 36 :: .blk t3 [.int .i64 4, .int .i64 n, .int .u64 (key : Int), .int .u32 (cook : Int), .bool dead, .slice da l.length dc, .int .u8 (y.toNat : Int)] 51 :: [])) (.q 0 (.q 1 (.q 2 (.q 3 (.q 4 (.q 5 (.alt 6 .nil .stop))))))) mixed (by decide +kernel) (hL.drew.sub (.cons_cons _ (.cons_cons _ (List.nil_sublist _)))) ?_; replace hL := hL.drew; conv => whnf) | (refine V.tailA ttOk mixed (by decide +kernel) ?_; replace hL := hL.drew; conv => whnf) | (refine Both.mk ?_ ?_ <;> conv => whnf) | fail)
    obtain ⟨dR, hD, back⟩ := (cl (F' := _ :: _ :: _ :: _ :: _ :: _ :: F) hL hB).dk
    refine (crash_fn n hnn.2 hD).mono fun r w hD => ?_
    clear cl hL hB
    obtain ⟨G, hL, hB, cl⟩ := (back (F' := _ :: _ :: _ :: _ :: _ :: _ :: F) hD).sep
    clear hD back
    conv => whnf
    refine ⟨hL.sub (.cons_cons _ (.cons_cons _ (List.nil_sublist _))), ?_⟩
    conv => whnf
    repeat (first | (refine RunK ?_; intro w hL hB; try clear w) | (refine V.tree ttOk (fun x0 => Sep Tryz.prog _ w0 x0 (.blk p [ptr d, ptr k, ptr v, ptr x, .int .i64 (id : Int)] 36 :: .blk t3 [.int .i64 4, .int .i64 n, .int .u64 (key : Int), .int .u32 (cook : Int), .bool dead, .slice da l.length dc, .int .u8 (y.toNat : Int)] 51 :: [])) (.q 0 (.q 1 (.q 2 (.q 3 (.q 4 (.q 5 (.alt 6 .nil .stop))))))) mixed (by decide +kernel) (hL.drew.sub (.cons_cons _ (.cons_cons _ (List.nil_sublist _)))) ?_; replace hL := hL.drew; conv => whnf) | (refine V.tailA ttOk mixed (by decide +kernel) ?_; replace hL := hL.drew; conv => whnf) | (refine Both.mk ?_ ?_ <;> conv => whnf) | fail)
    obtain ⟨dD, hD, back⟩ := (cl (F' := _ :: _ :: _ :: _ :: _ :: _ :: F) hL hB).rk
    refine (crashR_fn n hnn hD).mono fun r w hD => ?_
    clear cl hL hB
    obtain ⟨G, hL, hB, cl⟩ := (back (F' := _ :: _ :: _ :: _ :: _ :: _ :: F) hD).sep
    clear hD back
    conv => whnf
    refine ⟨hL.sub (.cons_cons _ (.cons_cons _ (List.nil_sublist _))), ?_⟩
    conv => whnf
    repeat (first | (refine RunH ?_; intro w hL hB; try clear w) | (refine Both.mk ?_ ?_ <;> conv => whnf) | fail)
    refine (popen_fn (pv := ptr v) (px := ptr x) hn hnm (hone.crash n) ((cl (F' := _ :: _ :: _ :: _ :: _ :: _ :: F) hL hB).sub (.cons_cons _ (.cons _ (.cons _ (.cons _ (.cons _ (.cons _ (.refl _)))))))) ⟨rfl, rfl⟩).mono fun r w h => ?_
    clear cl hL hB
    have h := fin (by have := crash_le hone n; omega) h
    rcases h with ⟨hr, S', h1, h2⟩ | ⟨hr, h1⟩
    · subst hr
      conv => whnf
      repeat (first | (refine RunH ?_; intro w hL hB; try clear w) | (refine Both.mk ?_ ?_ <;> conv => whnf) | fail)
      exact .inl ⟨rfl, S', h1, h2⟩
    · subst hr
      conv => whnf
      repeat (first | (refine RunH ?_; intro w hL hB; try clear w) | (refine Both.mk ?_ ?_ <;> conv => whnf) | fail)
      exact .inr ⟨rfl, h1⟩
  by_cases h5 : kind = 5
  · subst h5
    repeat (first | (refine RunK ?_; intro w hL hB; try clear w) | (refine V.tree ttOk (fun x0 => Sep Tryz.prog _ w0 x0 (.blk p [ptr d, ptr k, ptr v, ptr x, .int .i64 (id : Int)] 36 :: .blk t3 [.int .i64 5, .int .i64 n, .int .u64 (key : Int), .int .u32 (cook : Int), .bool dead, .slice da l.length dc, .int .u8 (y.toNat : Int)] 51 :: [])) (.q 0 (.q 1 (.q 2 (.q 3 (.q 4 (.q 5 (.q 6 (.q 7 (.q 8 (.alt 9 .nil .stop)))))))))) mixed (by decide +kernel) (hL.drew.sub (.cons_cons _ (.cons_cons _ (List.nil_sublist _)))) ?_; replace hL := hL.drew; conv => whnf) | (refine V.tailA ttOk mixed (by decide +kernel) ?_; replace hL := hL.drew; conv => whnf) | (refine Both.mk ?_ ?_ <;> conv => whnf) | fail)
    obtain ⟨dR, hD, back⟩ := (cl (F' := _ :: _ :: _ :: _ :: _ :: _ :: F) hL hB).dk
    refine (rot_fn nm hn6 n y hD).mono fun r w ⟨hr, hD⟩ => ?_
    subst hr
    clear cl hL hB
    obtain ⟨G, hL, hB, cl⟩ := (back (F' := _ :: _ :: _ :: _ :: _ :: _ :: F) hD).sep
    clear hD back
    conv => whnf
    refine ⟨hL.sub (.cons_cons _ (.cons_cons _ (List.nil_sublist _))), ?_⟩
    conv => whnf
    repeat (first | (refine RunK ?_; intro w hL hB; try clear w) | (refine V.tree ttOk (fun x0 => Sep Tryz.prog _ w0 x0 (.blk p [ptr d, ptr k, ptr v, ptr x, .int .i64 (id : Int)] 36 :: .blk t3 [.int .i64 5, .int .i64 n, .int .u64 (key : Int), .int .u32 (cook : Int), .bool dead, .slice da l.length dc, .int .u8 (y.toNat : Int)] 51 :: [])) (.q 0 (.q 1 (.q 2 (.q 3 (.q 4 (.q 5 (.q 6 (.q 7 (.q 8 (.alt 9 .nil .stop)))))))))) mixed (by decide +kernel) (hL.drew.sub (.cons_cons _ (.cons_cons _ (List.nil_sublist _)))) ?_; replace hL := hL.drew; conv => whnf) | (refine V.tailA ttOk mixed (by decide +kernel) ?_; replace hL := hL.drew; conv => whnf) | (refine Both.mk ?_ ?_ <;> conv => whnf) | fail)
    obtain ⟨dD, hD, back⟩ := (cl (F' := _ :: _ :: _ :: _ :: _ :: _ :: F) hL hB).rk
    refine (rotR_fn nm n y hD).mono fun r w ⟨hr, hD⟩ => ?_
    subst hr
    clear cl hL hB
    obtain ⟨G, hL, hB, cl⟩ := (back (F' := _ :: _ :: _ :: _ :: _ :: _ :: F) hD).sep
    clear hD back
    conv => whnf
    refine ⟨hL.sub (.cons_cons _ (.cons_cons _ (List.nil_sublist _))), ?_⟩
    conv => whnf
    repeat (first | (refine RunH ?_; intro w hL hB; try clear w) | (refine Both.mk ?_ ?_ <;> conv => whnf) | fail)
    have hz := rot_eq hone n y
    have hb := (cl (F' := _ :: _ :: _ :: _ :: _ :: _ :: F) hL hB).perm (F' := _ :: _ :: _ :: _ :: _ :: _ :: F) ((List.perm_append_comm (l₁ := [_, _]) (l₂ := [_, _])).append_right _)
    refine .inl ⟨rfl, rotS S nm n y, by omega, v, m, x, ra, rc, ps, rL, ?_, ⟨hone.rot n y, hS.rel, hS.okP, hS.okL, by rw [hz]; exact hS.sumP, by rw [hz]; exact hS.lenL⟩⟩
    exact hb.sub (.cons_cons _ (.cons_cons _ (.cons_cons _ (.cons _ (.refl _)))))
  by_cases h6 : kind = 6
  · subst h6
    repeat (first | (refine RunK ?_; intro w hL hB; try clear w) | (refine V.tree ttOk (fun x0 => Sep Tryz.prog _ w0 x0 (.blk p [ptr d, ptr k, ptr v, ptr x, .int .i64 (id : Int)] 36 :: .blk t3 [.int .i64 6, .int .i64 n, .int .u64 (key : Int), .int .u32 (cook : Int), .bool dead, .slice da l.length dc, .int .u8 (y.toNat : Int)] 51 :: [])) (.q 0 (.q 1 (.q 2 (.q 3 (.q 4 (.q 5 (.q 6 (.alt 7 .nil .stop)))))))) mixed (by decide +kernel) (hL.drew.sub (.cons_cons _ (.cons_cons _ (List.nil_sublist _)))) ?_; replace hL := hL.drew; conv => whnf) | (refine V.tailA ttOk mixed (by decide +kernel) ?_; replace hL := hL.drew; conv => whnf) | (refine Both.mk ?_ ?_ <;> conv => whnf) | fail)
    obtain ⟨dR, hD, back⟩ := (cl (F' := _ :: _ :: _ :: _ :: _ :: _ :: F) hL hB).dk
    refine (cut_fn nm hn6 n hD).mono fun r w ⟨hr, hD⟩ => ?_
    subst hr
    clear cl hL hB
    obtain ⟨G, hL, hB, cl⟩ := (back (F' := _ :: _ :: _ :: _ :: _ :: _ :: F) hD).sep
    clear hD back
    conv => whnf
    refine ⟨hL.sub (.cons_cons _ (.cons_cons _ (List.nil_sublist _))), ?_⟩
    conv => whnf
    repeat (first | (refine RunK ?_; intro w hL hB; try clear w) | (refine V.tree ttOk (fun x0 => Sep Tryz.prog _ w0 x0 (.blk p [ptr d, ptr k, ptr v, ptr x, .int .i64 (id : Int)] 36 :: .blk t3 [.int .i64 6, .int .i64 n, .int .u64 (key : Int), .int .u32 (cook : Int), .bool dead, .slice da l.length dc, .int .u8 (y.toNat : Int)] 51 :: [])) (.q 0 (.q 1 (.q 2 (.q 3 (.q 4 (.q 5 (.q 6 (.alt 7 .nil .stop)))))))) mixed (by decide +kernel) (hL.drew.sub (.cons_cons _ (.cons_cons _ (List.nil_sublist _)))) ?_; replace hL := hL.drew; conv => whnf) | (refine V.tailA ttOk mixed (by decide +kernel) ?_; replace hL := hL.drew; conv => whnf) | (refine Both.mk ?_ ?_ <;> conv => whnf) | fail)
    obtain ⟨dD, hD, back⟩ := (cl (F' := _ :: _ :: _ :: _ :: _ :: _ :: F) hL hB).rk
    refine (cutR_fn nm n hD).mono fun r w ⟨hr, hD⟩ => ?_
    subst hr
    clear cl hL hB
    obtain ⟨G, hL, hB, cl⟩ := (back (F' := _ :: _ :: _ :: _ :: _ :: _ :: F) hD).sep
    clear hD back
    conv => whnf
    refine ⟨hL.sub (.cons_cons _ (.cons_cons _ (List.nil_sublist _))), ?_⟩
    conv => whnf
    repeat (first | (refine RunH ?_; intro w hL hB; try clear w) | (refine Both.mk ?_ ?_ <;> conv => whnf) | fail)
    refine (popen_fn (pv := ptr v) (px := ptr x) hn hnm (hone.cut n) ((cl (F' := _ :: _ :: _ :: _ :: _ :: _ :: F) hL hB).sub (.cons_cons _ (.cons _ (.cons _ (.cons _ (.cons _ (.cons _ (.refl _)))))))) ⟨rfl, rfl⟩).mono fun r w h => ?_
    clear cl hL hB
    have h := fin (by have := cut_le hone n; omega) h
    rcases h with ⟨hr, S', h1, h2⟩ | ⟨hr, h1⟩
    · subst hr
      conv => whnf
      repeat (first | (refine RunH ?_; intro w hL hB; try clear w) | (refine Both.mk ?_ ?_ <;> conv => whnf) | fail)
      exact .inl ⟨rfl, S', h1, h2⟩
    · subst hr
      conv => whnf
      repeat (first | (refine RunH ?_; intro w hL hB; try clear w) | (refine Both.mk ?_ ?_ <;> conv => whnf) | fail)
      exact .inr ⟨rfl, h1⟩
  by_cases h7 : kind = 7
  · subst h7
    repeat (first | (refine RunK ?_; intro w hL hB; try clear w) | (refine V.tree ttOk (fun x0 => Sep Tryz.prog _ w0 x0 (.blk p [ptr d, ptr k, ptr v, ptr x, .int .i64 (id : Int)] 36 :: .blk t3 [.int .i64 7, .int .i64 n, .int .u64 (key : Int), .int .u32 (cook : Int), .bool dead, .slice da l.length dc, .int .u8 (y.toNat : Int)] 51 :: [])) (.q 0 (.q 1 (.q 2 (.q 3 (.q 4 (.q 5 (.q 6 (.q 7 (.alt 8 .nil .stop))))))))) mixed (by decide +kernel) (hL.drew.sub (.cons_cons _ (.cons_cons _ (List.nil_sublist _)))) ?_; replace hL := hL.drew; conv => whnf) | (refine V.tailA ttOk mixed (by decide +kernel) ?_; replace hL := hL.drew; conv => whnf) | (refine Both.mk ?_ ?_ <;> conv => whnf) | fail)
    obtain ⟨dR, hD, back⟩ := (cl (F' := _ :: _ :: _ :: _ :: _ :: _ :: F) hL hB).dk
    refine (append_fn nm hn6 _ l (fun w' h => p1 _ h) hD).mono fun r w ⟨hr, hD⟩ => ?_
    subst hr
    clear cl hL hB
    obtain ⟨G, hL, hB, cl⟩ := (back (F' := _ :: _ :: _ :: _ :: _ :: _ :: F) hD).sep
    clear hD back
    conv => whnf
    refine ⟨hL.sub (.cons_cons _ (.cons_cons _ (List.nil_sublist _))), ?_⟩
    conv => whnf
    repeat (first | (refine RunK ?_; intro w hL hB; try clear w) | (refine V.tree ttOk (fun x0 => Sep Tryz.prog _ w0 x0 (.blk p [ptr d, ptr k, ptr v, ptr x, .int .i64 (id : Int)] 36 :: .blk t3 [.int .i64 7, .int .i64 n, .int .u64 (key : Int), .int .u32 (cook : Int), .bool dead, .slice da l.length dc, .int .u8 (y.toNat : Int)] 51 :: [])) (.q 0 (.q 1 (.q 2 (.q 3 (.q 4 (.q 5 (.q 6 (.q 7 (.alt 8 .nil .stop))))))))) mixed (by decide +kernel) (hL.drew.sub (.cons_cons _ (.cons_cons _ (List.nil_sublist _)))) ?_; replace hL := hL.drew; conv => whnf) | (refine V.tailA ttOk mixed (by decide +kernel) ?_; replace hL := hL.drew; conv => whnf) | (refine Both.mk ?_ ?_ <;> conv => whnf) | fail)
    obtain ⟨dD, hD, back⟩ := (cl (F' := _ :: _ :: _ :: _ :: _ :: _ :: F) hL hB).rk
    refine (appendR_fn nm hn7 _ l (by omega) (fun w' h => p1 _ h) hD).mono fun r w ⟨hr, R', hp, hD⟩ => ?_
    subst hr
    obtain rfl := (hone.app room l).perm hp
    clear cl hL hB
    obtain ⟨G, hL, hB, cl⟩ := (back (F' := _ :: _ :: _ :: _ :: _ :: _ :: F) hD).sep
    clear hD back
    conv => whnf
    refine ⟨hL.sub (.cons_cons _ (.cons_cons _ (List.nil_sublist _))), ?_⟩
    conv => whnf
    repeat (first | (refine RunH ?_; intro w hL hB; try clear w) | (refine Both.mk ?_ ?_ <;> conv => whnf) | fail)
    refine (popen_fn (pv := ptr v) (px := ptr x) hn hnm (hone.app room l) ((cl (F' := _ :: _ :: _ :: _ :: _ :: _ :: F) hL hB).sub (.cons_cons _ (.cons _ (.cons _ (.cons _ (.cons _ (.cons _ (.refl _)))))))) ⟨rfl, rfl⟩).mono fun r w h => ?_
    clear cl hL hB
    have h := fin (by have := app_le hone room l; omega) h
    rcases h with ⟨hr, S', h1, h2⟩ | ⟨hr, h1⟩
    · subst hr
      conv => whnf
      repeat (first | (refine RunH ?_; intro w hL hB; try clear w) | (refine Both.mk ?_ ?_ <;> conv => whnf) | fail)
      exact .inl ⟨rfl, S', h1, h2⟩
    · subst hr
      conv => whnf
      repeat (first | (refine RunH ?_; intro w hL hB; try clear w) | (refine Both.mk ?_ ?_ <;> conv => whnf) | fail)
      exact .inr ⟨rfl, h1⟩
  by_cases h1 : kind = 1
  · subst h1
    repeat (first | (refine RunH ?_; intro w hL hB; try clear w) | (refine Both.mk ?_ ?_ <;> conv => whnf) | fail)
    refine (roomy_fn _ l (by omega) (p1 _ hL) hL hB).mono fun r w ⟨g, c, hr, hgc, hL, hB, _⟩ => ?_
    subst hr
    conv => whnf
    repeat (first | (refine RunH ?_; intro w hL hB; try clear w) | (refine Both.mk ?_ ?_ <;> conv => whnf) | fail)
    (refine Nw.sep hL hB (fun t8 w hL hB ht8 => ?_); conv => whnf)
    repeat (first | (refine RunH ?_; intro w hL hB; try clear w) | (refine Both.mk ?_ ?_ <;> conv => whnf) | fail)
    intro n3 c3 q1 q2
    obtain rfl : n3 = l.length := by omega
    conv => whnf
    repeat (first | (refine RunH ?_; intro w hL hB; try clear w) | (refine Both.mk ?_ ?_ <;> conv => whnf) | fail)
    replace hL := hL.perm ((List.perm_append_comm (l₁ := [_, _]) (l₂ := [_, _])).append_right _)
    repeat (first | (refine RunK ?_; intro w hL hB; try clear w) | (refine V.tree ttOk (fun x0 => Sep Tryz.prog _ w0 x0 (.blk p [ptr d, ptr k, ptr v, ptr x, .int .i64 (id : Int)] 36 :: .blk t3 [.int .i64 1, .int .i64 n, .int .u64 (key : Int), .int .u32 (cook : Int), .bool dead, .slice da l.length dc, .int .u8 (y.toNat : Int)] 51 :: .blk t8 [.int .u64 (key : Int), .int .u32 (cook : Int), .bool dead, .slice (some ⟨g, 0, none⟩) l.length c3] 49 :: [])) (.q 0 (.q 1 (.q 2 (.q 3 (.q 4 (.q 6 (.q 7 (.q 8 (.q 9 (.q 10 (.q 11 (.alt 5 (.alt 12 (.q 13 (.q 14 (.q 15 (.q 16 (.q 17 (.q 18 (.alt 19 (.q 20 (.q 21 .nil)) .stop))))))) .stop) .stop)))))))))))) mixed (by decide +kernel) (hL.drew.sub (.cons_cons _ (.cons_cons _ (.cons_cons _ (List.nil_sublist _))))) ?_; replace hL := hL.drew; conv => whnf) | (refine V.tailA ttOk mixed (by decide +kernel) ?_; replace hL := hL.drew; conv => whnf) | (refine Both.mk ?_ ?_ <;> conv => whnf) | fail)
    have hput := PrS.put (room := room) (dead := dead) hS hk hc hl (by omega)
    obtain ⟨dR, hD, back⟩ := ((cl (F' := _ :: _ :: _ :: _ :: _ :: _ :: _ :: _ :: F) hL hB).perm ((List.perm_append_comm (l₁ := [_, _, _, _]) (l₂ := [_, _])).append_right _)).dk
    refine (vput_fn hn key cook dead _ l hk hc hS.rel.nd (fun w' h => by
      have h1 : Sl w' (.slice (some ⟨g, 0, none⟩) (l.length + 1) c) (bv (l ++ [171])) := RowC.sl (show RowC w' 5 _ (l ++ [(171 : UInt8)]).length (bv (l ++ [171])) from h.at (i := 3) rfl)
      have := h1.take (k := l.length) (by simp) (c' := c3) (by omega) (by omega)
      rwa [← bv_take, List.take_left' rfl] at this) hD).mono fun r w ⟨hr, hD⟩ => ?_
    subst hr
    clear cl hL hB
    obtain ⟨G, hL, hB, cl⟩ := ((back (F' := _ :: _ :: _ :: _ :: _ :: _ :: _ :: _ :: F) hD).perm ((List.perm_append_comm (l₁ := [_, _]) (l₂ := [_, _, _, _])).append_right _)).sep
    clear hD back
    rw [volC] at hL
    conv => whnf
    refine ⟨hL.sub (.cons_cons _ (.cons_cons _ (.cons_cons _ (List.nil_sublist _)))), ?_⟩
    conv => whnf
    repeat (first | (refine RunH ?_; intro w hL hB; try clear w) | (refine Both.mk ?_ ?_ <;> conv => whnf) | fail)
    obtain ⟨dD, hD, back⟩ := ((cl (F' := _ :: _ :: _ :: _ :: _ :: _ :: _ :: _ :: F) hL hB).perm ((List.perm_append_comm (l₁ := [_, _, _, _, _, _]) (l₂ := [_, _])).append_right _)).rk
    refine (rput_fn hid hnm key cook dead _ l hk hc hS.rel (by omega) hone (fun w' h => p1 _ h) hD).mono fun r w ⟨hr, ra', rc', hD⟩ => ?_
    subst hr
    clear cl hL hB
    rw [rvRes] at hD
    obtain ⟨G, hL, hB, cl⟩ := ((back (F' := _ :: _ :: _ :: _ :: _ :: _ :: _ :: _ :: F) hD).perm ((List.perm_append_comm (l₁ := [_, _]) (l₂ := [_, _, _, _, _, _])).append_right _)).sep
    clear hD back
    generalize vputE room S nm ps key dead l.length = E at *
    conv => whnf
    refine ⟨hL.sub (.cons_cons _ (.cons_cons _ (.cons_cons _ (List.nil_sublist _)))), ?_⟩
    conv => whnf
    repeat (first | (refine RunH ?_; intro w hL hB; try clear w) | (refine Both.mk ?_ ?_ <;> conv => whnf) | fail)
    refine (stands_fn _ _ l [] _ (RowC.sl (show RowC w 5 _ (l ++ [(171 : UInt8)]).length (bv (l ++ [171])) from hL.at (i := 3) rfl)) (p1 _ hL) (by omega)).mono fun r w ⟨hr, hw⟩ => ?_
    subst hr
    replace hL := hL.call hB (Turns.of_below hw)
    replace hB := Nat.le_trans hB hw.size
    conv => whnf
    refine ⟨hL.sub (.cons_cons _ (.cons_cons _ (.cons_cons _ (List.nil_sublist _)))), ?_⟩
    conv => whnf
    repeat (first | (refine RunH ?_; intro w hL hB; try clear w) | (refine Both.mk ?_ ?_ <;> conv => whnf) | fail)
    refine (spoil_fn _ (l ++ [171]) (by simp; omega) (hL.perm (List.perm_middle (l₁ := [_, _, _]))) hB).mono fun r w ⟨hL, hB⟩ => ?_
    conv => whnf
    repeat (first | (refine RunH ?_; intro w hL hB; try clear w) | (refine Both.mk ?_ ?_ <;> conv => whnf) | fail)
    refine .inl ⟨rfl, _, Nat.le_trans hput.2 (by omega), v, m, x, ra', rc', _, _, ?_, hput.1⟩
    have hb := (cl (F' := _ :: _ :: _ :: _ :: _ :: _ :: _ :: F) hL hB).sub (F' := _ :: _ :: _ :: _ :: _ :: F) (.cons_cons _ (.cons _ (.cons _ (.refl _))))
    exact hb.perm ((List.perm_append_comm (l₁ := [_]) (l₂ := [_, _])).append_right _)
  by_cases h2 : kind = 2
  · subst h2
    repeat (first | (refine RunK ?_; intro w hL hB; try clear w) | (refine V.tree ttOk (fun x0 => Sep Tryz.prog _ w0 x0 (.blk p [ptr d, ptr k, ptr v, ptr x, .int .i64 (id : Int)] 36 :: .blk t3 [.int .i64 2, .int .i64 n, .int .u64 (key : Int), .int .u32 (cook : Int), .bool dead, .slice da l.length dc, .int .u8 (y.toNat : Int)] 51 :: [])) (.q 0 (.q 1 (.q 2 (.q 3 (.q 4 (.q 5 (.q 6 (.q 7 (.q 8 (.q 9 (.alt 10 (.q 11 (.q 12 (.q 13 (.q 14 (.q 15 .nil))))) .stop))))))))))) mixed (by decide +kernel) (hL.drew.sub (.cons_cons _ (.cons_cons _ (List.nil_sublist _)))) ?_; replace hL := hL.drew; conv => whnf) | (refine V.tailA ttOk mixed (by decide +kernel) ?_; replace hL := hL.drew; conv => whnf) | (refine Both.mk ?_ ?_ <;> conv => whnf) | fail)
    obtain ⟨dR, hD, back⟩ := ((cl (F' := _ :: _ :: _ :: _ :: _ :: _ :: F) hL hB).perm ((List.perm_append_comm (l₁ := [_, _]) (l₂ := [_, _])).append_right _)).dk
    refine (vget_fn hn key cook hk hS.rel.nd hS.okP hD).mono fun r w hD => ?_
    unfold vgetPost at hD
    clear cl hL hB
    have hrg := fun w F hD => rget_fn (B := w0.heap.size) (w0 := w0) (w := w) (k := k) (x := x) (room := room) (R := S) (F := F) (ra := ra) (rc := rc) hid hnm key cook hS.rel hS.okL hD
    simp only [rgetPost, rvRes] at hrg
    have hvd : (vgetD S nm ps key).length ≤ 2147483648 := by
      unfold vgetD
      cases hg : getP ps key with
      | none => simp
      | some p =>
        have hpp := hS.okP p (getA_some hg).2
        have : (dData (rec (datS S nm) p)).length ≤ (rec (datS S nm) p).length := by simp [dData, Go.Proofs.YtpkealgeigpjpaaGreatDoor.win]; omega
        have h3 : (rec (datS S nm) p).length ≤ p.n := by simp [rec, Go.Proofs.YtpkealgeigpjpaaGreatDoor.win]; omega
        dsimp only
        omega
    generalize hE : vgetE S nm ps key cook = E at *
    generalize vgetD S nm ps key = D at *
    by_cases hE0 : E = 0
    · rw [if_pos hE0] at hD
      obtain ⟨u, hr, hD⟩ := hD
      subst hr
      obtain ⟨G, hL, hB, cl⟩ := ((back (F' := _ :: _ :: _ :: _ :: _ :: _ :: _ :: F) hD).perm ((List.perm_append_comm (l₁ := [_, _, _]) (l₂ := [_, _])).append_right _)).sep
      clear hD back
      rw [volC] at hL
      obtain ⟨ua, uc, rfl⟩ := (show SlN w 1 u _ _ from hL.rowN (i := 2) rfl).shape
      conv => whnf
      refine ⟨hL.sub (.cons_cons _ (.cons_cons _ (List.nil_sublist _))), ?_⟩
      conv => whnf
      repeat (first | (refine RunK ?_; intro w hL hB; try clear w) | (refine V.tree ttOk (fun x0 => Sep Tryz.prog _ w0 x0 (.blk p [ptr d, ptr k, ptr v, ptr x, .int .i64 (id : Int)] 36 :: .blk t3 [.int .i64 2, .int .i64 n, .int .u64 (key : Int), .int .u32 (cook : Int), .bool dead, .slice da l.length dc, .int .u8 (y.toNat : Int)] 51 :: [])) (.q 0 (.q 1 (.q 2 (.q 3 (.q 4 (.q 5 (.q 6 (.q 7 (.q 8 (.q 9 (.alt 10 (.q 11 (.q 12 (.q 13 (.q 14 (.q 15 .nil))))) .stop))))))))))) mixed (by decide +kernel) (hL.drew.sub (.cons_cons _ (.cons_cons _ (List.nil_sublist _)))) ?_; replace hL := hL.drew; conv => whnf) | (refine V.tailA ttOk mixed (by decide +kernel) ?_; replace hL := hL.drew; conv => whnf) | (refine Both.mk ?_ ?_ <;> conv => whnf) | fail)
      obtain ⟨dD, hD, back⟩ := ((cl (F' := _ :: _ :: _ :: _ :: _ :: _ :: _ :: F) hL hB).perm ((List.perm_append_comm (l₁ := [_, _, _, _, _]) (l₂ := [_, _])).append_right _)).rk
      refine (hrg _ _ hD).mono fun r w ⟨h1, _⟩ => ?_
      obtain ⟨t, hr, hD⟩ := h1 hE0
      subst hr
      clear cl hL hB
      obtain ⟨G, hL, hB, cl⟩ := ((back (F' := _ :: _ :: _ :: _ :: _ :: _ :: _ :: _ :: F) hD).perm ((List.perm_append_comm (l₁ := [_, _, _]) (l₂ := [_, _, _, _, _])).append_right _)).sep
      clear hD back
      obtain ⟨ta, tc, rfl⟩ := (show SlN w 1 t _ _ from hL.rowN (i := 5) rfl).shape
      conv => whnf
      refine ⟨hL.sub (.cons_cons _ (.cons_cons _ (List.nil_sublist _))), ?_⟩
      conv => whnf
      repeat (first | (refine RunH ?_; intro w hL hB; try clear w) | (refine Both.mk ?_ ?_ <;> conv => whnf) | fail)
      refine (same_fn _ _ D D _ (hL.row (i := 2) rfl) (hL.row (i := 5) rfl)).mono fun r w ⟨hr, hw⟩ => ?_
      subst hr
      replace hL := hL.call hB (Turns.of_below hw)
      replace hB := Nat.le_trans hB hw.size
      rw [decide_eq_true rfl]
      conv => whnf
      repeat (first | (refine RunH ?_; intro w hL hB; try clear w) | (refine Both.mk ?_ ?_ <;> conv => whnf) | fail)
      have hL3 := (hL.perm (List.perm_middle (l₁ := [_, _])))
      replace hL3 := hL3.says (R' := .rc 5 (.slice ua D.length uc) D.length (bv D)) (RowC.of_own (hL3.ownR (i := 0) rfl)) rfl
      refine (spoil_fn _ D hvd hL3 hB).mono fun r w ⟨hL, hB⟩ => ?_
      conv => whnf
      repeat (first | (refine RunH ?_; intro w hL hB; try clear w) | (refine Both.mk ?_ ?_ <;> conv => whnf) | fail)
      refine .inl ⟨by simp, S, by omega, v, m, x, ra, rc, ps, rL, ?_, hS⟩
      have hb := (cl (F' := _ :: _ :: _ :: _ :: _ :: _ :: _ :: F) hL hB).sub (F' := _ :: _ :: _ :: _ :: _ :: F) (.cons_cons _ (.cons _ (.cons_cons _ (.cons_cons _ (.cons _ (.refl _))))))
      exact hb.perm ((List.perm_append_comm (l₁ := [_]) (l₂ := [_, _])).append_right _)
    · rw [if_neg hE0] at hD
      obtain ⟨hr, hD⟩ := hD
      subst hr
      obtain ⟨G, hL, hB, cl⟩ := ((back (F' := _ :: _ :: _ :: _ :: _ :: _ :: F) hD).perm ((List.perm_append_comm (l₁ := [_, _]) (l₂ := [_, _])).append_right _)).sep
      clear hD back
      rw [volC] at hL
      conv => whnf
      refine ⟨hL.sub (.cons_cons _ (.cons_cons _ (List.nil_sublist _))), ?_⟩
      conv => whnf
      repeat (first | (refine RunK ?_; intro w hL hB; try clear w) | (refine V.tree ttOk (fun x0 => Sep Tryz.prog _ w0 x0 (.blk p [ptr d, ptr k, ptr v, ptr x, .int .i64 (id : Int)] 36 :: .blk t3 [.int .i64 2, .int .i64 n, .int .u64 (key : Int), .int .u32 (cook : Int), .bool dead, .slice da l.length dc, .int .u8 (y.toNat : Int)] 51 :: [])) (.q 0 (.q 1 (.q 2 (.q 3 (.q 4 (.q 5 (.q 6 (.q 7 (.q 8 (.q 9 (.alt 10 (.q 11 (.q 12 (.q 13 (.q 14 (.q 15 .nil))))) .stop))))))))))) mixed (by decide +kernel) (hL.drew.sub (.cons_cons _ (.cons_cons _ (List.nil_sublist _)))) ?_; replace hL := hL.drew; conv => whnf) | (refine V.tailA ttOk mixed (by decide +kernel) ?_; replace hL := hL.drew; conv => whnf) | (refine Both.mk ?_ ?_ <;> conv => whnf) | fail)
      obtain ⟨dD, hD, back⟩ := ((cl (F' := _ :: _ :: _ :: _ :: _ :: _ :: F) hL hB).perm ((List.perm_append_comm (l₁ := [_, _, _, _]) (l₂ := [_, _])).append_right _)).rk
      refine (hrg _ _ hD).mono fun r w ⟨_, h1⟩ => ?_
      obtain ⟨hr, hD⟩ := h1 hE0
      subst hr
      clear cl hL hB
      obtain ⟨G, hL, hB, cl⟩ := ((back (F' := _ :: _ :: _ :: _ :: _ :: _ :: F) hD).perm ((List.perm_append_comm (l₁ := [_, _]) (l₂ := [_, _, _, _])).append_right _)).sep
      clear hD back
      conv => whnf
      refine ⟨hL.sub (.cons_cons _ (.cons_cons _ (List.nil_sublist _))), ?_⟩
      conv => whnf
      repeat (first | (refine RunH ?_; intro w hL hB; try clear w) | (refine Both.mk ?_ ?_ <;> conv => whnf) | fail)
      refine (same_fn _ _ [] [] _ (Sl.nil _) (Sl.nil _)).mono fun r w ⟨hr, hw⟩ => ?_
      subst hr
      replace hL := hL.call hB (Turns.of_below hw)
      replace hB := Nat.le_trans hB hw.size
      rw [decide_eq_true rfl]
      conv => whnf
      repeat (first | (refine RunH ?_; intro w hL hB; try clear w) | (refine Both.mk ?_ ?_ <;> conv => whnf) | fail)
      refine (spoil_fn _ [] (by simp) (hL.nilC 5) hB).mono fun r w ⟨hL, hB⟩ => ?_
      conv => whnf
      repeat (first | (refine RunH ?_; intro w hL hB; try clear w) | (refine Both.mk ?_ ?_ <;> conv => whnf) | fail)
      refine .inl ⟨by simp, S, by omega, v, m, x, ra, rc, ps, rL, ?_, hS⟩
      have hb := (cl (F' := _ :: _ :: _ :: _ :: _ :: _ :: F) hL hB).sub (F' := _ :: _ :: _ :: _ :: _ :: F) (.cons_cons _ (.cons _ (.refl _)))
      exact hb.perm ((List.perm_append_comm (l₁ := [_]) (l₂ := [_, _])).append_right _)
  · repeat (first | (refine RunH ?_; intro w hL hB; try clear w) | (refine Both.mk ?_ ?_ <;> conv => whnf) | fail)
    refine (popen_fn (pv := ptr v) (px := ptr x) hn hnm (hone) ((cl (F' := _ :: _ :: _ :: _ :: _ :: _ :: F) hL hB).sub (.cons_cons _ (.cons _ (.cons _ (.cons _ (.cons _ (.cons _ (.refl _)))))))) ⟨rfl, rfl⟩).mono fun r w h => ?_
    clear cl hL hB
    have h := fin (by omega) h
    rcases h with ⟨hr, S', h1, h2⟩ | ⟨hr, h1⟩
    · subst hr
      conv => whnf
      repeat (first | (refine RunH ?_; intro w hL hB; try clear w) | (refine Both.mk ?_ ?_ <;> conv => whnf) | fail)
      exact .inl ⟨rfl, S', h1, h2⟩
    · subst hr
      conv => whnf
      repeat (first | (refine RunH ?_; intro w hL hB; try clear w) | (refine Both.mk ?_ ?_ <;> conv => whnf) | fail)
      exact .inr ⟨rfl, h1⟩
end Go.Proofs.YtpkealgeigpjpaaGreatDoor
namespace Go.Proofs.YtpkealgeigpjpaaGreatDoor
open Go.RowKit Go.Lib
open Go.Maps (Keyed)
set_option linter.unusedVariables false
set_option linter.unusedSimpArgs false
set_option maxRecDepth 100000
def rdP (B : Nat) (w0 : World) (F : List Res) (l : List UInt8) (K : World → List Res → Prop) (r : Value) (w' : World) : Prop := ∃ (fa : Option Addr) (fc e : Nat), r = .tuple #[.slice fa l.length fc, .int .i64 (e : Nat)] ∧ K w' (.row 5 1 (.slice fa l.length fc) l.length (bv l) :: F)
theorem readD_fn {B b room : Nat} {S : List Fl} {F : List Res} (nm : ByteArray) (hnm : nm.size ≤ 1000000) {w0 w : World} (hD : DkS B w0 w b room S F) :
    Fn Tryz.prog 55 #[ptr b, .string nm] w fun r w' => rdP B w0 F (datS S nm) (fun w' L => DkS B w0 w' b room S L) r w' := by
  refine (read_fn nm hnm hD).mono fun r w hD0 => ?_
  unfold datS
  cases hg : getS S nm with
  | none =>
    rw [hg] at hD0
    obtain ⟨hr, hD⟩ := hD0
    obtain ⟨dL, hL, hB, close⟩ := hD.open
    exact ⟨none, 0, 7, hr, close (F' := _ :: F) (hL.nilRow 5 1) hB⟩
  | some f =>
    rw [hg] at hD0
    obtain ⟨u, hr, hD⟩ := hD0
    obtain ⟨dL, hL, hB, close⟩ := hD.open
    obtain ⟨ua, uc, rfl⟩ := (show SlN w 1 u _ _ from hL.rowN (i := 0) rfl).shape
    exact ⟨ua, uc, 0, hr, close (F' := _ :: F) hL hB⟩
theorem readRD_fn {B b room : Nat} {S : List Fl} {F : List Res} (nm : ByteArray) {w0 w : World} (hD : RkS B w0 w b room S F) :
    Fn Tryz.prog 56 #[ptr b, .string nm] w fun r w' => rdP B w0 F (datS S nm) (fun w' L => RkS B w0 w' b room S L) r w' := by
  refine (readR4_fn nm hD).mono fun r w hD0 => ?_
  unfold datS
  cases hg : getS S nm with
  | none =>
    rw [hg] at hD0
    obtain ⟨hr, hD⟩ := hD0
    obtain ⟨dL, hL, hB, close⟩ := hD.open
    exact ⟨none, 0, 7, hr, close (F' := _ :: F) (hL.nilRow 5 1) hB⟩
  | some f =>
    rw [hg] at hD0
    obtain ⟨u, hr, hD⟩ := hD0
    obtain ⟨dL, hL, hB, close⟩ := hD.open
    obtain ⟨ua, uc, rfl⟩ := (show SlN w 1 u _ _ from hL.rowN (i := 0) rfl).shape
    exact ⟨ua, uc, 0, hr, close (F' := _ :: F) hL hB⟩
theorem permN {α : Type} (n v m p a b x r : α) (X F : List α) : (n :: (X ++ (v :: m :: p :: a :: b :: x :: r :: F))).Perm (p :: n :: a :: v :: m :: b :: x :: r :: (X ++ F)) := by
  classical exact List.perm_iff_count.2 fun a => by simp only [List.count_append, List.count_cons]; omega
theorem permM {α : Type} (n2 x r p n1 a v m b : α) (X Y F : List α) : (n2 :: (Y ++ (x :: r :: p :: n1 :: a :: v :: m :: b :: (X ++ F)))).Perm (n1 :: n2 :: p :: a :: b :: v :: m :: x :: r :: (X ++ (Y ++ F))) := by
  classical exact List.perm_iff_count.2 fun a => by simp only [List.count_append, List.count_cons]; omega
set_option maxHeartbeats 16000000 in
theorem pstood_fn {w0 w : World} {d k room id p : Nat} {nm : ByteArray} {S : List Fl} {F : List Res} (hn : NameIn w0.heap.size w0 id nm) (hnm : vnmG id = nm) (hsz : szS S nm ≤ 20000000) (hP : Pr w0.heap.size w0 w d k room id nm p S F) :
    Fn Tryz.prog 14 #[ptr p] w fun r w' => r = .bool true ∧ Pr w0.heap.size w0 w' d k room id nm p S F := by
  obtain ⟨v, m, x, ra, rc, ps, rL, hb, hS⟩ := hP
  have hid := hn.1.1
  have hns := vnmG_size hid
  rw [hnm] at hns
  have hn6 : nm.size ≤ 1000000 := by omega
  have hname := nameR_fn id hid
  rw [hnm] at hname
  have hpl := pl_le hS
  have hlL := hS.lenL
  have hsP := hS.sumP
  have hnd := hS.rel.nd
  have heq := plsR_eq hS.rel
  have hsum := sumN_pls hnd
  have hpo : ∀ q ∈ plsOf ps, q ∈ ps := fun q hq => by
    rw [plsOf] at hq
    obtain ⟨t, ht, rfl⟩ := List.mem_map.1 hq
    obtain ⟨o, ho, hok, hg⟩ := getP_some' (sortedK_mem.1 ht)
    rw [hg]; exact ho
  have hpc : ∀ q ∈ plsOf ps, PcOk q := fun q hq => by
    have h := hS.okP q (hpo q hq)
    exact ⟨h.1, by omega, by omega, h.2.1⟩
  have hpn : (plsOf ps).length = ps.length := by rw [plsOf, List.length_map, sortedK_len]
  replace hb := hb.perm (F' := .blk p [ptr d, ptr k, ptr v, ptr x, .int .i64 (id : Int)] 36 :: .blk v (volC d id nm m) 70 :: .mp 45 m (ps.map pcE) :: rvRes x k id ra rc rL F) ((List.perm_append_comm (l₁ := [_, _]) (l₂ := [_])).append_right _)
  rw [rvRes] at hb
  obtain ⟨G, hL, hB, cl⟩ := hb.sep
  clear hb
  refine Fn.mk Tryz.func14 rfl (by kernel_rfl) Tryz.ntmps14 rfl (by rw [Tryz.results14]) ?_
  repeat (first | (refine RunH ?_; intro w hL hB; try clear w) | (refine Both.mk ?_ ?_ <;> conv => whnf) | fail)
  obtain ⟨dR, hD, back⟩ := ((cl (F' := _ :: _ :: _ :: _ :: _ :: F) hL hB).perm ((List.perm_append_comm (l₁ := [_]) (l₂ := [_, _])).append_right _)).dk
  refine (vplaces_fn hnd hS.okP (by omega) hD).mono fun r w hD => ?_
  clear cl hL hB
  obtain ⟨G, hL, hB, cl⟩ := ((back (F' := _ :: _ :: _ :: _ :: _ :: _ :: F) hD).perm ((List.perm_append_comm (l₁ := [_, _, _]) (l₂ := [_])).append_right _)).sep
  clear hD back
  rw [← hpn] at hL
  obtain ⟨a1, c1, rfl⟩ := (show SlN w 5 r _ _ from hL.rowN (i := 1) rfl).shape
  conv => whnf
  repeat (first | (refine RunH ?_; intro w hL hB; try clear w) | (refine Both.mk ?_ ?_ <;> conv => whnf) | fail)
  refine (rplaces_fn (by omega) (show Sep Tryz.prog w0.heap.size w0 w (rvRes x k id ra rc rL _) from hL.perm ((List.perm_append_comm (l₁ := [_, _, _, _]) (l₂ := [_, _])).append_right _)) hB).mono fun r w ⟨hL, hB⟩ => ?_
  rw [heq] at hL
  replace hL := hL.perm ((List.perm_append_comm (l₁ := [_, _, _]) (l₂ := [_, _, _, _])).append_right _)
  obtain ⟨a2, c2, rfl⟩ := (show SlN w 5 r _ _ from hL.rowN (i := 4) rfl).shape
  conv => whnf
  repeat (first | (refine RunH ?_; intro w hL hB; try clear w) | (refine Both.mk ?_ ?_ <;> conv => whnf) | fail)
  obtain ⟨dR, hD, back⟩ := ((cl (F' := _ :: _ :: _ :: _ :: _ :: _ :: _ :: F) hL hB).perm ((List.perm_append_comm (l₁ := [_, _]) (l₂ := [_, _])).append_right _)).dk
  refine (vneedles_fn hn6 hnd hS.okP (by omega) hD).mono fun r w ⟨ns, hns1, hns2, hD⟩ => ?_
  clear cl hL hB
  obtain ⟨G, hL, hB, cl⟩ := ((back (F' := _ :: (ns.map Nv.res ++ (_ :: _ :: _ :: _ :: _ :: _ :: _ :: F))) (by simpa using hD)).perm (permN _ _ _ _ _ _ _ _ _ _)).sep
  clear hD back
  rw [volC] at hL
  obtain ⟨a3, c3, rfl⟩ := (show SlN w 4 r _ _ from hL.rowN (i := 1) rfl).shape
  conv => whnf
  repeat (first | (refine RunH ?_; intro w hL hB; try clear w) | (refine Both.mk ?_ ?_ <;> conv => whnf) | fail)
  obtain ⟨dR, hD, back⟩ := ((cl (F' := _ :: _ :: _ :: _ :: _ :: _ :: _ :: _ :: (ns.map Nv.res ++ F)) hL hB).perm ((List.perm_append_comm (l₁ := [_, _, _, _, _, _]) (l₂ := [_, _])).append_right _)).rk
  refine (rneedles_fn hid hnm (by omega) (by rw [heq]; exact fun q hq => hS.okP q (hpo q hq)) hD).mono fun r w ⟨ms, hms1, hms2, hD⟩ => ?_
  rw [heq] at hms1
  clear cl hL hB
  rw [rvRes] at hD
  obtain ⟨G, hL, hB, cl⟩ := ((back (F' := _ :: (ms.map Nv.res ++ (_ :: _ :: _ :: _ :: _ :: _ :: _ :: _ :: (ns.map Nv.res ++ F)))) (by simpa using hD)).perm (permM _ _ _ _ _ _ _ _ _ _ _ _)).sep
  clear hD back
  obtain ⟨a4, c4, rfl⟩ := (show SlN w 4 r _ _ from hL.rowN (i := 1) rfl).shape
  have hnm2 : ns.map Nv.inf = ms.map Nv.inf := hns1.trans hms1.symm
  have hnl : ms.length = ns.length := by have := congrArg List.length hnm2; simpa using this.symm
  rw [hnl] at hL ⊢
  have hdl : ∀ q ∈ ns, q.d.length ≤ 2147483648 := fun q hq => by
    have h1 : q.inf ∈ goodN (datS S nm) (plsOf ps) := by rw [← hns1]; exact List.mem_map_of_mem hq
    rw [goodN] at h1
    obtain ⟨t, ht, he⟩ := List.mem_map.1 h1
    have h2 := hS.okP t (hpo t (List.mem_filter.1 ht).1)
    have h3 : q.d = dData (rec (datS S nm) t) := (congrArg Prod.snd he).symm
    have h4 : (dData (rec (datS S nm) t)).length ≤ (rec (datS S nm) t).length := by simp [dData, Go.Proofs.YtpkealgeigpjpaaGreatDoor.win]; omega
    have h5 : (rec (datS S nm) t).length ≤ t.n := by simp [rec, Go.Proofs.YtpkealgeigpjpaaGreatDoor.win]; omega
    rw [h3]; omega
  clear hns1 hms1
  conv => whnf
  repeat (first | (refine RunK ?_; intro w hL hB; try clear w) | (refine V.tree ttOk (fun x0 => Sep Tryz.prog _ w0 x0 [.blk p [ptr d, ptr k, ptr v, ptr x, .int .i64 (id : Int)] 36]) (.q 0 (.q 1 (.alt 2 (.q 3 (.q 4 (.q 5 (.q 6 (.q 7 (.q 8 (.q 9 (.q 10 (.q 11 (.q 12 (.q 13 (.q 14 (.q 15 (.q 17 (.q 18 (.q 19 (.q 20 (.alt 16 (.alt 21 (.q 22 (.q 23 (.q 24 (.q 25 (.q 26 (.q 27 (.q 28 (.q 30 (.q 31 (.q 32 (.q 33 (.alt 29 (.alt 34 (.q 35 (.q 36 .nil)) .stop) .stop)))))))))))) .stop) .stop)))))))))))))))))) .stop))) mixed (by decide +kernel) (hL.drew.one (i := 2) rfl) ?_; replace hL := hL.drew; conv => whnf) | (refine V.tailA ttOk mixed (by decide +kernel) ?_; replace hL := hL.drew; conv => whnf) | (refine Both.mk ?_ ?_ <;> conv => whnf) | fail)
  refine (placesSame_fn _ _ (plsOf ps) _ hpc (hL.rowN (i := 3) rfl) (hL.rowN (i := 4) rfl)).mono fun r w ⟨hr, hw⟩ => ?_
  subst hr
  replace hL := hL.call hB (Turns.of_below hw)
  replace hB := Nat.le_trans hB hw.size
  conv => whnf
  refine ⟨hL.one (i := 2) rfl, ?_⟩
  conv => whnf
  repeat (first | (refine RunH ?_; intro w hL hB; try clear w) | (refine Both.mk ?_ ?_ <;> conv => whnf) | fail)
  obtain ⟨dR, hD, back⟩ := ((cl (F' := _ :: _ :: _ :: _ :: _ :: _ :: _ :: _ :: _ :: (ns.map Nv.res ++ (ms.map Nv.res ++ F))) hL hB).perm ((List.perm_append_comm (l₁ := [_, _, _, _, _]) (l₂ := [_, _])).append_right _)).dk
  refine (vsize_fn hn6 hD).mono fun r w ⟨hr, hD⟩ => ?_
  subst hr
  clear cl hL hB
  obtain ⟨G, hL, hB, cl⟩ := ((back (F' := _ :: _ :: _ :: _ :: _ :: _ :: _ :: _ :: _ :: (ns.map Nv.res ++ (ms.map Nv.res ++ F))) hD).perm ((List.perm_append_comm (l₁ := [_, _]) (l₂ := [_, _, _, _, _])).append_right _)).sep
  clear hD back
  rw [volC] at hL
  conv => whnf
  refine ⟨hL.one (i := 2) rfl, ?_⟩
  conv => whnf
  repeat (first | (refine RunH ?_; intro w hL hB; try clear w) | (refine Both.mk ?_ ?_ <;> conv => whnf) | fail)
  obtain ⟨dR, hD, back⟩ := ((cl (F' := _ :: _ :: _ :: _ :: _ :: _ :: _ :: _ :: _ :: (ns.map Nv.res ++ (ms.map Nv.res ++ F))) hL hB).perm ((List.perm_append_comm (l₁ := [_, _, _, _, _, _, _]) (l₂ := [_, _])).append_right _)).rk
  refine (rsize_fn hid hnm hD).mono fun r w ⟨hr, hD⟩ => ?_
  subst hr
  clear cl hL hB
  obtain ⟨G, hL, hB, cl⟩ := ((back (F' := _ :: _ :: _ :: _ :: _ :: _ :: _ :: _ :: _ :: (ns.map Nv.res ++ (ms.map Nv.res ++ F))) hD).perm ((List.perm_append_comm (l₁ := [_, _]) (l₂ := [_, _, _, _, _, _, _])).append_right _)).sep
  clear hD back
  conv => whnf
  refine ⟨hL.one (i := 2) rfl, ?_⟩
  conv => whnf
  repeat (first | (refine RunH ?_; intro w hL hB; try clear w) | (refine Both.mk ?_ ?_ <;> conv => whnf) | fail)
  obtain ⟨dR, hD, back⟩ := ((cl (F' := _ :: _ :: _ :: _ :: _ :: _ :: _ :: _ :: _ :: (ns.map Nv.res ++ (ms.map Nv.res ++ F))) hL hB).perm ((List.perm_append_comm (l₁ := [_, _, _, _, _]) (l₂ := [_, _])).append_right _)).dk
  refine (vdirt_fn hn6 hnd (by omega) hD).mono fun r w ⟨hr, hD⟩ => ?_
  subst hr
  clear cl hL hB
  obtain ⟨G, hL, hB, cl⟩ := ((back (F' := _ :: _ :: _ :: _ :: _ :: _ :: _ :: _ :: _ :: (ns.map Nv.res ++ (ms.map Nv.res ++ F))) hD).perm ((List.perm_append_comm (l₁ := [_, _]) (l₂ := [_, _, _, _, _])).append_right _)).sep
  clear hD back
  rw [volC] at hL
  conv => whnf
  refine ⟨hL.one (i := 2) rfl, ?_⟩
  conv => whnf
  repeat (first | (refine RunH ?_; intro w hL hB; try clear w) | (refine Both.mk ?_ ?_ <;> conv => whnf) | fail)
  obtain ⟨dR, hD, back⟩ := ((cl (F' := _ :: _ :: _ :: _ :: _ :: _ :: _ :: _ :: _ :: (ns.map Nv.res ++ (ms.map Nv.res ++ F))) hL hB).perm ((List.perm_append_comm (l₁ := [_, _, _, _, _, _, _]) (l₂ := [_, _])).append_right _)).rk
  refine (rdirt_fn hid hnm (by omega) (by rw [heq, hsum]; omega) hD).mono fun r w ⟨hr, hD⟩ => ?_
  subst hr
  rw [heq, hsum]
  clear cl hL hB
  obtain ⟨G, hL, hB, cl⟩ := ((back (F' := _ :: _ :: _ :: _ :: _ :: _ :: _ :: _ :: _ :: (ns.map Nv.res ++ (ms.map Nv.res ++ F))) hD).perm ((List.perm_append_comm (l₁ := [_, _]) (l₂ := [_, _, _, _, _, _, _])).append_right _)).sep
  clear hD back
  conv => whnf
  refine ⟨hL.one (i := 2) rfl, ?_⟩
  conv => whnf
  repeat (first | (refine RunH ?_; intro w hL hB; try clear w) | (refine Both.mk ?_ ?_ <;> conv => whnf) | fail)
  refine V.loop (α := Nat) (fun i => [(0, ptr p), (3, .slice a1 (plsOf ps).length c1), (5, .slice a3 ns.length c3), (6, .slice a4 ns.length c4), (7, .int .i64 (i : Int))])
    (fun i w' => i ≤ ns.length ∧ w0.heap.size ≤ w'.heap.size ∧ Sep Tryz.prog w0.heap.size w0 w' (.row 49 4 (.slice a3 ns.length c3) ns.length (ns.flatMap Nv.cells) :: .row 49 4 (.slice a4 ns.length c4) ns.length (ms.flatMap Nv.cells) :: .blk p [ptr d, ptr k, ptr v, ptr x, .int .i64 (id : Int)] 36 :: .row 97 5 (.slice a1 (plsOf ps).length c1) (plsOf ps).length ((plsOf ps).flatMap pcC) :: .row 97 5 (.slice a2 (plsOf ps).length c2) (plsOf ps).length ((plsOf ps).flatMap pcC) :: .blk v [ptr d, .int .i64 (id : Int), .string nm, .map (some m)] 70 :: .mp 45 m (ps.map pcE) :: .blk x [ptr k, .int .i64 (id : Int), .slice ra rL.length rc] 80 :: .row 97 5 (.slice ra rL.length rc) rL.length (rL.flatMap pcC) :: (((ns.drop i).map Nv.res ++ (ms.map Nv.res ++ F)) ++ G))) (fun i => ns.length - i) 0 ⟨rfl, rfl, rfl, rfl, rfl, trivial⟩ ⟨Nat.zero_le _, hB, by simpa using hL⟩ ?_
  clear hL hB
  rintro i w ⟨hi, hB, hL⟩
  by_cases hil : i < ns.length
  · have hg1 := List.getElem?_eq_getElem hil
    have hil2 : i < ms.length := by omega
    have hg2 := List.getElem?_eq_getElem hil2
    have hinf : (ns[i]).inf = (ms[i]).inf := by
      have h1 : (ns.map Nv.inf)[i]? = some (ns[i]).inf := by rw [List.getElem?_map, hg1]; rfl
      have h2 : (ms.map Nv.inf)[i]? = some (ms[i]).inf := by rw [List.getElem?_map, hg2]; rfl
      rw [hnm2, h2] at h1
      injection h1 with h1
      exact h1.symm
    have hmm := List.getElem_mem hil2
    have hqd := hdl _ (List.getElem_mem hil)
    have hdr : ns.drop i = ns[i] :: ns.drop (i + 1) := List.drop_eq_getElem_cons hil
    rw [hdr, List.map_cons, List.cons_append, List.cons_append] at hL
    generalize ms[i] = q2 at *
    generalize ns[i] = q1 at *
    obtain ⟨qp, qd, qu⟩ := q1
    obtain ⟨qp2, qd2, qu2⟩ := q2
    simp only [Nv.inf, Prod.mk.injEq] at hinf
    obtain ⟨rfl, rfl⟩ := hinf
    obtain ⟨ea, ec, rfl⟩ := RowC.shape (show RowC w 5 qu qd.length (bv qd) from hL.at (i := 9) rfl)
    have hex := (show RowC w 5 qu2 qd.length (bv qd) from hL.hold (Nv.res ⟨qp, qd, qu2⟩) (by simp only [List.mem_cons, List.mem_append, List.mem_map]; exact .inr (.inr (.inr (.inr (.inr (.inr (.inr (.inr (.inr (.inr (.inl (.inr (.inl ⟨_, hmm, rfl⟩)))))))))))))).shape
    obtain ⟨ea2, ec2, rfl⟩ := hex
    dsimp only at hqd
    have hex : ∀ {w : World}, Sep Tryz.prog w0.heap.size w0 w (.row 49 4 (.slice a3 ns.length c3) ns.length (ns.flatMap Nv.cells) :: .row 49 4 (.slice a4 ns.length c4) ns.length (ms.flatMap Nv.cells) :: .blk p [ptr d, ptr k, ptr v, ptr x, .int .i64 (id : Int)] 36 :: .row 97 5 (.slice a1 (plsOf ps).length c1) (plsOf ps).length ((plsOf ps).flatMap pcC) :: .row 97 5 (.slice a2 (plsOf ps).length c2) (plsOf ps).length ((plsOf ps).flatMap pcC) :: .blk v [ptr d, .int .i64 (id : Int), .string nm, .map (some m)] 70 :: .mp 45 m (ps.map pcE) :: .blk x [ptr k, .int .i64 (id : Int), .slice ra rL.length rc] 80 :: .row 97 5 (.slice ra rL.length rc) rL.length (rL.flatMap pcC) :: (Nv.res ⟨qp, qd, .slice ea qd.length ec⟩ :: (((ns.drop (i + 1)).map Nv.res ++ (ms.map Nv.res ++ F)) ++ G))) → Sl w (.slice ea2 qd.length ec2) (bv qd) := fun h => RowC.sl (show RowC _ 5 (.slice ea2 qd.length ec2) qd.length (bv qd) from h.hold (Nv.res ⟨qp, qd, _⟩) (by simp only [List.mem_cons, List.mem_append, List.mem_map]; exact .inr (.inr (.inr (.inr (.inr (.inr (.inr (.inr (.inr (.inr (.inl (.inr (.inl ⟨_, hmm, rfl⟩))))))))))))))
    obtain ⟨b3, o3, rfl, _⟩ := SlN.addr (show SlN w 4 (.slice a3 ns.length c3) ns.length _ from hL.rowN (i := 0) rfl) (by omega)
    obtain ⟨b4, o4, rfl, _⟩ := SlN.addr (show SlN w 4 (.slice a4 ns.length c4) ns.length _ from hL.rowN (i := 1) rfl) (by omega)
    repeat (first | (refine RunK ?_; intro w hL hB; try clear w) | (refine V.tree ttOk (fun x0 => Sep Tryz.prog _ w0 x0 (.row 49 4 (.slice (some ⟨b3, o3, none⟩) ns.length c3) ns.length (ns.flatMap Nv.cells) :: .row 49 4 (.slice (some ⟨b4, o4, none⟩) ns.length c4) ns.length (ms.flatMap Nv.cells) :: [])) (.q 0 (.q 1 (.q 2 (.q 3 (.q 4 (.q 5 (.q 6 (.q 7 (.q 8 (.q 9 (.q 10 (.q 11 (.q 12 (.q 13 (.q 14 (.q 15 (.q 16 (.q 17 (.q 18 (.q 19 (.q 20 (.q 21 (.q 22 (.q 23 (.q 24 (.q 25 (.q 26 (.q 27 (.q 28 (.q 29 (.q 30 (.q 31 (.q 32 (.q 33 (.q 34 (.q 35 (.q 36 (.q 37 (.q 38 (.q 39 (.q 40 (.q 41 (.q 42 (.q 43 (.q 44 (.q 45 (.q 46 (.q 47 (.alt 48 (.q 49 (.q 50 .nil)) .stop))))))))))))))))))))))))))))))))))))))))))))))))) mixed (by decide +kernel) (hL.drew.sub (.cons_cons _ (.cons_cons _ (List.nil_sublist _)))) ?_; replace hL := hL.drew; conv => whnf) | (refine V.tailA ttOk mixed (by decide +kernel) ?_; replace hL := hL.drew; conv => whnf) | (refine Both.mk ?_ ?_ <;> conv => whnf) | fail)
    intro p1 hp1
    conv => whnf
    repeat (first | (refine RunH ?_; intro w hL hB; try clear w) | (refine Both.mk ?_ ?_ <;> conv => whnf) | fail)
    refine Lq.of_class (fun x0 hx0 => Ld.rowF ttOk Nv.cells_len 0 (hx0.rowN (i := 0) rfl).rowOf tl45 rfl hg1 rfl (by omega) rfl) ?_
    conv => whnf
    repeat (first | (refine RunH ?_; intro w hL hB; try clear w) | (refine Both.mk ?_ ?_ <;> conv => whnf) | fail)
    intro p2 hp2
    conv => whnf
    repeat (first | (refine RunH ?_; intro w hL hB; try clear w) | (refine Both.mk ?_ ?_ <;> conv => whnf) | fail)
    refine Lq.of_class (fun x0 hx0 => Ld.rowF ttOk Nv.cells_len 0 (hx0.rowN (i := 1) rfl).rowOf tl45 rfl hg2 rfl (by omega) rfl) ?_
    conv => whnf
    repeat (first | (refine RunH ?_; intro w hL hB; try clear w) | (refine Both.mk ?_ ?_ <;> conv => whnf) | (refine Br.yes (decide_eq_true rfl) ?_; conv => whnf) | (refine Br.yes (by simp) ?_; conv => whnf) | (refine Br.no (by simp) ?_; conv => whnf) | fail)
    intro p3 hp3
    conv => whnf
    repeat (first | (refine RunH ?_; intro w hL hB; try clear w) | (refine Both.mk ?_ ?_ <;> conv => whnf) | fail)
    refine Lq.of_class (fun x0 hx0 => Ld.rowF ttOk Nv.cells_len 1 (hx0.rowN (i := 0) rfl).rowOf tl46 rfl hg1 rfl (by omega) rfl) ?_
    conv => whnf
    repeat (first | (refine RunH ?_; intro w hL hB; try clear w) | (refine Both.mk ?_ ?_ <;> conv => whnf) | fail)
    intro p4 hp4
    conv => whnf
    repeat (first | (refine RunH ?_; intro w hL hB; try clear w) | (refine Both.mk ?_ ?_ <;> conv => whnf) | fail)
    refine Lq.of_class (fun x0 hx0 => Ld.rowF ttOk Nv.cells_len 1 (hx0.rowN (i := 1) rfl).rowOf tl46 rfl hg2 rfl (by omega) rfl) ?_
    conv => whnf
    repeat (first | (refine RunH ?_; intro w hL hB; try clear w) | (refine Both.mk ?_ ?_ <;> conv => whnf) | (refine Br.yes (decide_eq_true rfl) ?_; conv => whnf) | (refine Br.yes (by simp) ?_; conv => whnf) | (refine Br.no (by simp) ?_; conv => whnf) | fail)
    intro p5 hp5
    conv => whnf
    repeat (first | (refine RunH ?_; intro w hL hB; try clear w) | (refine Both.mk ?_ ?_ <;> conv => whnf) | fail)
    refine Lq.of_class (fun x0 hx0 => Ld.rowF ttOk Nv.cells_len 2 (hx0.rowN (i := 0) rfl).rowOf tl4 rfl hg1 rfl (by omega) rfl) ?_
    conv => whnf
    repeat (first | (refine RunH ?_; intro w hL hB; try clear w) | (refine Both.mk ?_ ?_ <;> conv => whnf) | fail)
    intro p6 hp6
    conv => whnf
    repeat (first | (refine RunH ?_; intro w hL hB; try clear w) | (refine Both.mk ?_ ?_ <;> conv => whnf) | fail)
    refine Lq.of_class (fun x0 hx0 => Ld.rowF ttOk Nv.cells_len 2 (hx0.rowN (i := 1) rfl).rowOf tl4 rfl hg2 rfl (by omega) rfl) ?_
    conv => whnf
    repeat (first | (refine RunH ?_; intro w hL hB; try clear w) | (refine Both.mk ?_ ?_ <;> conv => whnf) | (refine Br.yes (decide_eq_true rfl) ?_; conv => whnf) | (refine Br.yes (by simp) ?_; conv => whnf) | (refine Br.no (by simp) ?_; conv => whnf) | fail)
    intro p7 hp7
    conv => whnf
    repeat (first | (refine RunH ?_; intro w hL hB; try clear w) | (refine Both.mk ?_ ?_ <;> conv => whnf) | fail)
    refine Lq.of_class (fun x0 hx0 => Ld.rowF ttOk Nv.cells_len 3 (hx0.rowN (i := 0) rfl).rowOf tl47 rfl hg1 rfl (by omega) rfl) ?_
    conv => whnf
    repeat (first | (refine RunH ?_; intro w hL hB; try clear w) | (refine Both.mk ?_ ?_ <;> conv => whnf) | fail)
    intro p8 hp8
    conv => whnf
    repeat (first | (refine RunH ?_; intro w hL hB; try clear w) | (refine Both.mk ?_ ?_ <;> conv => whnf) | fail)
    refine Lq.of_class (fun x0 hx0 => Ld.rowF ttOk Nv.cells_len 3 (hx0.rowN (i := 1) rfl).rowOf tl47 rfl hg2 rfl (by omega) rfl) ?_
    conv => whnf
    repeat (first | (refine RunH ?_; intro w hL hB; try clear w) | (refine Both.mk ?_ ?_ <;> conv => whnf) | fail)
    refine (same_fn _ _ qd qd _ (RowC.sl (show RowC _ 5 (.slice ea qd.length ec) qd.length (bv qd) from hL.at (i := 9) rfl)) (hex hL)).mono fun r w ⟨hr, hw⟩ => ?_
    subst hr
    replace hL := hL.call hB (Turns.of_below hw)
    replace hB := Nat.le_trans hB hw.size
    rw [decide_eq_true rfl]
    conv => whnf
    refine ⟨hL.sub (.cons_cons _ (.cons_cons _ (List.nil_sublist _))), ?_⟩
    conv => whnf
    repeat (first | (refine RunH ?_; intro w hL hB; try clear w) | (refine Both.mk ?_ ?_ <;> conv => whnf) | fail)
    intro p9 hp9
    conv => whnf
    repeat (first | (refine RunH ?_; intro w hL hB; try clear w) | (refine Both.mk ?_ ?_ <;> conv => whnf) | fail)
    refine Ld.rowF ttOk Nv.cells_len 3 (hL.rowN (i := 0) rfl).rowOf tl47 rfl hg1 rfl (by omega) ?_
    conv => whnf
    repeat (first | (refine RunH ?_; intro w hL hB; try clear w) | (refine Both.mk ?_ ?_ <;> conv => whnf) | fail)
    refine (spoil_fn _ qd hqd (hL.perm (List.perm_middle (l₁ := [_, _, _, _, _, _, _, _, _]))) hB).mono fun r w ⟨hL, hB⟩ => ?_
    conv => whnf
    repeat (first | (refine RunH ?_; intro w hL hB; try clear w) | (refine Both.mk ?_ ?_ <;> conv => whnf) | fail)
    exact ⟨i + 1, ⟨rfl, rfl, rfl, rfl, vint (by push_cast; rfl), trivial⟩, ⟨by omega, hB, hL⟩, (by first | omega | (dsimp only; omega))⟩
  · obtain rfl : i = ns.length := by omega
    rw [List.drop_length, List.map_nil, List.nil_append] at hL
    repeat (first | (refine RunH ?_; intro w hL hB; try clear w) | (refine Both.mk ?_ ?_ <;> conv => whnf) | fail)
    clear hnm2
    have hx0 : ((plsOf ps).flatMap pcC).length = 5 * (plsOf ps).length := pcC_flat _
    refine V.loop (α := Nat) (fun i => [(0, ptr p), (3, .slice a1 (plsOf ps).length c1), (8, .int .i64 (i : Int))])
      (fun i w' => i ≤ (plsOf ps).length ∧ w0.heap.size ≤ w'.heap.size ∧ ∃ xs : List Value, xs.length = 5 * (plsOf ps).length ∧ Sep Tryz.prog w0.heap.size w0 w' (.row 49 4 (.slice a3 ns.length c3) ns.length (ns.flatMap Nv.cells) :: .row 49 4 (.slice a4 ns.length c4) ns.length (ms.flatMap Nv.cells) :: .blk p [ptr d, ptr k, ptr v, ptr x, .int .i64 (id : Int)] 36 :: .row 97 5 (.slice a1 (plsOf ps).length c1) (plsOf ps).length xs :: .row 97 5 (.slice a2 (plsOf ps).length c2) (plsOf ps).length ((plsOf ps).flatMap pcC) :: .blk v [ptr d, .int .i64 (id : Int), .string nm, .map (some m)] 70 :: .mp 45 m (ps.map pcE) :: .blk x [ptr k, .int .i64 (id : Int), .slice ra rL.length rc] 80 :: .row 97 5 (.slice ra rL.length rc) rL.length (rL.flatMap pcC) :: ((ms.map Nv.res ++ F) ++ G))) (fun i => (plsOf ps).length - i) 0 ⟨rfl, rfl, rfl, trivial⟩ ⟨Nat.zero_le _, hB, _, hx0, hL⟩ ?_
    clear hL hB hx0
    rintro i w ⟨hi, hB, xs, hx, hL⟩
    by_cases hil : i < (plsOf ps).length
    · obtain ⟨g, gcap, hsn, hgcap⟩ := own_shape0 (hL.ownR (i := 3) rfl) (by omega)
      injection hsn with e1 e2 e3
      subst e1; subst e3
      repeat (first | (refine RunH ?_; intro w hL hB; try clear w) | (refine Both.mk ?_ ?_ <;> conv => whnf) | fail)
      intro o1 ho1
      conv => whnf
      repeat (first | (refine RunH ?_; intro w hL hB; try clear w) | (refine Both.mk ?_ ?_ <;> conv => whnf) | fail)
      refine St.rowS ttOk hL 3 tl97 rfl rfl rfl (by show o1 + 5 ≤ _; omega) hB fun w hL hB => ?_
      dsimp only [List.set] at hL
      conv => whnf
      repeat (first | (refine RunH ?_; intro w hL hB; try clear w) | (refine Both.mk ?_ ?_ <;> conv => whnf) | fail)
      refine ⟨i + 1, ⟨rfl, rfl, vint (by push_cast; rfl), trivial⟩, ⟨by omega, hB, _, ?_, hL⟩, (by first | omega | (dsimp only; omega))⟩
      rw [splice_eq _ _ _ (by show o1 + 5 ≤ _; omega)]
      rw [List.length_append, List.length_append, List.length_take, List.length_drop]
      show min o1 xs.length + 5 + (xs.length - (o1 + 5)) = _
      omega
    · repeat (first | (refine RunK ?_; intro w hL hB; try clear w) | (refine V.tree ttOk (fun x0 => Sep Tryz.prog _ w0 x0 [.blk p [ptr d, ptr k, ptr v, ptr x, .int .i64 (id : Int)] 36]) (.q 0 (.q 1 (.q 2 (.q 3 (.q 4 (.q 5 (.q 6 (.q 7 (.alt 8 (.alt 9 (.q 10 (.q 11 (.q 12 (.q 13 (.q 14 .nil))))) .stop) .stop))))))))) mixed (by decide +kernel) (hL.drew.one (i := 2) rfl) ?_; replace hL := hL.drew; conv => whnf) | (refine V.tailA ttOk mixed (by decide +kernel) ?_; replace hL := hL.drew; conv => whnf) | (refine Both.mk ?_ ?_ <;> conv => whnf) | fail)
      refine (hname _).mono fun r w ⟨hr, hw⟩ => ?_
      subst hr
      replace hL := hL.call hB (Turns.of_below hw)
      replace hB := Nat.le_trans hB hw.size
      conv => whnf
      refine ⟨hL.one (i := 2) rfl, ?_⟩
      conv => whnf
      repeat (first | (refine RunH ?_; intro w hL hB; try clear w) | (refine Both.mk ?_ ?_ <;> conv => whnf) | fail)
      obtain ⟨dR, hD, back⟩ := (cl (F' := _ :: _ :: _ :: _ :: _ :: _ :: _ :: _ :: _ :: (ms.map Nv.res ++ F)) hL hB).dk
      refine (readD_fn nm hn6 hD).mono fun r w ⟨fa, fc, e, hr, hD⟩ => ?_
      clear cl hL hB
      subst hr
      obtain ⟨G, hL, hB, cl⟩ := (back (F' := _ :: _ :: _ :: _ :: _ :: _ :: _ :: _ :: _ :: _ :: (ms.map Nv.res ++ F)) hD).sep
      clear hD back
      conv => whnf
      refine ⟨hL.one (i := 3) rfl, ?_⟩
      conv => whnf
      repeat (first | (refine RunK ?_; intro w hL hB; try clear w) | (refine V.tree ttOk (fun x0 => Sep Tryz.prog _ w0 x0 [.blk p [ptr d, ptr k, ptr v, ptr x, .int .i64 (id : Int)] 36]) (.q 0 (.q 1 (.q 2 (.q 3 (.q 4 (.q 5 (.q 6 (.q 7 (.alt 8 (.alt 9 (.q 10 (.q 11 (.q 12 (.q 13 (.q 14 .nil))))) .stop) .stop))))))))) mixed (by decide +kernel) (hL.drew.one (i := 3) rfl) ?_; replace hL := hL.drew; conv => whnf) | (refine V.tailA ttOk mixed (by decide +kernel) ?_; replace hL := hL.drew; conv => whnf) | (refine Both.mk ?_ ?_ <;> conv => whnf) | fail)
      refine (hname _).mono fun r w ⟨hr, hw⟩ => ?_
      subst hr
      replace hL := hL.call hB (Turns.of_below hw)
      replace hB := Nat.le_trans hB hw.size
      conv => whnf
      refine ⟨hL.one (i := 3) rfl, ?_⟩
      conv => whnf
      repeat (first | (refine RunH ?_; intro w hL hB; try clear w) | (refine Both.mk ?_ ?_ <;> conv => whnf) | fail)
      obtain ⟨dD, hD, back⟩ := (cl (F' := _ :: _ :: _ :: _ :: _ :: _ :: _ :: _ :: _ :: _ :: (ms.map Nv.res ++ F)) hL hB).rk
      refine (readRD_fn nm hD).mono fun r w ⟨ga, gc, e2, hr, hD⟩ => ?_
      clear cl hL hB
      subst hr
      obtain ⟨G, hL, hB, cl⟩ := (back (F' := _ :: _ :: _ :: _ :: _ :: _ :: _ :: _ :: _ :: _ :: _ :: (ms.map Nv.res ++ F)) hD).sep
      clear hD back
      conv => whnf
      refine ⟨hL.one (i := 4) rfl, ?_⟩
      conv => whnf
      repeat (first | (refine RunH ?_; intro w hL hB; try clear w) | (refine Both.mk ?_ ?_ <;> conv => whnf) | fail)
      refine (same_fn _ _ (datS S nm) (datS S nm) _ (hL.row (i := 1) rfl) (hL.row (i := 0) rfl)).mono fun r w ⟨hr, hw⟩ => ?_
      subst hr
      replace hL := hL.call hB (Turns.of_below hw)
      replace hB := Nat.le_trans hB hw.size
      rw [decide_eq_true rfl]
      conv => whnf
      repeat (first | (refine RunH ?_; intro w hL hB; try clear w) | (refine Both.mk ?_ ?_ <;> conv => whnf) | fail)
      refine ⟨rfl, v, m, x, ra, rc, ps, rL, ?_, hS⟩
      have hb := (cl (F' := _ :: _ :: _ :: _ :: _ :: _ :: _ :: _ :: _ :: _ :: _ :: (ms.map Nv.res ++ F)) hL hB).sub (F' := _ :: _ :: _ :: _ :: _ :: F) (.cons _ (.cons _ (.cons _ (.cons _ (.cons_cons _ (.cons _ (.cons _ (.cons_cons _ (.cons_cons _ (.cons_cons _ (.cons_cons _ (List.sublist_append_right _ _))))))))))))
      exact hb.perm ((List.perm_append_comm (l₁ := [_]) (l₂ := [_, _])).append_right _)
end Go.Proofs.YtpkealgeigpjpaaGreatDoor
