/- keep's reference: Save, Load. Nothing is claimed here. -/
import Derived.Test.YtjgiailgidbkmaaJa
import Derived.Test.YtjgiailgidbkmaaWr
import Derived.Test.YtjgiailgidbkmaaTj
namespace Go.Proofs.Ytjgiailgidbkmaa
open Go.RowKit
open Go.Maps (Keyed)
set_option linter.unusedVariables false
set_option linter.unusedSimpArgs false
set_option maxRecDepth 100000

theorem NdS.put {S : List Fl} (h : NdS S) (g : Fl) : NdS (putS S g) := by
  refine NdS.perm (S := g :: delS S g.nm) ?_ (putS_perm0 S g)
  show (g.nm :: (delS S g.nm).map (·.nm)).Nodup
  refine List.nodup_cons.2 ⟨fun hm => ?_, h.del g.nm⟩
  obtain ⟨f, hf, he⟩ := List.mem_map.1 hm
  rw [delS_filter h] at hf
  have := (List.mem_filter.1 hf).2
  simp at this
  exact this he
theorem NdS.app {S : List Fl} (h : NdS S) (room : Nat) (nm : ByteArray) (xs : List UInt8) : NdS (appS room S nm xs) := by
  rw [appS]; split
  · exact h.put _
  · exact h
theorem NdS.sync {S : List Fl} (h : NdS S) (nm : ByteArray) : NdS (syncS S nm) := by
  rw [syncS]; split
  · exact h.put _
  · exact h
theorem NdS.ren {S : List Fl} (h : NdS S) (a z : ByteArray) : NdS (renS S a z) := by
  rw [renS]; split
  · split
    · exact h
    · exact (h.del a).put _
  · exact h
theorem RkS.nd {B : Nat} {w0 w : World} {b room : Nat} {R : List Fl} {F : List Res} (h : RkS B w0 w b room R F) : NdS R := by
  obtain ⟨L, fs, rfl, hok, _⟩ := h.of
  have := hok.ok.nd
  rw [NdS, List.map_map]; exact this
theorem saveE_perm {S R : List Fl} (h : NdS S) (hp : R.Perm S) (room : Nat) (nm : ByteArray) (n : Nat) : saveE room R nm n = saveE room S nm n := by
  rw [saveE, saveE, appE_perm (h.del _) (delS_perm h hp _)]
theorem saveS_perm {S R : List Fl} (h : NdS S) (hp : R.Perm S) (room : Nat) (nm : ByteArray) (xs : List UInt8) : (saveS room R nm xs).Perm (saveS room S nm xs) := by
  have hd := delS_perm h hp (shd nm)
  rw [saveS, saveS, appE_perm (h.del _) hd]
  split
  · exact hp
  · split
    · exact renS_perm (((h.del _).app room _ _).sync _) (syncS_perm ((h.del _).app room _ _) (appS_perm (h.del _) hd room _ _) _) _ _
    · exact delS_perm (h.del _) hd _
theorem loadE_perm {S R : List Fl} (h : NdS S) (hp : R.Perm S) (nm : ByteArray) : loadE R nm = loadE S nm := by rw [loadE, loadE, getS_perm h hp]
theorem loadP_perm {S R : List Fl} (h : NdS S) (hp : R.Perm S) (nm : ByteArray) : loadP R nm = loadP S nm := by rw [loadP, loadP, getS_perm h hp]

set_option maxHeartbeats 4000000 in
theorem saveR9_fn {B b room : Nat} {R : List Fl} {F : List Res} (nm : ByteArray) (hnm : nm.size ≤ 1000000) (p : Value) (xs : List UInt8) (hx : xs.length ≤ 1048576) {w0 w : World} (hp : ∀ w', Sep Try.prog B w0 w' F → Sl w' p (bv xs)) (hD : RkS B w0 w b room R F) :
    Fn Try.prog 33 #[ptr b, .string nm, p] w fun r w' => r = .int .i64 (saveE room R nm xs.length : Nat) ∧ ∃ R', R'.Perm (saveS room R nm xs) ∧ RkS B w0 w' b room R' F := by
  have hp0 := hp w (hD.rest)
  have hnd := hD.nd
  obtain ⟨pa, pc, rfl⟩ := hp0.shape
  simp only [bv_length] at *
  obtain ⟨dL, hL, hB, close⟩ := hD.open
  clear hD
  refine Fn.mk Try.func33 rfl (by kernel_rfl) Try.ntmps33 rfl (by rw [Try.results33]) ?_
  by_cases hok : 1 ≤ nm.size ∧ nm.size ≤ 63
  case neg =>
    have e1 : saveE room R nm xs.length = 1 := if_pos hok
    have e2 : saveS room R nm xs = R := if_pos hok
    rw [e1, e2]
    by_cases h1 : nm.size < 1
    · repeat (first | (refine RunH ?_; intro w hL hB; try clear w) | (refine Both.mk ?_ ?_ <;> conv => whnf) | fail)
      exact ⟨rfl, R, .refl _, close (F' := F) hL hB⟩
    · have h2 : 63 < nm.size := by omega
      repeat (first | (refine RunH ?_; intro w hL hB; try clear w) | (refine Both.mk ?_ ?_ <;> conv => whnf) | fail)
      exact ⟨rfl, R, .refl _, close (F' := F) hL hB⟩
  repeat (first | (refine RunH ?_; intro w hL hB; try clear w) | (refine Both.mk ?_ ?_ <;> conv => whnf) | fail)
  refine (encodeR_fn _ xs hx _ (hp _ (hL.sub (List.sublist_append_left _ _)))).mono fun r w ⟨u, hr, ho, hw⟩ => ?_
  subst hr
  replace hL := hL.addRow hB hw ho
  replace hB := Nat.le_trans hB hw.size
  clear ho hw
  obtain ⟨ua, uc, rfl⟩ := (show SlN w 1 u _ _ from hL.rowN (i := 0) rfl).shape
  generalize he : encF xs = e at *
  have hel : e.length = 8 + xs.length := by rw [← he, encF_len]
  have hsz := shd_size nm
  conv => whnf
  repeat (first | (refine RunH ?_; intro w hL hB; try clear w) | (refine Both.mk ?_ ?_ <;> conv => whnf) | fail)
  refine ⟨⟨(by show nm.size + 1 ≤ _; omega), ?_⟩⟩
  conv => whnf
  rw [show nm ++ { data := #[126] } = shd nm from rfl]
  have e1 : saveE room R nm xs.length = appE room (delS R (shd nm)) (shd nm) e.length := by rw [saveE, if_neg (fun h => h hok), hel]
  have e2 : saveS room R nm xs = if appE room (delS R (shd nm)) (shd nm) e.length = 0 then renS (syncS (appS room (delS R (shd nm)) (shd nm) e) (shd nm)) (shd nm) nm else delS (delS R (shd nm)) (shd nm) := by rw [saveS, if_neg (fun h => h hok), hel, he]
  rw [e1, e2]
  clear e1 e2 hp
  generalize hsh : shd nm = sh at *
  have hs6 : sh.size ≤ 1000000 := by omega
  have ht : 1 ≤ sh.size ∧ sh.size ≤ 64 := by omega
  have hs7 : sh.size ≤ 140737488355328 := by omega
  have hn7 : nm.size ≤ 140737488355328 := by omega
  conv => whnf
  refine (removeR_fn sh (close (F' := _ :: F) hL hB)).mono fun r w ⟨hr, hD⟩ => ?_
  clear close hL hB hr
  have hnd0 := hnd.del sh
  generalize delS R sh = S0 at *
  obtain ⟨dL, hL, hB, close⟩ := hD.open
  conv => whnf
  repeat (first | (refine RunH ?_; intro w hL hB; try clear w) | (refine Both.mk ?_ ?_ <;> conv => whnf) | fail)
  refine ⟨⟨(by show nm.size + 1 ≤ _; omega), ?_⟩⟩
  conv => whnf
  rw [show nm ++ { data := #[126] } = shd nm from rfl, hsh]
  repeat (first | (refine RunH ?_; intro w hL hB; try clear w) | (refine Both.mk ?_ ?_ <;> conv => whnf) | fail)
  refine (appendR_fn sh hs7 _ e (by omega) (fun w' h => h.row (i := 0) rfl) (close (F' := _ :: F) hL hB)).mono fun r w ⟨hr, R1, hp1, hD⟩ => ?_
  subst hr
  clear close hL hB
  obtain ⟨dL, hL, hB, close⟩ := hD.open
  by_cases hE : appE room S0 sh e.length = 0
  case neg =>
    rw [if_neg hE]
    have hp2 : R1.Perm S0 := by rw [appS, if_neg hE] at hp1; exact hp1
    conv => whnf
    repeat (first | (refine RunH ?_; intro w hL hB; try clear w) | (refine Both.mk ?_ ?_ <;> conv => whnf) | (refine Br.yes (by simp; omega) ?_; conv => whnf) | fail)
    refine ⟨⟨(by show nm.size + 1 ≤ _; omega), ?_⟩⟩
    conv => whnf
    rw [show nm ++ { data := #[126] } = shd nm from rfl, hsh]
    repeat (first | (refine RunH ?_; intro w hL hB; try clear w) | (refine Both.mk ?_ ?_ <;> conv => whnf) | fail)
    refine (removeR_fn sh (close (F' := _ :: F) hL hB)).mono fun r w ⟨hr, hD⟩ => ?_
    conv => whnf
    refine RunR ?_
    exact ⟨rfl, _, delS_perm hnd0 hp2 sh, hD.sub (List.sublist_cons_self _ _)⟩
  rw [hE, if_pos rfl]
  have hnd1 := hnd0.app room sh e
  conv => whnf
  repeat (first | (refine RunH ?_; intro w hL hB; try clear w) | (refine Both.mk ?_ ?_ <;> conv => whnf) | fail)
  refine ⟨⟨(by show nm.size + 1 ≤ _; omega), ?_⟩⟩
  conv => whnf
  rw [show nm ++ { data := #[126] } = shd nm from rfl, hsh]
  repeat (first | (refine RunH ?_; intro w hL hB; try clear w) | (refine Both.mk ?_ ?_ <;> conv => whnf) | fail)
  refine (syncR_fn sh (close (F' := _ :: F) hL hB)).mono fun r w ⟨hr, hD⟩ => ?_
  clear close hL hB hr
  have hp2 := syncS_perm hnd1 hp1 sh
  have hnd2 := hnd1.sync sh
  obtain ⟨dL, hL, hB, close⟩ := hD.open
  conv => whnf
  repeat (first | (refine RunH ?_; intro w hL hB; try clear w) | (refine Both.mk ?_ ?_ <;> conv => whnf) | fail)
  refine ⟨⟨(by show nm.size + 1 ≤ _; omega), ?_⟩⟩
  conv => whnf
  rw [show nm ++ { data := #[126] } = shd nm from rfl, hsh]
  repeat (first | (refine RunH ?_; intro w hL hB; try clear w) | (refine Both.mk ?_ ?_ <;> conv => whnf) | fail)
  refine (renameR_fn sh nm hs7 hn7 (close (F' := _ :: F) hL hB)).mono fun r w ⟨hr, R3, hp3, hD⟩ => ?_
  conv => whnf
  refine RunR ?_
  refine ⟨rfl, R3, hp3.trans ?_, hD.sub (List.sublist_cons_self _ _)⟩
  have hR : renE (syncS R1 sh) sh nm ≠ 1 := by
    rw [renE, if_neg (by omega)]; split <;> decide
  rw [if_neg hR]
  exact renS_perm hnd2 hp2 sh nm
def loadPostR (B : Nat) (w0 : World) (b room : Nat) (S : List Fl) (F : List Res) (nm : ByteArray) (r : Value) (w' : World) : Prop := if loadE S nm = 0 then ∃ u, r = .tuple #[u, .int .i64 0] ∧ RkS B w0 w' b room S (.row 5 1 u (loadP S nm).length (bv (loadP S nm)) :: F)
      else r = .tuple #[.slice none 0 0, .int .i64 (loadE S nm : Nat)] ∧ RkS B w0 w' b room S F
set_option maxHeartbeats 2000000 in
theorem loadR9_fn {B b room : Nat} {S : List Fl} {F : List Res} (nm : ByteArray) {w0 w : World} (hD : RkS B w0 w b room S F) :
    Fn Try.prog 35 #[ptr b, .string nm] w fun r w' => loadPostR B w0 b room S F nm r w' := by
  refine Fn.mk Try.func35 rfl (by kernel_rfl) Try.ntmps35 rfl (by rw [Try.results35]) ?_
  refine RunR ?_
  refine (readR4_fn nm hD).mono fun r w hD => ?_
  cases hf : getS S nm with
  | none =>
    have e1 : loadE S nm = 7 := by rw [loadE, hf]
    rw [hf] at hD
    obtain ⟨rfl, hD⟩ := hD
    conv => whnf
    refine RunR ?_
    show loadPostR B w0 b room S F nm _ _; unfold loadPostR; rw [e1, if_neg (by decide)]
    exact ⟨rfl, hD⟩
  | some f =>
    rw [hf] at hD
    obtain ⟨u, rfl, hD⟩ := hD
    obtain ⟨dL, hL, hB, close⟩ := hD.open
    obtain ⟨ua, uc, rfl⟩ := (show SlN w 1 u _ _ from hL.rowN (i := 0) rfl).shape
    conv => whnf
    repeat (first | (refine RunH ?_; intro w hL hB; try clear w) | (refine Both.mk ?_ ?_ <;> conv => whnf) | fail)
    refine (decodeR_fn _ f.d _ (hL.row (i := 0) rfl)).mono fun r w ⟨hr, hw⟩ => ?_
    have e1 : loadE S nm = if decE f.d ≠ 0 then decE f.d else if 8 + decN f.d ≠ f.d.length then 3 else 0 := by rw [loadE, hf]
    have e2 : loadP S nm = decP f.d := by rw [loadP, hf]
    by_cases hE : decE f.d = 0
    · rw [decPost, if_pos hE] at hr
      obtain ⟨hl1, hl2, u2, rfl, ho⟩ := hr
      replace hL := hL.addRow hB hw ho
      replace hB := Nat.le_trans hB hw.size
      rw [if_neg (fun h => h hE)] at e1
      by_cases hl : 8 + decN f.d = f.d.length
      · rw [if_neg (fun h => h hl)] at e1
        conv => whnf
        repeat (first | (refine RunH ?_; intro w hL hB; try clear w) | (refine Both.mk ?_ ?_ <;> conv => whnf) | fail)
        show loadPostR B w0 b room S F nm _ _; unfold loadPostR; rw [e1, if_pos rfl, e2, hl2]
        exact ⟨_, rfl, (close (F' := _ :: _ :: F) hL hB).sub (.cons_cons _ (.cons _ (.refl _)))⟩
      · rw [if_pos hl] at e1
        conv => whnf
        repeat (first | (refine RunH ?_; intro w hL hB; try clear w) | (refine Both.mk ?_ ?_ <;> conv => whnf) | fail)
        show loadPostR B w0 b room S F nm _ _; unfold loadPostR; rw [e1, if_neg (by decide)]
        exact ⟨rfl, (close (F' := _ :: _ :: F) hL hB).sub (.cons _ (.cons _ (.refl _)))⟩
    · rw [decPost, if_neg hE] at hr
      subst hr
      replace hL := hL.call hB (Turns.of_below hw)
      replace hB := Nat.le_trans hB hw.size
      rw [if_pos hE] at e1
      conv => whnf
      repeat (first | (refine RunH ?_; intro w hL hB; try clear w) | (refine Both.mk ?_ ?_ <;> conv => whnf) | (refine Br.yes (by simp; omega) ?_; conv => whnf) | fail)
      show loadPostR B w0 b room S F nm _ _; unfold loadPostR; rw [e1, if_neg hE]
      exact ⟨rfl, (close (F' := _ :: F) hL hB).sub (List.sublist_cons_self _ _)⟩
end Go.Proofs.Ytjgiailgidbkmaa
