/- keep: Save, Load. Nothing is claimed here. -/
import Derived.Test.YtjgiailgidbkmaaWf
import Derived.Test.YtjgiailgidbkmaaDh
namespace Go.Proofs.Ytjgiailgidbkmaa
open Go.RowKit
open Go.Maps (Keyed)
set_option linter.unusedVariables false
set_option linter.unusedSimpArgs false
set_option maxRecDepth 100000

def shd (nm : ByteArray) : ByteArray := nm ++ ⟨#[126]⟩
theorem shd_size (nm : ByteArray) : (shd nm).size = nm.size + 1 := by simp [shd, ByteArray.size_append]; rfl
def saveE (room : Nat) (S : List Fl) (nm : ByteArray) (n : Nat) : Nat := if ¬ (1 ≤ nm.size ∧ nm.size ≤ 63) then 1 else appE room (delS S (shd nm)) (shd nm) (8 + n)
def saveS (room : Nat) (S : List Fl) (nm : ByteArray) (xs : List UInt8) : List Fl :=
  if ¬ (1 ≤ nm.size ∧ nm.size ≤ 63) then S else
    if appE room (delS S (shd nm)) (shd nm) (8 + xs.length) = 0 then renS (syncS (appS room (delS S (shd nm)) (shd nm) (encF xs)) (shd nm)) (shd nm) nm
    else delS (delS S (shd nm)) (shd nm)

theorem getS_put : ∀ (S : List Fl) (g : Fl), getS (putS S g) g.nm = some g
  | [], g => by simp [putS, getS]
  | f :: S, g => by
    unfold putS
    by_cases h : f.nm = g.nm
    · rw [if_pos h]; simp [getS]
    · rw [if_neg h]; simp [getS, h, getS_put S g]
theorem appF_nm (S : List Fl) (nm : ByteArray) (xs : List UInt8) : (appF S nm xs).nm = nm := by unfold appF; split <;> rfl
theorem app_get {room : Nat} {S : List Fl} {nm : ByteArray} {xs : List UInt8} (h : appE room S nm xs.length = 0) : getS (appS room S nm xs) nm = some (appF S nm xs) := by
  rw [appS, if_pos h]
  have := getS_put S (appF S nm xs)
  rwa [appF_nm] at this
theorem sync_get {S : List Fl} {nm : ByteArray} {f : Fl} (h : getS S nm = some f) : getS (syncS S nm) nm = some ⟨nm, f.d, f.d.length⟩ := by
  rw [syncS, h]
  exact getS_put S ⟨nm, f.d, f.d.length⟩
/-- what stands after k steps of a save -/
def saveK (room : Nat) (S0 : List Fl) (sh nm : ByteArray) (e : List UInt8) : Nat → List Fl
  | 0 => S0
  | 1 => appS room S0 sh e
  | 2 => syncS (appS room S0 sh e) sh
  | _ => renS (syncS (appS room S0 sh e) sh) sh nm

section
variable {B b room t3 t4 t7 t9 : Nat} {S : List Fl} {F : List Res} {u : Value} {e : List UInt8} {nm sh : ByteArray} {w0 w : World}
theorem save1_fn (hsh : sh.size ≤ 1000000) (hD : DkS B w0 w b room S (.blk t9 [.string sh] 9 :: .blk t7 [u] 22 :: .row 5 1 u e.length (bv e) :: .blk t4 [.string nm] 9 :: .blk t3 [ptr b] 23 :: F)) :
    Fn Try.prog 21 #[ptr t3, ptr t9, ptr t7] w fun r w' => r = .int .i64 (appE room S sh e.length : Nat) ∧ DkS B w0 w' b room (appS room S sh e) (.blk t9 [.string sh] 9 :: .blk t7 [u] 22 :: .row 5 1 u e.length (bv e) :: .blk t4 [.string nm] 9 :: .blk t3 [ptr b] 23 :: F) := by
  obtain ⟨dL, hL, hB, close⟩ := hD.open
  clear hD
  refine Fn.mk Try.func21 rfl (by kernel_rfl) Try.ntmps21 rfl (by rw [Try.results21]) ?_
  repeat (first | (refine RunH ?_; intro w hL hB; try clear w) | (refine Both.mk ?_ ?_ <;> conv => whnf) | fail)
  refine (append_fn sh hsh u e (fun w' h => h.row (i := 2) rfl) (close (F' := _ :: _ :: _ :: _ :: _ :: F) hL hB)).mono fun r w ⟨hr, hD⟩ => ?_
  subst hr
  conv => whnf
  repeat (first | (refine RunH ?_; intro w hL hB; try clear w) | (refine Both.mk ?_ ?_ <;> conv => whnf) | fail)
  exact ⟨rfl, hD⟩
theorem save2_fn (hsh : sh.size ≤ 1000000) (hD : DkS B w0 w b room S (.blk t9 [.string sh] 9 :: .blk t7 [u] 22 :: .row 5 1 u e.length (bv e) :: .blk t4 [.string nm] 9 :: .blk t3 [ptr b] 23 :: F)) :
    Fn Try.prog 23 #[ptr t3, ptr t9] w fun r w' => r = .int .i64 (if (getS S sh).isSome then 0 else 7) ∧ DkS B w0 w' b room (syncS S sh) (.blk t9 [.string sh] 9 :: .blk t7 [u] 22 :: .row 5 1 u e.length (bv e) :: .blk t4 [.string nm] 9 :: .blk t3 [ptr b] 23 :: F) := by
  obtain ⟨dL, hL, hB, close⟩ := hD.open
  clear hD
  refine Fn.mk Try.func23 rfl (by kernel_rfl) Try.ntmps23 rfl (by rw [Try.results23]) ?_
  repeat (first | (refine RunH ?_; intro w hL hB; try clear w) | (refine Both.mk ?_ ?_ <;> conv => whnf) | fail)
  refine (sync_fn sh hsh (close (F' := _ :: _ :: _ :: _ :: _ :: F) hL hB)).mono fun r w ⟨hr, hD⟩ => ?_
  subst hr
  conv => whnf
  repeat (first | (refine RunH ?_; intro w hL hB; try clear w) | (refine Both.mk ?_ ?_ <;> conv => whnf) | fail)
  exact ⟨rfl, hD⟩
theorem save3_fn (hsh : sh.size ≤ 1000000) (hnm : nm.size ≤ 1000000) (hD : DkS B w0 w b room S (.blk t9 [.string sh] 9 :: .blk t7 [u] 22 :: .row 5 1 u e.length (bv e) :: .blk t4 [.string nm] 9 :: .blk t3 [ptr b] 23 :: F)) :
    Fn Try.prog 25 #[ptr t3, ptr t9, ptr t4] w fun r w' => r = .int .i64 (renE S sh nm : Nat) ∧ DkS B w0 w' b room (if renE S sh nm = 1 then S else renS S sh nm) (.blk t9 [.string sh] 9 :: .blk t7 [u] 22 :: .row 5 1 u e.length (bv e) :: .blk t4 [.string nm] 9 :: .blk t3 [ptr b] 23 :: F) := by
  obtain ⟨dL, hL, hB, close⟩ := hD.open
  clear hD
  refine Fn.mk Try.func25 rfl (by kernel_rfl) Try.ntmps25 rfl (by rw [Try.results25]) ?_
  repeat (first | (refine RunH ?_; intro w hL hB; try clear w) | (refine Both.mk ?_ ?_ <;> conv => whnf) | fail)
  refine (rename_fn sh nm hsh hnm (close (F' := _ :: _ :: _ :: _ :: _ :: F) hL hB)).mono fun r w ⟨hr, hD⟩ => ?_
  subst hr
  conv => whnf
  repeat (first | (refine RunH ?_; intro w hL hB; try clear w) | (refine Both.mk ?_ ?_ <;> conv => whnf) | fail)
  exact ⟨rfl, hD⟩
end
set_option maxHeartbeats 4000000 in
theorem save_fn {B b room : Nat} {S : List Fl} {F : List Res} (nm : ByteArray) (hnm : nm.size ≤ 1000000) (p : Value) (xs : List UInt8) (hx : xs.length ≤ 1048576) {w0 w : World} (hp : ∀ w', Sep Try.prog B w0 w' F → Sl w' p (bv xs)) (hD : DkS B w0 w b room S F) :
    Fn Try.prog 8 #[ptr b, .string nm, p] w fun r w' => r = .int .i64 (saveE room S nm xs.length : Nat) ∧ DkS B w0 w' b room (saveS room S nm xs) F := by
  have hp0 := hp w (hD.rest)
  obtain ⟨pa, pc, rfl⟩ := hp0.shape
  simp only [bv_length] at *
  obtain ⟨dL, hL, hB, close⟩ := hD.open
  clear hD
  refine Fn.mk Try.func8 rfl (by kernel_rfl) Try.ntmps8 rfl (by rw [Try.results8]) ?_
  repeat (first | (refine RunH ?_; intro w hL hB; try clear w) | (refine Both.mk ?_ ?_ <;> conv => whnf) | fail)
  (refine Nw.sep hL hB (fun t3 w hL hB ht3 => ?_); conv => whnf)
  repeat (first | (refine RunH ?_; intro w hL hB; try clear w) | (refine Both.mk ?_ ?_ <;> conv => whnf) | fail)
  (refine Nw.sep hL hB (fun t4 w hL hB ht4 => ?_); conv => whnf)
  by_cases hok : 1 ≤ nm.size ∧ nm.size ≤ 63
  case neg =>
    have e1 : saveE room S nm xs.length = 1 := if_pos hok
    have e2 : saveS room S nm xs = S := if_pos hok
    rw [e1, e2]
    by_cases h1 : nm.size < 1
    · repeat (first | (refine RunH ?_; intro w hL hB; try clear w) | (refine Both.mk ?_ ?_ <;> conv => whnf) | fail)
      exact ⟨rfl, close (F' := F) hL.tl.tl hB⟩
    · have h2 : 63 < nm.size := by omega
      repeat (first | (refine RunH ?_; intro w hL hB; try clear w) | (refine Both.mk ?_ ?_ <;> conv => whnf) | fail)
      exact ⟨rfl, close (F' := F) hL.tl.tl hB⟩
  repeat (first | (refine RunH ?_; intro w hL hB; try clear w) | (refine Both.mk ?_ ?_ <;> conv => whnf) | fail)
  refine (encode_fn _ xs hx _ (hp _ (hL.sub (.cons _ (.cons _ (List.sublist_append_left _ _)))))).mono fun r w ⟨u, hr, ho, hw⟩ => ?_
  subst hr
  replace hL := hL.addRow hB hw ho
  replace hB := Nat.le_trans hB hw.size
  clear ho hw
  obtain ⟨ua, uc, rfl⟩ := (show SlN w 1 u _ _ from hL.rowN (i := 0) rfl).shape
  generalize he : encF xs = e at *
  have hel : e.length = 8 + xs.length := by rw [← he, encF_len]
  conv => whnf
  repeat (first | (refine RunH ?_; intro w hL hB; try clear w) | (refine Both.mk ?_ ?_ <;> conv => whnf) | fail)
  (refine Nw.sep hL hB (fun t7 w hL hB ht7 => ?_); conv => whnf)
  repeat (first | (refine RunH ?_; intro w hL hB; try clear w) | (refine Both.mk ?_ ?_ <;> conv => whnf) | fail)
  refine ⟨⟨(by show nm.size + 1 ≤ _; omega), ?_⟩⟩
  conv => whnf
  rw [show nm ++ { data := #[126] } = shd nm from rfl]
  have hsz := shd_size nm
  generalize hsh : shd nm = sh at *
  have hs6 : sh.size ≤ 1000000 := by omega
  have ht : 1 ≤ sh.size ∧ sh.size ≤ 64 := by omega
  (refine Nw.sep hL hB (fun t9 w hL hB ht9 => ?_); conv => whnf)
  repeat (first | (refine RunH ?_; intro w hL hB; try clear w) | (refine Both.mk ?_ ?_ <;> conv => whnf) | fail)
  refine (remove_fn sh hs6 (close (F' := _ :: _ :: _ :: _ :: _ :: F) hL hB)).mono fun r w ⟨hr, hD⟩ => ?_
  clear close hL hB hr
  have e1 : saveE room S nm xs.length = appE room (delS S sh) sh e.length := by rw [saveE, if_neg (fun h => h hok), hsh, hel]
  have e2 : saveS room S nm xs = if appE room (delS S sh) sh e.length = 0 then renS (syncS (appS room (delS S sh) sh e) sh) sh nm else delS (delS S sh) sh := by rw [saveS, if_neg (fun h => h hok), hsh, hel, he]
  rw [e1, e2]
  clear e1 e2 hp
  generalize delS S sh = S0 at *
  obtain ⟨dL, hL, hB, close⟩ := hD.open
  conv => whnf
  repeat (first | (refine RunH ?_; intro w hL hB; try clear w) | (refine Both.mk ?_ ?_ <;> conv => whnf) | fail)
  refine Rv.buildS (len := 3) (vs := [.func (.func 21) #[] #[ptr t3, ptr t9, ptr t7], .func (.func 23) #[] #[ptr t3, ptr t9], .func (.func 25) #[] #[ptr t3, ptr t9, ptr t4]]) ttOk hL tl58 tl56 rfl rfl (by intro u hu; simp only [List.mem_cons, List.not_mem_nil, or_false] at hu; rcases hu with rfl | rfl | rfl <;> rfl) (by decide) (by decide) hB fun bo w hL hB => ?_
  conv => whnf
  repeat (first | (refine RunH ?_; intro w hL hB; try clear w) | (refine Both.mk ?_ ?_ <;> conv => whnf) | fail)
  replace hL := hL.perm (List.perm_middle (l₁ := [_, _, _, _, _])).symm
  replace hD := close (F' := _ :: _ :: _ :: _ :: _ :: _ :: F) hL hB
  clear close hL hB
  refine V.loop (α := Nat) (fun k => [(3, ptr t3), (9, ptr t9), (43, .slice (some ⟨bo, 0, none⟩) 3 3), (44, .int .i64 3), (45, .int .i64 (k : Int))])
    (fun k w' => k ≤ 3 ∧ (k ≠ 0 → appE room S0 sh e.length = 0) ∧ DkS B w0 w' b room (saveK room S0 sh nm e k) (.blk t9 [.string sh] 9 :: .blk t7 [.slice ua e.length uc] 22 :: .row 5 1 (.slice ua e.length uc) e.length (bv e) :: .blk t4 [.string nm] 9 :: .blk t3 [ptr b] 23 :: .row 56 1 (.slice (some ⟨bo, 0, none⟩) 3 3) 3 [.func (.func 21) #[] #[ptr t3, ptr t9, ptr t7], .func (.func 23) #[] #[ptr t3, ptr t9], .func (.func 25) #[] #[ptr t3, ptr t9, ptr t4]] :: F))
    (fun k => 3 - k) 0 ⟨rfl, rfl, rfl, rfl, rfl, trivial⟩ ⟨by omega, by simp, hD⟩ ?_
  clear hD
  rintro k w ⟨hk, ha, hD⟩
  dsimp only at *
  by_cases hlt : k < 3
  case neg =>
    obtain rfl : k = 3 := by omega
    rw [ha (by decide)]
    obtain ⟨dL, hL, hB, close⟩ := hD.open
    repeat (first | (refine RunH ?_; intro w hL hB; try clear w) | (refine Both.mk ?_ ?_ <;> conv => whnf) | fail)
    exact ⟨rfl, (close (F' := F) hL.tl.tl.tl.tl.tl.tl hB)⟩
  obtain rfl | rfl | rfl : k = 0 ∨ k = 1 ∨ k = 2 := by omega
  · obtain ⟨dL, hL, hB, close⟩ := hD.open
    obtain ⟨_, _, heq, hrow⟩ := SlN.addr (show SlN w 1 (.slice (some ⟨bo, 0, none⟩) 3 3) 3 _ from hL.rowN (i := 5) rfl) (by decide)
    cases heq
    repeat (first | (refine RunH ?_; intro w hL hB; try clear w) | (refine Both.mk ?_ ?_ <;> conv => whnf) | fail)
    intro o1 ho1
    conv => whnf
    refine Ld.row1 ttOk hrow (k := 0) tl56 rfl rfl (by omega) ?_
    conv => whnf
    repeat (first | (refine RunH ?_; intro w hL hB; try clear w) | (refine Both.mk ?_ ?_ <;> conv => whnf) | fail)
    clear hL hB close hrow
    simp only [saveK] at hD
    refine (save1_fn hs6 hD).mono fun r w ⟨hr, hD⟩ => ?_
    subst hr
    by_cases hE : appE room S0 sh e.length = 0
    · rw [hE]
      conv => whnf
      refine RunR ?_
      exact ⟨1, ⟨rfl, rfl, rfl, rfl, rfl, trivial⟩, ⟨by omega, (fun _ => by first | exact hE | rfl), hD⟩, (by first | omega | (dsimp only; omega))⟩
    · obtain ⟨dL, hL, hB, close⟩ := hD.open
      clear hD
      rw [if_neg hE]
      rw [show appS room S0 sh e = S0 from if_neg hE] at close
      conv => whnf
      repeat (first | (refine RunH ?_; intro w hL hB; try clear w) | (refine Both.mk ?_ ?_ <;> conv => whnf) | (refine Br.yes (by simp; omega) ?_; conv => whnf) | fail)
      refine (remove_fn sh hs6 (close (F' := _ :: _ :: _ :: _ :: _ :: _ :: F) hL hB)).mono fun r w ⟨hr, hD⟩ => ?_
      conv => whnf
      refine RunR ?_
      exact ⟨rfl, hD.tl.tl.tl.tl.tl.tl⟩
  · obtain ⟨dL, hL, hB, close⟩ := hD.open
    obtain ⟨_, _, heq, hrow⟩ := SlN.addr (show SlN w 1 (.slice (some ⟨bo, 0, none⟩) 3 3) 3 _ from hL.rowN (i := 5) rfl) (by decide)
    cases heq
    repeat (first | (refine RunH ?_; intro w hL hB; try clear w) | (refine Both.mk ?_ ?_ <;> conv => whnf) | fail)
    intro o1 ho1
    conv => whnf
    refine Ld.row1 ttOk hrow (k := 1) tl56 rfl rfl (by omega) ?_
    conv => whnf
    repeat (first | (refine RunH ?_; intro w hL hB; try clear w) | (refine Both.mk ?_ ?_ <;> conv => whnf) | fail)
    clear hL hB close hrow
    refine (save2_fn hs6 hD).mono fun r w ⟨hr, hD⟩ => ?_
    subst hr
    have hE := ha (by decide)
    rw [show saveK room S0 sh nm e 1 = appS room S0 sh e from rfl, app_get hE, Option.isSome_some, if_pos rfl]
    conv => whnf
    refine RunR ?_
    exact ⟨2, ⟨rfl, rfl, rfl, rfl, rfl, trivial⟩, ⟨by omega, (fun _ => by first | exact hE | rfl), hD⟩, (by first | omega | (dsimp only; omega))⟩
  · obtain ⟨dL, hL, hB, close⟩ := hD.open
    obtain ⟨_, _, heq, hrow⟩ := SlN.addr (show SlN w 1 (.slice (some ⟨bo, 0, none⟩) 3 3) 3 _ from hL.rowN (i := 5) rfl) (by decide)
    cases heq
    repeat (first | (refine RunH ?_; intro w hL hB; try clear w) | (refine Both.mk ?_ ?_ <;> conv => whnf) | fail)
    intro o1 ho1
    conv => whnf
    refine Ld.row1 ttOk hrow (k := 2) tl56 rfl rfl (by omega) ?_
    conv => whnf
    repeat (first | (refine RunH ?_; intro w hL hB; try clear w) | (refine Both.mk ?_ ?_ <;> conv => whnf) | fail)
    clear hL hB close hrow
    refine (save3_fn hs6 hnm hD).mono fun r w ⟨hr, hD⟩ => ?_
    subst hr
    have hE := ha (by decide)
    have hR : renE (saveK room S0 sh nm e 2) sh nm = 0 := by
      rw [renE, if_neg (by omega), show saveK room S0 sh nm e 2 = syncS (appS room S0 sh e) sh from rfl, sync_get (app_get hE)]; rfl
    rw [hR, if_neg (by decide)] at hD
    rw [hR]
    conv => whnf
    refine RunR ?_
    exact ⟨3, ⟨rfl, rfl, rfl, rfl, rfl, trivial⟩, ⟨by omega, (fun _ => by first | exact hE | rfl), hD⟩, (by first | omega | (dsimp only; omega))⟩
def loadE (S : List Fl) (nm : ByteArray) : Nat := match getS S nm with
  | none => 7
  | some f => if decE f.d ≠ 0 then decE f.d else if 8 + decN f.d ≠ f.d.length then 3 else 0
def loadP (S : List Fl) (nm : ByteArray) : List UInt8 := match getS S nm with
  | none => []
  | some f => decP f.d
def loadPost (B : Nat) (w0 : World) (b room : Nat) (S : List Fl) (F : List Res) (nm : ByteArray) (r : Value) (w' : World) : Prop := if loadE S nm = 0 then ∃ u, r = .tuple #[u, .int .i64 0] ∧ DkS B w0 w' b room S (.row 5 1 u (loadP S nm).length (bv (loadP S nm)) :: F)
      else r = .tuple #[.slice none 0 0, .int .i64 (loadE S nm : Nat)] ∧ DkS B w0 w' b room S F
set_option maxHeartbeats 2000000 in
theorem load_fn {B b room : Nat} {S : List Fl} {F : List Res} (nm : ByteArray) (hnm : nm.size ≤ 1000000) {w0 w : World} (hD : DkS B w0 w b room S F) :
    Fn Try.prog 9 #[ptr b, .string nm] w fun r w' => loadPost B w0 b room S F nm r w' := by
  refine Fn.mk Try.func9 rfl (by kernel_rfl) Try.ntmps9 rfl (by rw [Try.results9]) ?_
  refine RunR ?_
  refine (read_fn nm hnm hD).mono fun r w hD => ?_
  cases hf : getS S nm with
  | none =>
    have e1 : loadE S nm = 7 := by rw [loadE, hf]
    rw [hf] at hD
    obtain ⟨rfl, hD⟩ := hD
    conv => whnf
    refine RunR ?_
    show loadPost B w0 b room S F nm _ _; unfold loadPost; rw [e1, if_neg (by decide)]
    exact ⟨rfl, hD⟩
  | some f =>
    rw [hf] at hD
    obtain ⟨u, rfl, hD⟩ := hD
    obtain ⟨dL, hL, hB, close⟩ := hD.open
    obtain ⟨ua, uc, rfl⟩ := (show SlN w 1 u _ _ from hL.rowN (i := 0) rfl).shape
    conv => whnf
    repeat (first | (refine RunH ?_; intro w hL hB; try clear w) | (refine Both.mk ?_ ?_ <;> conv => whnf) | fail)
    refine (decode_fn _ f.d _ (hL.row (i := 0) rfl)).mono fun r w ⟨hr, hw⟩ => ?_
    have e1 : loadE S nm = if decE f.d ≠ 0 then decE f.d else if 8 + decN f.d ≠ f.d.length then 3 else 0 := by rw [loadE, hf]
    have e2 : loadP S nm = decP f.d := by rw [loadP, hf]
    by_cases hE : decE f.d = 0
    · rw [decPost, if_pos hE] at hr
      obtain ⟨hl1, hl2, u2, rfl, ho⟩ := hr
      replace hL := hL.addRow hB hw ho
      replace hB := Nat.le_trans hB hw.size
      rw [if_neg (fun h => h hE)] at e1
      by_cases hl : 8 + decN f.d = f.d.length
      · rw [if_neg (fun h => h hl)] at e1
        conv => whnf
        repeat (first | (refine RunH ?_; intro w hL hB; try clear w) | (refine Both.mk ?_ ?_ <;> conv => whnf) | fail)
        show loadPost B w0 b room S F nm _ _; unfold loadPost; rw [e1, if_pos rfl, e2, hl2]
        exact ⟨_, rfl, (close (F' := _ :: _ :: F) hL hB).perm (.swap _ _ _) |>.tl⟩
      · rw [if_pos hl] at e1
        conv => whnf
        repeat (first | (refine RunH ?_; intro w hL hB; try clear w) | (refine Both.mk ?_ ?_ <;> conv => whnf) | fail)
        show loadPost B w0 b room S F nm _ _; unfold loadPost; rw [e1, if_neg (by decide)]
        exact ⟨rfl, (close (F' := _ :: _ :: F) hL hB).tl.tl⟩
    · rw [decPost, if_neg hE] at hr
      subst hr
      replace hL := hL.call hB (Turns.of_below hw)
      replace hB := Nat.le_trans hB hw.size
      rw [if_pos hE] at e1
      conv => whnf
      repeat (first | (refine RunH ?_; intro w hL hB; try clear w) | (refine Both.mk ?_ ?_ <;> conv => whnf) | (refine Br.yes (by simp; omega) ?_; conv => whnf) | fail)
      show loadPost B w0 b room S F nm _ _; unfold loadPost; rw [e1, if_neg hE]
      exact ⟨rfl, (close (F' := _ :: F) hL hB).tl⟩
end Go.Proofs.Ytjgiailgidbkmaa
