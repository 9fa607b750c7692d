/- disk: Read, Sync, Used, Remove. disk: Remove, Rename, Cut, Rot. Nothing is claimed here. -/
import Derived.Test.YtladfadcgfdbfaaGreatDoorD06
namespace Go.Proofs.YtladfadcgfdbfaaGreatDoor
open Go.RowKit
open Go.Maps (Keyed)
set_option linter.unusedVariables false
set_option linter.unusedSimpArgs false
set_option maxRecDepth 100000
theorem clone_fn (v : Value) (l : List UInt8) (w0 : World) (hs : Sl w0 v (bv l)) (hlen : l.length ≤ 2147483648) : Fn Tryz.prog 62 #[v] w0 fun r w' => w'.ownsRow w0.heap.size 5 1 r l.length (bv l) ∧ Below w0.heap.size w0 w' := by
  have hL := Sep.start Tryz.prog w0
  have hB := Nat.le_refl w0.heap.size
  obtain ⟨a, c, rfl⟩ := hs.shape
  simp only [bv_length] at *
  refine Fn.mk Tryz.func62 rfl (by kernel_rfl) Tryz.ntmps62 rfl (by rw [Tryz.results62]) ?_
  cases a with
  | none =>
    obtain rfl : l = [] := by
      rcases hs.cases with ⟨he, hx⟩ | ⟨ad, c', he, _⟩
      · simpa [bv] using hx
      · cases he
    repeat (first | (refine RunH ?_; intro w hL hB; try clear w) | (refine Both.mk ?_ ?_ <;> conv => whnf) | fail)
    exact ⟨World.ownsRow_nil w0 _ _ _, Below.refl _ _⟩
  | some ad =>
    repeat (first | (refine RunH ?_; intro w hL hB; try clear w) | (refine Both.mk ?_ ?_ <;> conv => whnf) | fail)
    refine Rv.buildS (len := 0) (vs := []) ttOk hL tl40 tl5 rfl rfl (by intro u hu; cases hu) (by decide) (by decide) hB fun bo w hL hB => ?_
    conv => whnf
    repeat (first | (refine RunH ?_; intro w hL hB; try clear w) | (refine Both.mk ?_ ?_ <;> conv => whnf) | fail)
    refine Rv.appendS (m := l.length) ttOk hL tl40 tl5 rfl (by decide) 0 rfl (by have := (hL.sl hs rfl).toN; rw [bv_length] at this; exact this) (bv_one _) (by simp only [maxLen]; omega) (by omega) hB fun v' w hL hB => ?_
    obtain ⟨ba, bc, rfl⟩ := (show SlN w 1 v' _ _ from hL.rowN (i := 0) rfl).shape
    dsimp only [List.set] at hL
    conv => whnf
    repeat (first | (refine RunH ?_; intro w hL hB; try clear w) | (refine Both.mk ?_ ?_ <;> conv => whnf) | fail)
    have ho := hL.ownR (i := 0) rfl
    exact ⟨by simpa using ho, hL.below⟩
theorem read_fn {B b room : Nat} {S : List Fl} {F : List Res} (nm : ByteArray) (hnm : nm.size ≤ 1000000) {w0 w : World} (hD : DkS B w0 w b room S F) :
    Fn Tryz.prog 19 #[ptr b, .string nm] w fun r w' => match getS S nm with
      | some f => ∃ u, r = .tuple #[u, .int .i64 0] ∧ DkS B w0 w' b room S (.row 5 1 u f.d.length (bv f.d) :: F)
      | none => r = .tuple #[.slice none 0 0, .int .i64 7] ∧ DkS B w0 w' b room S F := by
  obtain ⟨⟨mo, fs, rfl, hok, hmo, hL⟩, hB⟩ := hD
  rw [getF_fl]
  cases hf : getF fs nm with
  | none =>
    simp only [Option.map_none]
    refine Fn.mk Tryz.func19 rfl (by kernel_rfl) Tryz.ntmps19 rfl (by rw [Tryz.results19]) ?_
    repeat (first | (refine RunH ?_; intro w hL hB; try clear w) | (refine Both.mk ?_ ?_ <;> conv => whnf) | fail)
    refine (of_fn nm hnm hok.nd hmo hL hB).mono fun r w ⟨hr, hL, hB⟩ => ?_
    subst hr
    rw [ofV_none hf]
    conv => whnf
    repeat (first | (refine RunH ?_; intro w hL hB; try clear w) | (refine Both.mk ?_ ?_ <;> conv => whnf) | (refine Nw.sep hL hB (fun b1 w hL hB hb1 => ?_); conv => whnf) | fail)
    exact ⟨rfl, DkS.mk' hok hmo rfl hL.tl hB⟩
  | some f =>
    simp only [Option.map_some, Fv.fl]
    obtain ⟨fa, fc, hfv⟩ := dk_shape hL (getF_mem hf)
    have hfd : f.d.length ≤ 1073741824 := by
      have h1 := hok.tot
      have h2 := hok.room
      have h3 := oldN_le fs nm
      rw [oldN, hf] at h3
      simp only at h3
      omega
    refine Fn.mk Tryz.func19 rfl (by kernel_rfl) Tryz.ntmps19 rfl (by rw [Tryz.results19]) ?_
    repeat (first | (refine RunH ?_; intro w hL hB; try clear w) | (refine Both.mk ?_ ?_ <;> conv => whnf) | fail)
    refine (of_fn nm hnm hok.nd hmo hL hB).mono fun r w ⟨hr, hL, hB⟩ => ?_
    subst hr
    rw [ofV_some hf hfv]
    conv => whnf
    repeat (first | (refine RunH ?_; intro w hL hB; try clear w) | (refine Both.mk ?_ ?_ <;> conv => whnf) | (refine Nw.sep hL hB (fun b1 w hL hB hb1 => ?_); conv => whnf) | fail)
    have hrow : Sl w (.slice fa f.d.length fc) (bv f.d) := by
      have h : f.row.holds Tryz.prog w := hL.hold f.row (by simp only [dkRes, List.mem_cons, List.mem_append, List.mem_map]; exact .inr (.inl (.inr (.inr ⟨f, getF_mem hf, rfl⟩))))
      rw [← hfv]
      exact RowC.sl h
    refine (clone_fn _ f.d _ hrow (by omega)).mono fun r w ⟨ho, hw⟩ => ?_
    replace hL := hL.addRow hB hw ho
    replace hB := Nat.le_trans hB hw.size
    obtain ⟨ra, rc, rfl⟩ := (show SlN w 1 r _ _ from hL.rowN (i := 0) rfl).shape
    conv => whnf
    repeat (first | (refine RunH ?_; intro w hL hB; try clear w) | (refine Both.mk ?_ ?_ <;> conv => whnf) | fail)
    refine ⟨_, rfl, DkS.mk' (mo := mo) hok hmo rfl ?_ hB⟩
    exact (hL.sub (L' := _ :: (dkRes b room (tot fs) mo fs ++ F)) (.cons_cons _ (.cons _ (.refl _)))).perm List.perm_middle.symm
def syncS (S : List Fl) (nm : ByteArray) : List Fl := match getS S nm with
  | some f => putS S ⟨nm, f.d, f.d.length⟩
  | none => S
theorem sync_fn {B b room : Nat} {S : List Fl} {F : List Res} (nm : ByteArray) (hnm : nm.size ≤ 1000000) {w0 w : World} (hD : DkS B w0 w b room S F) :
    Fn Tryz.prog 29 #[ptr b, .string nm] w fun r w' => r = .int .i64 (if (getS S nm).isSome then 0 else 7) ∧ DkS B w0 w' b room (syncS S nm) F := by
  obtain ⟨⟨mo, fs, rfl, hok, hmo, hL⟩, hB⟩ := hD
  have hg := strGood hnm
  rw [syncS, getF_fl]
  cases hf : getF fs nm with
  | none =>
    simp only [Option.map_none, Option.isSome_none]
    refine Fn.mk Tryz.func29 rfl (by kernel_rfl) Tryz.ntmps29 rfl (by rw [Tryz.results29]) ?_
    repeat (first | (refine RunH ?_; intro w hL hB; try clear w) | (refine Both.mk ?_ ?_ <;> conv => whnf) | fail)
    refine (of_fn nm hnm hok.nd hmo hL hB).mono fun r w ⟨hr, hL, hB⟩ => ?_
    subst hr
    rw [ofV_none hf]
    conv => whnf
    repeat (first | (refine RunH ?_; intro w hL hB; try clear w) | (refine Both.mk ?_ ?_ <;> conv => whnf) | (refine Nw.sep hL hB (fun b1 w hL hB hb1 => ?_); conv => whnf) | fail)
    exact ⟨rfl, DkS.mk' hok hmo rfl hL.tl hB⟩
  | some f =>
    simp only [Option.map_some, Option.isSome_some, Fv.fl]
    obtain ⟨fa, fc, hfv⟩ := dk_shape hL (getF_mem hf)
    have hfn : f.nm = nm := by obtain ⟨_, _, _, h, _⟩ := getF_some hf; exact h
    cases mo with
    | none =>
      obtain rfl := hmo rfl
      cases hf
    | some m =>
    refine Fn.mk Tryz.func29 rfl (by kernel_rfl) Tryz.ntmps29 rfl (by rw [Tryz.results29]) ?_
    repeat (first | (refine RunH ?_; intro w hL hB; try clear w) | (refine Both.mk ?_ ?_ <;> conv => whnf) | fail)
    refine (of_fn nm hnm hok.nd hmo hL hB).mono fun r w ⟨hr, hL, hB⟩ => ?_
    subst hr
    rw [ofV_some hf hfv]
    replace hL := dk_take hf hL
    simp only [mRes, List.nil_append, List.cons_append, Fv.row, hfv] at hL
    have htot := tot_fl fs
    have hfd : f.d.length ≤ 1073741824 := by
      have h1 := hok.tot
      have h2 := hok.room
      have h3 := oldN_le fs nm
      rw [oldN, hf] at h3
      simp only at h3
      omega
    conv => whnf
    repeat (first | (refine RunH ?_; intro w hL hB; try clear w) | (refine Both.mk ?_ ?_ <;> conv => whnf) | (refine Nw.sep hL hB (fun b1 w hL hB hb1 => ?_); conv => whnf) | fail)
    refine Ru.putS (v := (⟨nm, .slice fa f.d.length fc, f.d, f.d.length⟩ : Fv).val) ttOk hL strK 3 tl79 rfl hg hB (fun w l' hput hL hB => ?_)
    conv => whnf
    repeat (first | (refine RunH ?_; intro w hL hB; try clear w) | (refine Both.mk ?_ ?_ <;> conv => whnf) | fail)
    obtain rfl := put_files (g := ⟨nm, .slice fa f.d.length fc, f.d, f.d.length⟩) hok.nd hput
    refine ⟨rfl, ?_⟩
    have h1 := hok.nm f (getF_mem hf)
    rw [hfn] at h1
    have ht := tot_put fs ⟨nm, .slice fa f.d.length fc, f.d, f.d.length⟩
    have ho : oldN fs nm = f.d.length := by rw [oldN, hf]
    simp only [ho] at ht
    have := DkS.mk' (room := room) (mo := some m) (used := tot fs) (fs := putF fs ⟨nm, .slice fa f.d.length fc, f.d, f.d.length⟩) (hok.put (Nat.le_refl _) h1 (by have := hok.tot; simp only [ho]; omega) (.inl (by simp [hf]))) (fun h => by cases h) (by omega) (dk_back hL.tl) hB
    rw [putF_fl] at this
    exact this
end Go.Proofs.YtladfadcgfdbfaaGreatDoor
namespace Go.Proofs.YtladfadcgfdbfaaGreatDoor
open Go.RowKit
open Go.Maps (Keyed)
set_option linter.unusedVariables false
set_option linter.unusedSimpArgs false
set_option maxRecDepth 100000
/-- the same blocks, said otherwise -/
theorem Sep.says {P : Program} {B : Nat} {w0 w : World} {R R' : Res} {L : List Res} (h : Sep P B w0 w (R :: L)) (hR : R'.holds P w) (hb : R'.blocks = R.blocks) : Sep P B w0 w (R' :: L) :=
  ⟨h.below, fun Q hQ => by
    rcases List.mem_cons.1 hQ with rfl | hQ
    · exact hR
    · exact h.hold Q (by simp [hQ]), fun Q hQ => by
    rcases List.mem_cons.1 hQ with rfl | hQ
    · rw [hb]; exact h.own R (by simp)
    · exact h.own Q (by simp [hQ]), by have := h.apart; simpa [hb] using this⟩
theorem bring {α : Type} {A C F : List α} {x : α} : (A ++ (C ++ x :: F)).Perm (x :: (A ++ (C ++ F))) := by
  rw [← List.append_assoc, ← List.append_assoc]
  exact List.perm_middle
theorem lay_prep {B b : Nat} {w0 w : World} {mo : Option Nat} {fs : List Fv} {g : Fv} {cs : List Value} {t : TypeId} {F : List Res} (hL : Sep Tryz.prog B w0 w (g.row :: .blk b cs t :: (mRes mo fs ++ ((delF fs g.nm).map Fv.row ++ F)))) :
    Sep Tryz.prog B w0 w (.blk b cs t :: (mRes mo fs ++ ((putF fs g).map Fv.row ++ F))) := by
  refine hL.perm (List.Perm.trans (.swap _ _ _) (.cons _ ?_))
  exact List.perm_middle.symm.trans (((put_perm fs g).append_right F).symm.append_left _)
theorem oldN_some {fs : List Fv} {nm : ByteArray} {f : Fv} (h : getF fs nm = some f) : oldN fs nm = f.d.length := by rw [oldN, h]
theorem len_le {room : Nat} {fs : List Fv} {nm : ByteArray} {f : Fv} (hok : OkF room fs) (hf : getF fs nm = some f) : f.d.length ≤ tot fs ∧ tot fs ≤ 1073741824 := by
  have h1 := hok.tot
  have h2 := hok.room
  have h3 := oldN_le fs nm
  rw [oldN_some hf] at h3
  omega
theorem mo_some {mo : Option Nat} {fs : List Fv} {nm : ByteArray} {f : Fv} (hmo : mo = none → fs = []) (hf : getF fs nm = some f) : ∃ m, mo = some m := by
  cases mo with
  | none => rw [hmo rfl] at hf; cases hf
  | some m => exact ⟨m, rfl⟩
theorem removeF_fn {B b room m : Nat} {fs : List Fv} {F : List Res} (nm : ByteArray) (hnm : nm.size ≤ 1000000) {f : Fv} (hf : getF fs nm = some f) (hok : OkF room fs) {w0 w : World} (hL : Sep Tryz.prog B w0 w (dkRes b room (tot fs) (some m) fs ++ F)) (hB : B ≤ w.heap.size) :
    Fn Tryz.prog 28 #[ptr b, .string nm] w fun r w' => r = .int .i64 0 ∧
      Sep Tryz.prog B w0 w' (f.row :: .blk b [.int .i64 (room : Int), .int .i64 (tot (delF fs nm) : Int), .map (some m)] 81 :: (mRes (some m) (delF fs nm) ++ ((delF fs nm).map Fv.row ++ F))) ∧ B ≤ w'.heap.size := by
  have hg := strGood hnm
  obtain ⟨fa, fc, hfv⟩ := dk_shape hL (getF_mem hf)
  obtain ⟨hl1, hl2⟩ := len_le hok hf
  have hdel := tot_del fs nm
  rw [oldN_some hf] at hdel
  refine Fn.mk Tryz.func28 rfl (by kernel_rfl) Tryz.ntmps28 rfl (by rw [Tryz.results28]) ?_
  repeat (first | (refine RunH ?_; intro w hL hB; try clear w) | (refine Both.mk ?_ ?_ <;> conv => whnf) | fail)
  refine (of_fn nm hnm hok.nd (fun h => by cases h) hL hB).mono fun r w ⟨hr, hL, hB⟩ => ?_
  subst hr
  rw [ofV_some hf hfv]
  replace hL := dk_take hf hL
  simp only [mRes, List.nil_append, List.cons_append, Fv.row, hfv] at hL ⊢
  conv => whnf
  repeat (first | (refine RunH ?_; intro w hL hB; try clear w) | (refine Both.mk ?_ ?_ <;> conv => whnf) | (refine Nw.sep hL hB (fun b1 w hL hB hb1 => ?_); conv => whnf) | fail)
  refine Rv.goneS ttOk hL strK 3 tl79 rfl hg hB (fun w l' hgone hL hB => ?_)
  conv => whnf
  repeat (first | (refine RunH ?_; intro w hL hB; try clear w) | (refine Both.mk ?_ ?_ <;> conv => whnf) | fail)
  obtain rfl := gone_files hok.nd hgone
  refine ⟨rfl, ?_, hB⟩
  rw [show (tot fs : Int) - (f.d.length : Int) = (tot (delF fs nm) : Int) by omega] at hL
  exact hL.tl
theorem remove_fn {B b room : Nat} {S : List Fl} {F : List Res} (nm : ByteArray) (hnm : nm.size ≤ 1000000) {w0 w : World} (hD : DkS B w0 w b room S F) :
    Fn Tryz.prog 28 #[ptr b, .string nm] w fun r w' => r = .int .i64 (if (getS S nm).isSome then 0 else 7) ∧ DkS B w0 w' b room (delS S nm) F := by
  obtain ⟨⟨mo, fs, rfl, hok, hmo, hL⟩, hB⟩ := hD
  rw [getF_fl, ← delF_fl]
  cases hf : getF fs nm with
  | none =>
    rw [delF_none (getF_none hf)]
    simp only [Option.map_none, Option.isSome_none]
    refine Fn.mk Tryz.func28 rfl (by kernel_rfl) Tryz.ntmps28 rfl (by rw [Tryz.results28]) ?_
    repeat (first | (refine RunH ?_; intro w hL hB; try clear w) | (refine Both.mk ?_ ?_ <;> conv => whnf) | fail)
    refine (of_fn nm hnm hok.nd hmo hL hB).mono fun r w ⟨hr, hL, hB⟩ => ?_
    subst hr
    rw [ofV_none hf]
    conv => whnf
    repeat (first | (refine RunH ?_; intro w hL hB; try clear w) | (refine Both.mk ?_ ?_ <;> conv => whnf) | (refine Nw.sep hL hB (fun b1 w hL hB hb1 => ?_); conv => whnf) | fail)
    exact ⟨rfl, DkS.mk' hok hmo rfl hL.tl hB⟩
  | some f =>
    obtain ⟨m, rfl⟩ := mo_some hmo hf
    refine (removeF_fn nm hnm hf hok hL hB).mono fun r w' ⟨hr, hL, hB⟩ => ?_
    refine ⟨by simp [hr], DkS.mk' (mo := some m) (hok.del nm) (fun h => by cases h) rfl ?_ hB⟩
    have := hL.tl
    simpa [dkRes] using this
def renS (S : List Fl) (a z : ByteArray) : List Fl := match getS S a with
  | some f => if a = z then S else putS (delS S a) ⟨z, f.d, f.la⟩
  | none => S
def renE (S : List Fl) (a z : ByteArray) : Nat := if ¬ (1 ≤ z.size ∧ z.size ≤ 64) then 1 else if (getS S a).isSome then 0 else 7
theorem OkF.shapes {room used B b : Nat} {mo : Option Nat} {w0 w : World} {F : List Res} {fs : List Fv} (hL : Sep Tryz.prog B w0 w (dkRes b room used mo fs ++ F)) : ∀ f ∈ fs, ∃ a c, f.v = .slice a f.d.length c := fun f hf => dk_shape hL hf
set_option maxHeartbeats 1000000 in
theorem rename_fn {B b room : Nat} {S : List Fl} {F : List Res} (a z : ByteArray) (ha : a.size ≤ 1000000) (hz : z.size ≤ 1000000) {w0 w : World} (hD : DkS B w0 w b room S F) :
    Fn Tryz.prog 30 #[ptr b, .string a, .string z] w fun r w' => r = .int .i64 (renE S a z : Nat) ∧ DkS B w0 w' b room (if renE S a z = 1 then S else renS S a z) F := by
  obtain ⟨⟨mo, fs, rfl, hok, hmo, hL⟩, hB⟩ := hD
  by_cases hn : 1 ≤ z.size ∧ z.size ≤ 64
  case neg =>
    have e1 : renE (fs.map Fv.fl) a z = 1 := by rw [renE, if_pos hn]
    rw [e1, if_pos rfl]
    refine Fn.mk Tryz.func30 rfl (by kernel_rfl) Tryz.ntmps30 rfl (by rw [Tryz.results30]) ?_
    repeat (first | (refine RunH ?_; intro w hL hB; try clear w) | (refine Both.mk ?_ ?_ <;> conv => whnf) | (refine (isName_fn z hz _).mono fun r w1 hr => ?_; obtain ⟨hr, hw⟩ := hr; subst hr; subst hw; conv => whnf) | fail)
    exact ⟨rfl, DkS.mk' hok hmo rfl hL hB⟩
  have hsh := OkF.shapes hL
  cases hf : getF fs a with
  | none =>
    have e1 : renE (fs.map Fv.fl) a z = 7 := by rw [renE, if_neg (fun h => h hn), getF_fl, hf]; rfl
    have e2 : renS (fs.map Fv.fl) a z = fs.map Fv.fl := by rw [renS, getF_fl, hf]; rfl
    rw [e1, if_neg (by decide), e2]
    refine Fn.mk Tryz.func30 rfl (by kernel_rfl) Tryz.ntmps30 rfl (by rw [Tryz.results30]) ?_
    repeat (first | (refine RunH ?_; intro w hL hB; try clear w) | (refine Both.mk ?_ ?_ <;> conv => whnf) | (refine (isName_fn z hz _).mono fun r w1 hr => ?_; obtain ⟨hr, hw⟩ := hr; subst hr; subst hw; conv => whnf) | (refine Br.yes (decide_eq_true hn) ?_; conv => whnf) | fail)
    refine (of_fn a ha hok.nd hmo hL hB).mono fun r w ⟨hr, hL, hB⟩ => ?_
    subst hr
    rw [ofV_none hf]
    conv => whnf
    repeat (first | (refine RunH ?_; intro w hL hB; try clear w) | (refine Both.mk ?_ ?_ <;> conv => whnf) | (refine Nw.sep hL hB (fun b1 w hL hB hb1 => ?_); conv => whnf) | fail)
    exact ⟨rfl, DkS.mk' hok hmo rfl hL.tl hB⟩
  | some f =>
    obtain ⟨m, rfl⟩ := mo_some hmo hf
    obtain ⟨fa, fc, hfv⟩ := dk_shape hL (getF_mem hf)
    have e1 : renE (fs.map Fv.fl) a z = 0 := by rw [renE, if_neg (fun h => h hn), getF_fl, hf]; rfl
    rw [e1, if_neg (by decide)]
    refine Fn.mk Tryz.func30 rfl (by kernel_rfl) Tryz.ntmps30 rfl (by rw [Tryz.results30]) ?_
    repeat (first | (refine RunH ?_; intro w hL hB; try clear w) | (refine Both.mk ?_ ?_ <;> conv => whnf) | (refine (isName_fn z hz _).mono fun r w1 hr => ?_; obtain ⟨hr, hw⟩ := hr; subst hr; subst hw; conv => whnf) | (refine Br.yes (decide_eq_true hn) ?_; conv => whnf) | fail)
    refine (of_fn a ha hok.nd hmo hL hB).mono fun r w ⟨hr, hL, hB⟩ => ?_
    subst hr
    rw [ofV_some hf hfv]
    conv => whnf
    by_cases haz : a = z
    · have e2 : renS (fs.map Fv.fl) a z = fs.map Fv.fl := by rw [renS, getF_fl, hf]; simp [haz]
      rw [e2]
      repeat (first | (refine RunH ?_; intro w hL hB; try clear w) | (refine Both.mk ?_ ?_ <;> conv => whnf) | (refine Nw.sep hL hB (fun b1 w hL hB hb1 => ?_); conv => whnf) | fail)
      exact ⟨rfl, DkS.mk' (mo := some m) hok hmo rfl hL.tl hB⟩
    · have e2 : renS (fs.map Fv.fl) a z = putS (delS (fs.map Fv.fl) a) ⟨z, f.d, f.la⟩ := by rw [renS, getF_fl, hf]; simp [haz, Fv.fl]
      obtain ⟨hl1, hl2⟩ := len_le hok hf
      have hdel := tot_del fs a
      rw [oldN_some hf] at hdel
      have hla := hok.la f (getF_mem hf)
      have hlen : (delF fs a).length < 256 := by
        obtain ⟨A, C, hfs, h1, h2⟩ := getF_some hf
        have := hok.len
        rw [hfs, delF_split h2 h1]
        rw [hfs] at this
        simp at this ⊢; omega
      rw [e2]
      repeat (first | (refine RunH ?_; intro w hL hB; try clear w) | (refine Both.mk ?_ ?_ <;> conv => whnf) | (refine Nw.sep hL hB (fun b1 w hL hB hb1 => ?_); conv => whnf) | fail)
      refine (removeF_fn (F := _ :: F) a ha hf hok (hL.perm List.perm_middle.symm) hB).mono fun r w ⟨hr, hL, hB⟩ => ?_
      subst hr
      replace hL := hL.perm (bring (A := f.row :: .blk b [.int .i64 (room : Int), .int .i64 (tot (delF fs a) : Int), .map (some m)] 81 :: mRes (some m) (delF fs a)))
      conv => whnf
      repeat (first | (refine RunH ?_; intro w hL hB; try clear w) | (refine Both.mk ?_ ?_ <;> conv => whnf) | fail)
      have hok1 := hok.del a
      have hrow : Fv.row ⟨z, .slice fa f.d.length fc, f.d, f.la⟩ = f.row := by rw [Fv.row, Fv.row, hfv]
      have hL2 : Sep Tryz.prog B w0 w (.blk b [.int .i64 (room : Int), .int .i64 (tot (delF fs a) : Int), .map (some m)] 81 :: (mRes (some m) (delF fs a) ++ ((putF (delF fs a) ⟨z, .slice fa f.d.length fc, f.d, f.la⟩).map Fv.row ++ (.blk b1 [.slice fa f.d.length fc, .int .i64 (f.la : Int)] 121 :: F)))) := by
        refine lay_prep ?_
        refine (hL.sub (L' := .blk b1 [.slice fa f.d.length fc, .int .i64 (f.la : Int)] 121 :: f.row :: .blk b [.int .i64 (room : Int), .int .i64 (tot (delF fs a) : Int), .map (some m)] 81 :: (mRes (some m) (delF fs a) ++ ((delF (delF fs a) z).map Fv.row ++ F))) ?_).perm ?_
        · exact .cons_cons _ (.cons_cons _ (.cons_cons _ ((List.Sublist.refl _).append (((delF_sub _ _).map _).append (.refl _)))))
        · rw [← hrow]
          exact (bring (A := _ :: _ :: mRes (some m) (delF fs a))).symm
      refine (lay_fn (mo := some m) ⟨z, .slice fa f.d.length fc, f.d, f.la⟩ hz hok1.nd (fun h => by cases h) (fun x hx => hsh x ((delF_sub _ _).subset hx)) rfl (by omega) (by dsimp only; omega) hL2 hB).mono fun r w ⟨m', hL, hB⟩ => ?_
      clear hL2
      conv => whnf
      repeat (first | (refine RunH ?_; intro w hL hB; try clear w) | (refine Both.mk ?_ ?_ <;> conv => whnf) | fail)
      refine ⟨rfl, ?_⟩
      have h3 := OkF.put hok1 (g := ⟨z, .slice fa f.d.length fc, f.d, f.la⟩) hla hn (by have := hok.tot; have := oldN_le (delF fs a) z; dsimp only; omega) (.inr hlen)
      have := DkS.mk' (mo := some m') h3 (fun h => by cases h) rfl (hL.perm List.perm_middle).tl hB
      rw [putF_fl, delF_fl] at this
      exact this
end Go.Proofs.YtladfadcgfdbfaaGreatDoor
