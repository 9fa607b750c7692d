/- disk: Read, Sync, Used, Remove. Nothing is claimed here. -/
import Derived.Test.YtjafamiaahabgaaDoorDb
namespace Go.Proofs.YtjafamiaahabgaaDoor
open Go.RowKit
open Go.Maps (Keyed)
set_option linter.unusedVariables false
set_option linter.unusedSimpArgs false
set_option maxRecDepth 100000

theorem clone_fn (v : Value) (l : List UInt8) (w0 : World) (hs : Sl w0 v (bv l)) (hlen : l.length ≤ 2147483648) : Fn Tryd.prog 24 #[v] w0 fun r w' => w'.ownsRow w0.heap.size 5 1 r l.length (bv l) ∧ Below w0.heap.size w0 w' := by
  have hL := Sep.start Tryd.prog w0
  have hB := Nat.le_refl w0.heap.size
  obtain ⟨a, c, rfl⟩ := hs.shape
  simp only [bv_length] at *
  refine Fn.mk Tryd.func24 rfl (by kernel_rfl) Tryd.ntmps24 rfl (by rw [Tryd.results24]) ?_
  cases a with
  | none =>
    obtain rfl : l = [] := by
      rcases hs.cases with ⟨he, hx⟩ | ⟨ad, c', he, _⟩
      · simpa [bv] using hx
      · cases he
    repeat (first | (refine RunH ?_; intro w hL hB; try clear w) | (refine Both.mk ?_ ?_ <;> conv => whnf) | fail)
    exact ⟨World.ownsRow_nil w0 _ _ _, Below.refl _ _⟩
  | some ad =>
    repeat (first | (refine RunH ?_; intro w hL hB; try clear w) | (refine Both.mk ?_ ?_ <;> conv => whnf) | fail)
    refine Rv.buildS (len := 0) (vs := []) ttOk hL tl23 tl5 rfl rfl (by intro u hu; cases hu) (by decide) (by decide) hB fun bo w hL hB => ?_
    conv => whnf
    repeat (first | (refine RunH ?_; intro w hL hB; try clear w) | (refine Both.mk ?_ ?_ <;> conv => whnf) | fail)
    refine Rv.appendS (m := l.length) ttOk hL tl23 tl5 rfl (by decide) 0 rfl (by have := (hL.sl hs rfl).toN; rw [bv_length] at this; exact this) (bv_one _) (by simp only [maxLen]; omega) (by omega) hB fun v' w hL hB => ?_
    obtain ⟨ba, bc, rfl⟩ := (show SlN w 1 v' _ _ from hL.rowN (i := 0) rfl).shape
    dsimp only [List.set] at hL
    conv => whnf
    repeat (first | (refine RunH ?_; intro w hL hB; try clear w) | (refine Both.mk ?_ ?_ <;> conv => whnf) | fail)
    have ho := hL.ownR (i := 0) rfl
    exact ⟨by simpa using ho, hL.below⟩

theorem read_fn {B b room : Nat} {S : List Fl} {F : List Res} (nm : ByteArray) (hnm : nm.size ≤ 1000000) {w0 w : World} (hD : DkS B w0 w b room S F) :
    Fn Tryd.prog 31 #[ptr b, .string nm] w fun r w' => match getS S nm with
      | some f => ∃ u, r = .tuple #[u, .int .i64 0] ∧ DkS B w0 w' b room S (.row 5 1 u f.d.length (bv f.d) :: F)
      | none => r = .tuple #[.slice none 0 0, .int .i64 7] ∧ DkS B w0 w' b room S F := by
  obtain ⟨⟨mo, fs, rfl, hok, hmo, hL⟩, hB⟩ := hD
  rw [getF_fl]
  cases hf : getF fs nm with
  | none =>
    simp only [Option.map_none]
    refine Fn.mk Tryd.func31 rfl (by kernel_rfl) Tryd.ntmps31 rfl (by rw [Tryd.results31]) ?_
    repeat (first | (refine RunH ?_; intro w hL hB; try clear w) | (refine Both.mk ?_ ?_ <;> conv => whnf) | fail)
    refine (of_fn nm hnm hok.nd hmo hL hB).mono fun r w ⟨hr, hL, hB⟩ => ?_
    subst hr
    rw [ofV_none hf]
    conv => whnf
    repeat (first | (refine RunH ?_; intro w hL hB; try clear w) | (refine Both.mk ?_ ?_ <;> conv => whnf) | (refine Nw.sep hL hB (fun b1 w hL hB hb1 => ?_); conv => whnf) | fail)
    exact ⟨rfl, DkS.mk' hok hmo rfl hL.tl hB⟩
  | some f =>
    simp only [Option.map_some, Fv.fl]
    obtain ⟨fa, fc, hfv⟩ := dk_shape hL (getF_mem hf)
    have hfd : f.d.length ≤ 1073741824 := by
      have h1 := hok.tot
      have h2 := hok.room
      have h3 := oldN_le fs nm
      rw [oldN, hf] at h3
      simp only at h3
      omega
    refine Fn.mk Tryd.func31 rfl (by kernel_rfl) Tryd.ntmps31 rfl (by rw [Tryd.results31]) ?_
    repeat (first | (refine RunH ?_; intro w hL hB; try clear w) | (refine Both.mk ?_ ?_ <;> conv => whnf) | fail)
    refine (of_fn nm hnm hok.nd hmo hL hB).mono fun r w ⟨hr, hL, hB⟩ => ?_
    subst hr
    rw [ofV_some hf hfv]
    conv => whnf
    repeat (first | (refine RunH ?_; intro w hL hB; try clear w) | (refine Both.mk ?_ ?_ <;> conv => whnf) | (refine Nw.sep hL hB (fun b1 w hL hB hb1 => ?_); conv => whnf) | fail)
    have hrow : Sl w (.slice fa f.d.length fc) (bv f.d) := by
      have h : f.row.holds Tryd.prog w := hL.hold f.row (by simp only [dkRes, List.mem_cons, List.mem_append, List.mem_map]; exact .inr (.inl (.inr (.inr ⟨f, getF_mem hf, rfl⟩))))
      rw [← hfv]
      exact RowC.sl h
    refine (clone_fn _ f.d _ hrow (by omega)).mono fun r w ⟨ho, hw⟩ => ?_
    replace hL := hL.addRow hB hw ho
    replace hB := Nat.le_trans hB hw.size
    obtain ⟨ra, rc, rfl⟩ := (show SlN w 1 r _ _ from hL.rowN (i := 0) rfl).shape
    conv => whnf
    repeat (first | (refine RunH ?_; intro w hL hB; try clear w) | (refine Both.mk ?_ ?_ <;> conv => whnf) | fail)
    refine ⟨_, rfl, DkS.mk' (mo := mo) hok hmo rfl ?_ hB⟩
    exact (hL.sub (L' := _ :: (dkRes b room (tot fs) mo fs ++ F)) (.cons_cons _ (.cons _ (.refl _)))).perm List.perm_middle.symm

def syncS (S : List Fl) (nm : ByteArray) : List Fl := match getS S nm with
  | some f => putS S ⟨nm, f.d, f.d.length⟩
  | none => S
theorem sync_fn {B b room : Nat} {S : List Fl} {F : List Res} (nm : ByteArray) (hnm : nm.size ≤ 1000000) {w0 w : World} (hD : DkS B w0 w b room S F) :
    Fn Tryd.prog 17 #[ptr b, .string nm] w fun r w' => r = .int .i64 (if (getS S nm).isSome then 0 else 7) ∧ DkS B w0 w' b room (syncS S nm) F := by
  obtain ⟨⟨mo, fs, rfl, hok, hmo, hL⟩, hB⟩ := hD
  have hg := strGood hnm
  rw [syncS, getF_fl]
  cases hf : getF fs nm with
  | none =>
    simp only [Option.map_none, Option.isSome_none]
    refine Fn.mk Tryd.func17 rfl (by kernel_rfl) Tryd.ntmps17 rfl (by rw [Tryd.results17]) ?_
    repeat (first | (refine RunH ?_; intro w hL hB; try clear w) | (refine Both.mk ?_ ?_ <;> conv => whnf) | fail)
    refine (of_fn nm hnm hok.nd hmo hL hB).mono fun r w ⟨hr, hL, hB⟩ => ?_
    subst hr
    rw [ofV_none hf]
    conv => whnf
    repeat (first | (refine RunH ?_; intro w hL hB; try clear w) | (refine Both.mk ?_ ?_ <;> conv => whnf) | (refine Nw.sep hL hB (fun b1 w hL hB hb1 => ?_); conv => whnf) | fail)
    exact ⟨rfl, DkS.mk' hok hmo rfl hL.tl hB⟩
  | some f =>
    simp only [Option.map_some, Option.isSome_some, Fv.fl]
    obtain ⟨fa, fc, hfv⟩ := dk_shape hL (getF_mem hf)
    have hfn : f.nm = nm := by obtain ⟨_, _, _, h, _⟩ := getF_some hf; exact h
    cases mo with
    | none =>
      obtain rfl := hmo rfl
      cases hf
    | some m =>
    refine Fn.mk Tryd.func17 rfl (by kernel_rfl) Tryd.ntmps17 rfl (by rw [Tryd.results17]) ?_
    repeat (first | (refine RunH ?_; intro w hL hB; try clear w) | (refine Both.mk ?_ ?_ <;> conv => whnf) | fail)
    refine (of_fn nm hnm hok.nd hmo hL hB).mono fun r w ⟨hr, hL, hB⟩ => ?_
    subst hr
    rw [ofV_some hf hfv]
    replace hL := dk_take hf hL
    simp only [mRes, List.nil_append, List.cons_append, Fv.row, hfv] at hL
    have htot := tot_fl fs
    have hfd : f.d.length ≤ 1073741824 := by
      have h1 := hok.tot
      have h2 := hok.room
      have h3 := oldN_le fs nm
      rw [oldN, hf] at h3
      simp only at h3
      omega
    conv => whnf
    repeat (first | (refine RunH ?_; intro w hL hB; try clear w) | (refine Both.mk ?_ ?_ <;> conv => whnf) | (refine Nw.sep hL hB (fun b1 w hL hB hb1 => ?_); conv => whnf) | fail)
    refine Ru.putS (v := (⟨nm, .slice fa f.d.length fc, f.d, f.d.length⟩ : Fv).val) ttOk hL strK 3 tl42 rfl hg hB (fun w l' hput hL hB => ?_)
    conv => whnf
    repeat (first | (refine RunH ?_; intro w hL hB; try clear w) | (refine Both.mk ?_ ?_ <;> conv => whnf) | fail)
    obtain rfl := put_files (g := ⟨nm, .slice fa f.d.length fc, f.d, f.d.length⟩) hok.nd hput
    refine ⟨rfl, ?_⟩
    have h1 := hok.nm f (getF_mem hf)
    rw [hfn] at h1
    have ht := tot_put fs ⟨nm, .slice fa f.d.length fc, f.d, f.d.length⟩
    have ho : oldN fs nm = f.d.length := by rw [oldN, hf]
    simp only [ho] at ht
    have := DkS.mk' (room := room) (mo := some m) (used := tot fs) (fs := putF fs ⟨nm, .slice fa f.d.length fc, f.d, f.d.length⟩) (hok.put (Nat.le_refl _) h1 (by have := hok.tot; simp only [ho]; omega) (.inl (by simp [hf]))) (fun h => by cases h) (by omega) (dk_back hL.tl) hB
    rw [putF_fl] at this
    exact this
end Go.Proofs.YtjafamiaahabgaaDoor
