/- disk: Remove, Rename, Cut, Rot. Nothing is claimed here. -/
import Derived.Test.YtjafamiaahabgaaDoorDc
namespace Go.Proofs.YtjafamiaahabgaaDoor
open Go.RowKit
open Go.Maps (Keyed)
set_option linter.unusedVariables false
set_option linter.unusedSimpArgs false
set_option maxRecDepth 100000

/-- the same blocks, said otherwise -/
theorem Sep.says {P : Program} {B : Nat} {w0 w : World} {R R' : Res} {L : List Res} (h : Sep P B w0 w (R :: L)) (hR : R'.holds P w) (hb : R'.blocks = R.blocks) : Sep P B w0 w (R' :: L) :=
  ⟨h.below, fun Q hQ => by
    rcases List.mem_cons.1 hQ with rfl | hQ
    · exact hR
    · exact h.hold Q (by simp [hQ]), fun Q hQ => by
    rcases List.mem_cons.1 hQ with rfl | hQ
    · rw [hb]; exact h.own R (by simp)
    · exact h.own Q (by simp [hQ]), by have := h.apart; simpa [hb] using this⟩
theorem bring {α : Type} {A C F : List α} {x : α} : (A ++ (C ++ x :: F)).Perm (x :: (A ++ (C ++ F))) := by
  rw [← List.append_assoc, ← List.append_assoc]
  exact List.perm_middle
theorem lay_prep {B b : Nat} {w0 w : World} {mo : Option Nat} {fs : List Fv} {g : Fv} {cs : List Value} {t : TypeId} {F : List Res} (hL : Sep Tryd.prog B w0 w (g.row :: .blk b cs t :: (mRes mo fs ++ ((delF fs g.nm).map Fv.row ++ F)))) :
    Sep Tryd.prog B w0 w (.blk b cs t :: (mRes mo fs ++ ((putF fs g).map Fv.row ++ F))) := by
  refine hL.perm (List.Perm.trans (.swap _ _ _) (.cons _ ?_))
  exact List.perm_middle.symm.trans (((put_perm fs g).append_right F).symm.append_left _)
theorem oldN_some {fs : List Fv} {nm : ByteArray} {f : Fv} (h : getF fs nm = some f) : oldN fs nm = f.d.length := by rw [oldN, h]
theorem len_le {room : Nat} {fs : List Fv} {nm : ByteArray} {f : Fv} (hok : OkF room fs) (hf : getF fs nm = some f) : f.d.length ≤ tot fs ∧ tot fs ≤ 1073741824 := by
  have h1 := hok.tot
  have h2 := hok.room
  have h3 := oldN_le fs nm
  rw [oldN_some hf] at h3
  omega
theorem mo_some {mo : Option Nat} {fs : List Fv} {nm : ByteArray} {f : Fv} (hmo : mo = none → fs = []) (hf : getF fs nm = some f) : ∃ m, mo = some m := by
  cases mo with
  | none => rw [hmo rfl] at hf; cases hf
  | some m => exact ⟨m, rfl⟩

theorem removeF_fn {B b room m : Nat} {fs : List Fv} {F : List Res} (nm : ByteArray) (hnm : nm.size ≤ 1000000) {f : Fv} (hf : getF fs nm = some f) (hok : OkF room fs) {w0 w : World} (hL : Sep Tryd.prog B w0 w (dkRes b room (tot fs) (some m) fs ++ F)) (hB : B ≤ w.heap.size) :
    Fn Tryd.prog 15 #[ptr b, .string nm] w fun r w' => r = .int .i64 0 ∧
      Sep Tryd.prog B w0 w' (f.row :: .blk b [.int .i64 (room : Int), .int .i64 (tot (delF fs nm) : Int), .map (some m)] 44 :: (mRes (some m) (delF fs nm) ++ ((delF fs nm).map Fv.row ++ F))) ∧ B ≤ w'.heap.size := by
  have hg := strGood hnm
  obtain ⟨fa, fc, hfv⟩ := dk_shape hL (getF_mem hf)
  obtain ⟨hl1, hl2⟩ := len_le hok hf
  have hdel := tot_del fs nm
  rw [oldN_some hf] at hdel
  refine Fn.mk Tryd.func15 rfl (by kernel_rfl) Tryd.ntmps15 rfl (by rw [Tryd.results15]) ?_
  repeat (first | (refine RunH ?_; intro w hL hB; try clear w) | (refine Both.mk ?_ ?_ <;> conv => whnf) | fail)
  refine (of_fn nm hnm hok.nd (fun h => by cases h) hL hB).mono fun r w ⟨hr, hL, hB⟩ => ?_
  subst hr
  rw [ofV_some hf hfv]
  replace hL := dk_take hf hL
  simp only [mRes, List.nil_append, List.cons_append, Fv.row, hfv] at hL ⊢
  conv => whnf
  repeat (first | (refine RunH ?_; intro w hL hB; try clear w) | (refine Both.mk ?_ ?_ <;> conv => whnf) | (refine Nw.sep hL hB (fun b1 w hL hB hb1 => ?_); conv => whnf) | fail)
  refine Rv.goneS ttOk hL strK 3 tl42 rfl hg hB (fun w l' hgone hL hB => ?_)
  conv => whnf
  repeat (first | (refine RunH ?_; intro w hL hB; try clear w) | (refine Both.mk ?_ ?_ <;> conv => whnf) | fail)
  obtain rfl := gone_files hok.nd hgone
  refine ⟨rfl, ?_, hB⟩
  rw [show (tot fs : Int) - (f.d.length : Int) = (tot (delF fs nm) : Int) by omega] at hL
  exact hL.tl
theorem remove_fn {B b room : Nat} {S : List Fl} {F : List Res} (nm : ByteArray) (hnm : nm.size ≤ 1000000) {w0 w : World} (hD : DkS B w0 w b room S F) :
    Fn Tryd.prog 15 #[ptr b, .string nm] w fun r w' => r = .int .i64 (if (getS S nm).isSome then 0 else 7) ∧ DkS B w0 w' b room (delS S nm) F := by
  obtain ⟨⟨mo, fs, rfl, hok, hmo, hL⟩, hB⟩ := hD
  rw [getF_fl, ← delF_fl]
  cases hf : getF fs nm with
  | none =>
    rw [delF_none (getF_none hf)]
    simp only [Option.map_none, Option.isSome_none]
    refine Fn.mk Tryd.func15 rfl (by kernel_rfl) Tryd.ntmps15 rfl (by rw [Tryd.results15]) ?_
    repeat (first | (refine RunH ?_; intro w hL hB; try clear w) | (refine Both.mk ?_ ?_ <;> conv => whnf) | fail)
    refine (of_fn nm hnm hok.nd hmo hL hB).mono fun r w ⟨hr, hL, hB⟩ => ?_
    subst hr
    rw [ofV_none hf]
    conv => whnf
    repeat (first | (refine RunH ?_; intro w hL hB; try clear w) | (refine Both.mk ?_ ?_ <;> conv => whnf) | (refine Nw.sep hL hB (fun b1 w hL hB hb1 => ?_); conv => whnf) | fail)
    exact ⟨rfl, DkS.mk' hok hmo rfl hL.tl hB⟩
  | some f =>
    obtain ⟨m, rfl⟩ := mo_some hmo hf
    refine (removeF_fn nm hnm hf hok hL hB).mono fun r w' ⟨hr, hL, hB⟩ => ?_
    refine ⟨by simp [hr], DkS.mk' (mo := some m) (hok.del nm) (fun h => by cases h) rfl ?_ hB⟩
    have := hL.tl
    simpa [dkRes] using this

def renS (S : List Fl) (a z : ByteArray) : List Fl := match getS S a with
  | some f => if a = z then S else putS (delS S a) ⟨z, f.d, f.la⟩
  | none => S
def renE (S : List Fl) (a z : ByteArray) : Nat := if ¬ (1 ≤ z.size ∧ z.size ≤ 64) then 1 else if (getS S a).isSome then 0 else 7
theorem OkF.shapes {room used B b : Nat} {mo : Option Nat} {w0 w : World} {F : List Res} {fs : List Fv} (hL : Sep Tryd.prog B w0 w (dkRes b room used mo fs ++ F)) : ∀ f ∈ fs, ∃ a c, f.v = .slice a f.d.length c := fun f hf => dk_shape hL hf
end Go.Proofs.YtjafamiaahabgaaDoor
