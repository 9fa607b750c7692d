/- disk: Remove, Rename, Cut, Rot. disk: Cut, Rot. Nothing is claimed here. -/
import Derived.Test.YtjafamiaahabgaaGreatDoorK05
namespace Go.Proofs.YtjafamiaahabgaaGreatDoor
open Go.RowKit
open Go.Maps (Keyed)
set_option linter.unusedVariables false
set_option linter.unusedSimpArgs false
set_option maxRecDepth 100000

/-- the same blocks, said otherwise -/
theorem Sep.says {P : Program} {B : Nat} {w0 w : World} {R R' : Res} {L : List Res} (h : Sep P B w0 w (R :: L)) (hR : R'.holds P w) (hb : R'.blocks = R.blocks) : Sep P B w0 w (R' :: L) :=
  ⟨h.below, fun Q hQ => by
    rcases List.mem_cons.1 hQ with rfl | hQ
    · exact hR
    · exact h.hold Q (by simp [hQ]), fun Q hQ => by
    rcases List.mem_cons.1 hQ with rfl | hQ
    · rw [hb]; exact h.own R (by simp)
    · exact h.own Q (by simp [hQ]), by have := h.apart; simpa [hb] using this⟩
theorem bring {α : Type} {A C F : List α} {x : α} : (A ++ (C ++ x :: F)).Perm (x :: (A ++ (C ++ F))) := by
  rw [← List.append_assoc, ← List.append_assoc]
  exact List.perm_middle
theorem lay_prep {B b : Nat} {w0 w : World} {mo : Option Nat} {fs : List Fv} {g : Fv} {cs : List Value} {t : TypeId} {F : List Res} (hL : Sep Tryz.prog B w0 w (g.row :: .blk b cs t :: (mRes mo fs ++ ((delF fs g.nm).map Fv.row ++ F)))) :
    Sep Tryz.prog B w0 w (.blk b cs t :: (mRes mo fs ++ ((putF fs g).map Fv.row ++ F))) := by
  refine hL.perm (List.Perm.trans (.swap _ _ _) (.cons _ ?_))
  exact List.perm_middle.symm.trans (((put_perm fs g).append_right F).symm.append_left _)
theorem oldN_some {fs : List Fv} {nm : ByteArray} {f : Fv} (h : getF fs nm = some f) : oldN fs nm = f.d.length := by rw [oldN, h]
theorem len_le {room : Nat} {fs : List Fv} {nm : ByteArray} {f : Fv} (hok : OkF room fs) (hf : getF fs nm = some f) : f.d.length ≤ tot fs ∧ tot fs ≤ 1073741824 := by
  have h1 := hok.tot
  have h2 := hok.room
  have h3 := oldN_le fs nm
  rw [oldN_some hf] at h3
  omega
theorem mo_some {mo : Option Nat} {fs : List Fv} {nm : ByteArray} {f : Fv} (hmo : mo = none → fs = []) (hf : getF fs nm = some f) : ∃ m, mo = some m := by
  cases mo with
  | none => rw [hmo rfl] at hf; cases hf
  | some m => exact ⟨m, rfl⟩

theorem removeF_fn {B b room m : Nat} {fs : List Fv} {F : List Res} (nm : ByteArray) (hnm : nm.size ≤ 1000000) {f : Fv} (hf : getF fs nm = some f) (hok : OkF room fs) {w0 w : World} (hL : Sep Tryz.prog B w0 w (dkRes b room (tot fs) (some m) fs ++ F)) (hB : B ≤ w.heap.size) :
    Fn Tryz.prog 27 #[ptr b, .string nm] w fun r w' => r = .int .i64 0 ∧
      Sep Tryz.prog B w0 w' (f.row :: .blk b [.int .i64 (room : Int), .int .i64 (tot (delF fs nm) : Int), .map (some m)] 62 :: (mRes (some m) (delF fs nm) ++ ((delF fs nm).map Fv.row ++ F))) ∧ B ≤ w'.heap.size := by
  have hg := strGood hnm
  obtain ⟨fa, fc, hfv⟩ := dk_shape hL (getF_mem hf)
  obtain ⟨hl1, hl2⟩ := len_le hok hf
  have hdel := tot_del fs nm
  rw [oldN_some hf] at hdel
  refine Fn.mk Tryz.func27 rfl (by kernel_rfl) Tryz.ntmps27 rfl (by rw [Tryz.results27]) ?_
  repeat (first | (refine RunH ?_; intro w hL hB; try clear w) | (refine Both.mk ?_ ?_ <;> conv => whnf) | fail)
  refine (of_fn nm hnm hok.nd (fun h => by cases h) hL hB).mono fun r w ⟨hr, hL, hB⟩ => ?_
  subst hr
  rw [ofV_some hf hfv]
  replace hL := dk_take hf hL
  simp only [mRes, List.nil_append, List.cons_append, Fv.row, hfv] at hL ⊢
  conv => whnf
  repeat (first | (refine RunH ?_; intro w hL hB; try clear w) | (refine Both.mk ?_ ?_ <;> conv => whnf) | (refine Nw.sep hL hB (fun b1 w hL hB hb1 => ?_); conv => whnf) | fail)
  refine Rv.goneS ttOk hL strK 3 tl60 rfl hg hB (fun w l' hgone hL hB => ?_)
  conv => whnf
  repeat (first | (refine RunH ?_; intro w hL hB; try clear w) | (refine Both.mk ?_ ?_ <;> conv => whnf) | fail)
  obtain rfl := gone_files hok.nd hgone
  refine ⟨rfl, ?_, hB⟩
  rw [show (tot fs : Int) - (f.d.length : Int) = (tot (delF fs nm) : Int) by omega] at hL
  exact hL.tl
theorem remove_fn {B b room : Nat} {S : List Fl} {F : List Res} (nm : ByteArray) (hnm : nm.size ≤ 1000000) {w0 w : World} (hD : DkS B w0 w b room S F) :
    Fn Tryz.prog 27 #[ptr b, .string nm] w fun r w' => r = .int .i64 (if (getS S nm).isSome then 0 else 7) ∧ DkS B w0 w' b room (delS S nm) F := by
  obtain ⟨⟨mo, fs, rfl, hok, hmo, hL⟩, hB⟩ := hD
  rw [getF_fl, ← delF_fl]
  cases hf : getF fs nm with
  | none =>
    rw [delF_none (getF_none hf)]
    simp only [Option.map_none, Option.isSome_none]
    refine Fn.mk Tryz.func27 rfl (by kernel_rfl) Tryz.ntmps27 rfl (by rw [Tryz.results27]) ?_
    repeat (first | (refine RunH ?_; intro w hL hB; try clear w) | (refine Both.mk ?_ ?_ <;> conv => whnf) | fail)
    refine (of_fn nm hnm hok.nd hmo hL hB).mono fun r w ⟨hr, hL, hB⟩ => ?_
    subst hr
    rw [ofV_none hf]
    conv => whnf
    repeat (first | (refine RunH ?_; intro w hL hB; try clear w) | (refine Both.mk ?_ ?_ <;> conv => whnf) | (refine Nw.sep hL hB (fun b1 w hL hB hb1 => ?_); conv => whnf) | fail)
    exact ⟨rfl, DkS.mk' hok hmo rfl hL.tl hB⟩
  | some f =>
    obtain ⟨m, rfl⟩ := mo_some hmo hf
    refine (removeF_fn nm hnm hf hok hL hB).mono fun r w' ⟨hr, hL, hB⟩ => ?_
    refine ⟨by simp [hr], DkS.mk' (mo := some m) (hok.del nm) (fun h => by cases h) rfl ?_ hB⟩
    have := hL.tl
    simpa [dkRes] using this

def renS (S : List Fl) (a z : ByteArray) : List Fl := match getS S a with
  | some f => if a = z then S else putS (delS S a) ⟨z, f.d, f.la⟩
  | none => S
def renE (S : List Fl) (a z : ByteArray) : Nat := if ¬ (1 ≤ z.size ∧ z.size ≤ 64) then 1 else if (getS S a).isSome then 0 else 7
theorem OkF.shapes {room used B b : Nat} {mo : Option Nat} {w0 w : World} {F : List Res} {fs : List Fv} (hL : Sep Tryz.prog B w0 w (dkRes b room used mo fs ++ F)) : ∀ f ∈ fs, ∃ a c, f.v = .slice a f.d.length c := fun f hf => dk_shape hL hf
end Go.Proofs.YtjafamiaahabgaaGreatDoor
namespace Go.Proofs.YtjafamiaahabgaaGreatDoor
open Go.RowKit
open Go.Maps (Keyed)
set_option linter.unusedVariables false
set_option linter.unusedSimpArgs false
set_option maxRecDepth 100000

theorem DkS.perm {B : Nat} {w0 w : World} {b room : Nat} {S : List Fl} {F F' : List Res} (h : DkS B w0 w b room S F) (hp : F.Perm F') : DkS B w0 w b room S F' := by
  obtain ⟨⟨mo, fs, h1, h2, h3, hL⟩, hB⟩ := h
  exact ⟨⟨mo, fs, h1, h2, h3, hL.perm (hp.append_left _)⟩, hB⟩
theorem DkS.sub {B : Nat} {w0 w : World} {b room : Nat} {S : List Fl} {F F' : List Res} (h : DkS B w0 w b room S F) (hp : F'.Sublist F) : DkS B w0 w b room S F' := by
  obtain ⟨⟨mo, fs, h1, h2, h3, hL⟩, hB⟩ := h
  exact ⟨⟨mo, fs, h1, h2, h3, hL.sub ((List.Sublist.refl _).append hp)⟩, hB⟩
theorem DkS.tl {B : Nat} {w0 w : World} {b room : Nat} {S : List Fl} {F : List Res} {R : Res} (h : DkS B w0 w b room S (R :: F)) : DkS B w0 w b room S F := h.sub (List.sublist_cons_self _ _)

def cutE (S : List Fl) (nm : ByteArray) (n : Int) : Nat := match getS S nm with
  | some f => if n < 0 ∨ (f.d.length : Int) < n then 1 else 0
  | none => 7
def cutS (S : List Fl) (nm : ByteArray) (n : Int) : List Fl := match getS S nm with
  | some f => if n < 0 ∨ (f.d.length : Int) < n then S else putS S ⟨nm, f.d.take n.toNat, min n.toNat f.la⟩
  | none => S
theorem cutRow {w : World} {f : Fv} {a : Option Addr} {c k : Nat} (hv : f.v = .slice a f.d.length c) (hk : k ≤ f.d.length) (h : f.row.holds Tryz.prog w) : RowC w 5 (.slice a k k) k (bv (f.d.take k)) ∧ rowB (Value.slice a k k).ownBlock = rowB f.v.ownBlock ∧ (∀ x, a = some x → x.off = 0 ∧ x.spot = none) ∧ f.d.length ≤ c ∧ (a = none → f.d.length = 0) := by
  have h : RowC w 5 f.v f.d.length (bv f.d) := h
  rw [hv] at h ⊢
  rcases h.of with ⟨h1, h2⟩ | ⟨g, cap, cur, h1, h2⟩
  · injection h1 with e1 e2 e3
    subst e1
    subst e3
    obtain rfl : k = 0 := by omega
    exact ⟨RowC.nil w _, rfl, fun x hx => (by cases hx), by omega, fun _ => h2⟩
  · injection h1 with e1 e2 e3
    subst e1
    have := h.cut hk
    rw [bv_take] 
    exact ⟨this, rfl, fun x hx => by injection hx with hx; subst hx; exact ⟨rfl, rfl⟩, by omega, fun hx => by cases hx⟩

theorem dk_row {B b room used : Nat} {mo : Option Nat} {w0 w : World} {F : List Res} {fs : List Fv} {f : Fv} (hL : Sep Tryz.prog B w0 w (dkRes b room used mo fs ++ F)) (hf : f ∈ fs) : f.row.holds Tryz.prog w :=
  hL.hold f.row (by simp only [dkRes, List.cons_append, List.mem_cons, List.mem_append, List.mem_map]; exact .inr (.inl (.inr ⟨f, hf, rfl⟩)))

set_option maxHeartbeats 1000000 in
theorem cut_fn {B b room : Nat} {S : List Fl} {F : List Res} (nm : ByteArray) (hnm : nm.size ≤ 1000000) (n : Int) {w0 w : World} (hD : DkS B w0 w b room S F) :
    Fn Tryz.prog 39 #[ptr b, .string nm, .int .i64 n] w fun r w' => r = .int .i64 (cutE S nm n : Nat) ∧ DkS B w0 w' b room (cutS S nm n) F := by
  obtain ⟨⟨mo, fs, rfl, hok, hmo, hL⟩, hB⟩ := hD
  rw [cutE, cutS, getF_fl]
  have hsh := OkF.shapes hL
  cases hf : getF fs nm with
  | none =>
    simp only [Option.map_none]
    refine Fn.mk Tryz.func39 rfl (by kernel_rfl) Tryz.ntmps39 rfl (by rw [Tryz.results39]) ?_
    repeat (first | (refine RunH ?_; intro w hL hB; try clear w) | (refine Both.mk ?_ ?_ <;> conv => whnf) | fail)
    refine (of_fn nm hnm hok.nd hmo hL hB).mono fun r w ⟨hr, hL, hB⟩ => ?_
    subst hr
    rw [ofV_none hf]
    conv => whnf
    repeat (first | (refine RunH ?_; intro w hL hB; try clear w) | (refine Both.mk ?_ ?_ <;> conv => whnf) | (refine Nw.sep hL hB (fun b1 w hL hB hb1 => ?_); conv => whnf) | fail)
    exact ⟨rfl, DkS.mk' hok hmo rfl hL.tl hB⟩
  | some f =>
    obtain ⟨m, rfl⟩ := mo_some hmo hf
    obtain ⟨fa, fc, hfv⟩ := dk_shape hL (getF_mem hf)
    have hfn : f.nm = nm := by obtain ⟨_, _, _, h, _⟩ := getF_some hf; exact h
    simp only [Option.map_some, Fv.fl]
    by_cases hn : n < 0 ∨ (f.d.length : Int) < n
    · rw [if_pos hn, if_pos hn]
      refine Fn.mk Tryz.func39 rfl (by kernel_rfl) Tryz.ntmps39 rfl (by rw [Tryz.results39]) ?_
      repeat (first | (refine RunH ?_; intro w hL hB; try clear w) | (refine Both.mk ?_ ?_ <;> conv => whnf) | fail)
      refine (of_fn nm hnm hok.nd hmo hL hB).mono fun r w ⟨hr, hL, hB⟩ => ?_
      subst hr
      rw [ofV_some hf hfv]
      conv => whnf
      by_cases h0 : n < 0
      · repeat (first | (refine RunH ?_; intro w hL hB; try clear w) | (refine Both.mk ?_ ?_ <;> conv => whnf) | (refine Nw.sep hL hB (fun b1 w hL hB hb1 => ?_); conv => whnf) | fail)
        exact ⟨rfl, DkS.mk' (mo := some m) hok hmo rfl hL.tl hB⟩
      · repeat (first | (refine RunH ?_; intro w hL hB; try clear w) | (refine Both.mk ?_ ?_ <;> conv => whnf) | (refine Nw.sep hL hB (fun b1 w hL hB hb1 => ?_); conv => whnf) | fail)
        exact ⟨rfl, DkS.mk' (mo := some m) hok hmo rfl hL.tl hB⟩
    rw [if_neg hn, if_neg hn]
    obtain ⟨hl1, hl2⟩ := len_le hok hf
    have hla := hok.la f (getF_mem hf)
    obtain ⟨k, rfl⟩ : ∃ k : Nat, n = k := ⟨n.toNat, by omega⟩
    have hk : k ≤ f.d.length := by omega
    rw [Int.toNat_natCast]
    refine Fn.mk Tryz.func39 rfl (by kernel_rfl) Tryz.ntmps39 rfl (by rw [Tryz.results39]) ?_
    repeat (first | (refine RunH ?_; intro w hL hB; try clear w) | (refine Both.mk ?_ ?_ <;> conv => whnf) | fail)
    refine (of_fn nm hnm hok.nd hmo hL hB).mono fun r w ⟨hr, hL, hB⟩ => ?_
    subst hr
    rw [ofV_some hf hfv]
    obtain ⟨hcr, hcb, ha0, hc0, hz0⟩ := cutRow hfv hk (dk_row hL (getF_mem hf))
    have h1 := hok.nm f (getF_mem hf)
    rw [hfn] at h1
    have ho := oldN_some hf
    have fin : ∀ {w : World} {F : List Res}, Sep Tryz.prog B w0 w (.blk b [.int .i64 (room : Int), .int .i64 (tot fs : Int), .map (some m)] 62 :: (mRes (some m) fs ++ ((putF fs ⟨nm, .slice fa k k, f.d.take k, min k f.la⟩).map Fv.row ++ F))) → B ≤ w.heap.size →
        Fn Tryz.prog 40 #[ptr b, .string nm, .agg #[.slice fa k k, .int .i64 (min (k : Int) (f.la : Int))]] w fun r w' => DkS B w0 w' b room (putS (fs.map Fv.fl) ⟨nm, f.d.take k, min k f.la⟩) F := fun hL hB => by
      rw [show min (k : Int) (f.la : Int) = ((min k f.la : Nat) : Int) from by omega]
      refine (lay_fn (mo := some m) ⟨nm, .slice fa k k, f.d.take k, min k f.la⟩ hnm hok.nd (fun h => by cases h) hsh rfl (by omega) (by simp only [List.length_take]; omega) hL hB).mono fun r w ⟨m', hL, hB⟩ => ?_
      have h3 := OkF.put hok (g := ⟨nm, .slice fa k k, f.d.take k, min k f.la⟩) (by simp only [List.length_take]; omega) h1 (by have := hok.tot; simp only [List.length_take, ho]; omega) (.inl (by simp [hf]))
      have := DkS.mk' (mo := some m') h3 (fun h => by cases h) rfl hL hB
      rw [putF_fl] at this
      exact this
    have prep : ∀ {w : World} {F : List Res}, Sep Tryz.prog B w0 w (dkRes b room (tot fs) (some m) fs ++ F) → Sep Tryz.prog B w0 w (.blk b [.int .i64 (room : Int), .int .i64 (tot fs : Int), .map (some m)] 62 :: (mRes (some m) fs ++ ((putF fs ⟨nm, .slice fa k k, f.d.take k, min k f.la⟩).map Fv.row ++ F))) := fun {w F} hL => by
      obtain ⟨q1, q2, _⟩ := cutRow hfv hk (dk_row hL (getF_mem hf))
      refine lay_prep ((dk_take hf hL).says ?_ ?_)
      · have : (f.d.take k).length = k := by rw [List.length_take]; omega
        simpa [Fv.row, Res.holds, this] using q1
      · exact q2
    conv => whnf
    cases fa with
    | none =>
      obtain rfl : k = 0 := by have := hz0 rfl; omega
      repeat (first | (refine RunH ?_; intro w hL hB; try clear w) | (refine Both.mk ?_ ?_ <;> conv => whnf) | (refine Nw.sep hL hB (fun b1 w hL hB hb1 => ?_); conv => whnf) | (intro n6 c6 p1 p2; obtain rfl : n6 = 0 := (by omega); obtain rfl : c6 = 0 := (by omega); conv => whnf) | fail)
      refine (fin (F := _ :: F) (prep (hL.perm List.perm_middle.symm)) hB).mono fun r w hD => ?_
      conv => whnf
      repeat (first | (refine RunH ?_; intro w hL hB; try clear w) | (refine Both.mk ?_ ?_ <;> conv => whnf) | fail)
      exact ⟨rfl, hD.tl⟩
    | some ad =>
      obtain ⟨g, o, sp⟩ := ad
      obtain ⟨h1, h2⟩ := ha0 _ rfl
      dsimp only at h1 h2
      subst h1; subst h2
      repeat (first | (refine RunH ?_; intro w hL hB; try clear w) | (refine Both.mk ?_ ?_ <;> conv => whnf) | (refine Nw.sep hL hB (fun b1 w hL hB hb1 => ?_); conv => whnf) | (intro n6 c6 p1 p2; obtain rfl : k = n6 := (by omega); obtain rfl : k = c6 := (by omega); conv => whnf) | fail)
      refine (fin (F := _ :: F) (prep (hL.perm List.perm_middle.symm)) hB).mono fun r w hD => ?_
      conv => whnf
      repeat (first | (refine RunH ?_; intro w hL hB; try clear w) | (refine Both.mk ?_ ?_ <;> conv => whnf) | fail)
      exact ⟨rfl, hD.tl⟩

def rotE (S : List Fl) (nm : ByteArray) (at_ : Int) : Nat := match getS S nm with
  | some f => if at_ < 0 ∨ (f.d.length : Int) ≤ at_ then 7 else 0
  | none => 7
def rotL (d : List UInt8) (k : Nat) (by_ : UInt8) : List UInt8 := d.set k ((d.getD k 0) ^^^ by_)
def rotS (S : List Fl) (nm : ByteArray) (at_ : Int) (by_ : UInt8) : List Fl := match getS S nm with
  | some f => if at_ < 0 ∨ (f.d.length : Int) ≤ at_ then S else putS S ⟨nm, rotL f.d at_.toNat by_, f.la⟩
  | none => S
set_option maxHeartbeats 1000000 in
theorem rot_fn {B b room : Nat} {S : List Fl} {F : List Res} (nm : ByteArray) (hnm : nm.size ≤ 1000000) (n : Int) (x : UInt8) {w0 w : World} (hD : DkS B w0 w b room S F) :
    Fn Tryz.prog 57 #[ptr b, .string nm, .int .i64 n, .int .u8 (x.toNat : Int)] w fun r w' => r = .int .i64 (rotE S nm n : Nat) ∧ DkS B w0 w' b room (rotS S nm n x) F := by
  obtain ⟨⟨mo, fs, rfl, hok, hmo, hL⟩, hB⟩ := hD
  rw [rotE, rotS, getF_fl]
  have hsh := OkF.shapes hL
  cases hf : getF fs nm with
  | none =>
    simp only [Option.map_none]
    refine Fn.mk Tryz.func57 rfl (by kernel_rfl) Tryz.ntmps57 rfl (by rw [Tryz.results57]) ?_
    repeat (first | (refine RunH ?_; intro w hL hB; try clear w) | (refine Both.mk ?_ ?_ <;> conv => whnf) | fail)
    refine (of_fn nm hnm hok.nd hmo hL hB).mono fun r w ⟨hr, hL, hB⟩ => ?_
    subst hr
    rw [ofV_none hf]
    conv => whnf
    repeat (first | (refine RunH ?_; intro w hL hB; try clear w) | (refine Both.mk ?_ ?_ <;> conv => whnf) | (refine Nw.sep hL hB (fun b1 w hL hB hb1 => ?_); conv => whnf) | fail)
    exact ⟨rfl, DkS.mk' hok hmo rfl hL.tl hB⟩
  | some f =>
    obtain ⟨m, rfl⟩ := mo_some hmo hf
    obtain ⟨fa, fc, hfv⟩ := dk_shape hL (getF_mem hf)
    have hfn : f.nm = nm := by obtain ⟨_, _, _, h, _⟩ := getF_some hf; exact h
    simp only [Option.map_some, Fv.fl]
    by_cases hn : n < 0 ∨ (f.d.length : Int) ≤ n
    · rw [if_pos hn, if_pos hn]
      refine Fn.mk Tryz.func57 rfl (by kernel_rfl) Tryz.ntmps57 rfl (by rw [Tryz.results57]) ?_
      repeat (first | (refine RunH ?_; intro w hL hB; try clear w) | (refine Both.mk ?_ ?_ <;> conv => whnf) | fail)
      refine (of_fn nm hnm hok.nd hmo hL hB).mono fun r w ⟨hr, hL, hB⟩ => ?_
      subst hr
      rw [ofV_some hf hfv]
      conv => whnf
      by_cases h0 : n < 0
      · repeat (first | (refine RunH ?_; intro w hL hB; try clear w) | (refine Both.mk ?_ ?_ <;> conv => whnf) | (refine Nw.sep hL hB (fun b1 w hL hB hb1 => ?_); conv => whnf) | fail)
        exact ⟨rfl, DkS.mk' (mo := some m) hok hmo rfl hL.tl hB⟩
      · repeat (first | (refine RunH ?_; intro w hL hB; try clear w) | (refine Both.mk ?_ ?_ <;> conv => whnf) | (refine Nw.sep hL hB (fun b1 w hL hB hb1 => ?_); conv => whnf) | fail)
        exact ⟨rfl, DkS.mk' (mo := some m) hok hmo rfl hL.tl hB⟩
    rw [if_neg hn, if_neg hn]
    obtain ⟨k, rfl⟩ : ∃ k : Nat, n = k := ⟨n.toNat, by omega⟩
    have hk : k < f.d.length := by omega
    rw [Int.toNat_natCast]
    have hdv := List.getElem?_eq_getElem hk
    have hxk : (f.d.getD k 0) = f.d[k] := by simp [List.getD, hdv]
    generalize hy : f.d[k] = y at *
    obtain ⟨_, _, ha0, hc0, hz0⟩ := cutRow hfv (Nat.le_refl _) (dk_row hL (getF_mem hf))
    obtain ⟨g, rfl⟩ : ∃ g, fa = some ⟨g, 0, none⟩ := by
      cases fa with
      | none => have := hz0 rfl; omega
      | some ad =>
        obtain ⟨g, o, sp⟩ := ad
        obtain ⟨h1, h2⟩ := ha0 _ rfl
        dsimp only at h1 h2
        subst h1; subst h2
        exact ⟨g, rfl⟩
    refine Fn.mk Tryz.func57 rfl (by kernel_rfl) Tryz.ntmps57 rfl (by rw [Tryz.results57]) ?_
    repeat (first | (refine RunH ?_; intro w hL hB; try clear w) | (refine Both.mk ?_ ?_ <;> conv => whnf) | fail)
    refine (of_fn nm hnm hok.nd hmo hL hB).mono fun r w ⟨hr, hL, hB⟩ => ?_
    subst hr
    rw [ofV_some hf hfv]
    replace hL := dk_take hf hL
    simp only [mRes, List.nil_append, List.cons_append, Fv.row, hfv] at hL
    conv => whnf
    repeat (first | (refine RunH ?_; intro w hL hB; try clear w) | (refine Both.mk ?_ ?_ <;> conv => whnf) | (refine Nw.sep hL hB (fun b1 w hL hB hb1 => ?_); conv => whnf) | fail)
    intro o1 ho1
    obtain rfl : o1 = k := by omega
    conv => whnf
    have hsl : ∀ {w : World}, RowC w 5 (.slice (some ⟨g, 0, none⟩) f.d.length fc) f.d.length (bv f.d) → Row w g 0 (bv f.d) := fun h => by
      obtain ⟨b', o', he, hr⟩ := (RowC.sl h).addr (by omega)
      injection he with he
      injection he with e1 e2 e3
      subst e1; subst e2
      exact hr
    refine Ld.row1 ttOk (xs := bv f.d) (k := o1) (hsl (hL.at (i := 1) rfl)) tl5 rfl (bv_get hdv) (by omega) ?_
    conv => whnf
    repeat (first | (refine RunH ?_; intro w hL hB; try clear w) | (refine Both.mk ?_ ?_ <;> conv => whnf) | fail)
    refine Bt.xor8 y.toNat x.toNat rfl rfl y.toNat_lt x.toNat_lt ?_
    rw [show y.toNat ^^^ x.toNat = (y ^^^ x).toNat from (UInt8.toNat_xor y x).symm]
    conv => whnf
    repeat (first | (refine RunH ?_; intro w hL hB; try clear w) | (refine Both.mk ?_ ?_ <;> conv => whnf) | fail)
    intro o2 ho2
    obtain rfl : o2 = o1 := by omega
    conv => whnf
    refine St.rowC ttOk hL (xs := bv f.d) tl5 rfl 1 rfl o2 rfl hk rfl rfl hB fun w hL hB => ?_
    conv => whnf
    repeat (first | (refine RunH ?_; intro w hL hB; try clear w) | (refine Both.mk ?_ ?_ <;> conv => whnf) | fail)
    refine ⟨rfl, ?_⟩
    have h1 := hok.nm f (getF_mem hf)
    rw [hfn] at h1
    obtain ⟨hl1, hl2⟩ := len_le hok hf
    have ho := oldN_some hf
    have hla := hok.la f (getF_mem hf)
    have hrl : (rotL f.d o2 x).length = f.d.length := by simp [rotL]
    have h3 := OkF.put hok (g := ⟨nm, .slice (some ⟨g, 0, none⟩) f.d.length fc, rotL f.d o2 x, f.la⟩) (by simp only [hrl]; omega) h1 (by have := hok.tot; simp only [hrl, ho]; omega) (.inl (by simp [hf]))
    have hent : (putF fs ⟨nm, .slice (some ⟨g, 0, none⟩) f.d.length fc, rotL f.d o2 x, f.la⟩).map Fv.ent = fs.map Fv.ent := by
      obtain ⟨A, C, rfl, q1, q2⟩ := getF_some hf
      rw [putF_split (by simpa using q2) q1]
      simp [Fv.ent, Fv.val, hfv, q1]
    have ht := tot_put fs ⟨nm, .slice (some ⟨g, 0, none⟩) f.d.length fc, rotL f.d o2 x, f.la⟩
    simp only [hrl, ho] at ht
    have := DkS.mk' (w0 := w0) (b := b) (F := F) (mo := some m) (used := tot fs) h3 (fun h => by cases h) (by omega) (dk_back (m := m) (by
      rw [hent]
      have hset : (bv f.d).set o2 (.int .u8 ((y ^^^ x).toNat : Int)) = bv (rotL f.d o2 x) := by
        rw [rotL, hxk]
        simp [bv, u8]
      dsimp only [List.set] at hL
      rw [hset] at hL
      simp only [Fv.row, hrl]
      exact hL.tl)) hB
    rw [putF_fl] at this
    exact this
end Go.Proofs.YtjafamiaahabgaaGreatDoor
