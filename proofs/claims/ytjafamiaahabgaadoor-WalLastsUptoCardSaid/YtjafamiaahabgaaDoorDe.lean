/- disk: Cut, Rot. Nothing is claimed here. -/
import Derived.Test.YtjafamiaahabgaaDoorDd
namespace Go.Proofs.YtjafamiaahabgaaDoor
open Go.RowKit
open Go.Maps (Keyed)
set_option linter.unusedVariables false
set_option linter.unusedSimpArgs false
set_option maxRecDepth 100000

theorem DkS.perm {B : Nat} {w0 w : World} {b room : Nat} {S : List Fl} {F F' : List Res} (h : DkS B w0 w b room S F) (hp : F.Perm F') : DkS B w0 w b room S F' := by
  obtain ⟨⟨mo, fs, h1, h2, h3, hL⟩, hB⟩ := h
  exact ⟨⟨mo, fs, h1, h2, h3, hL.perm (hp.append_left _)⟩, hB⟩
theorem DkS.sub {B : Nat} {w0 w : World} {b room : Nat} {S : List Fl} {F F' : List Res} (h : DkS B w0 w b room S F) (hp : F'.Sublist F) : DkS B w0 w b room S F' := by
  obtain ⟨⟨mo, fs, h1, h2, h3, hL⟩, hB⟩ := h
  exact ⟨⟨mo, fs, h1, h2, h3, hL.sub ((List.Sublist.refl _).append hp)⟩, hB⟩
theorem DkS.tl {B : Nat} {w0 w : World} {b room : Nat} {S : List Fl} {F : List Res} {R : Res} (h : DkS B w0 w b room S (R :: F)) : DkS B w0 w b room S F := h.sub (List.sublist_cons_self _ _)

def cutE (S : List Fl) (nm : ByteArray) (n : Int) : Nat := match getS S nm with
  | some f => if n < 0 ∨ (f.d.length : Int) < n then 1 else 0
  | none => 7
def cutS (S : List Fl) (nm : ByteArray) (n : Int) : List Fl := match getS S nm with
  | some f => if n < 0 ∨ (f.d.length : Int) < n then S else putS S ⟨nm, f.d.take n.toNat, min n.toNat f.la⟩
  | none => S
theorem cutRow {w : World} {f : Fv} {a : Option Addr} {c k : Nat} (hv : f.v = .slice a f.d.length c) (hk : k ≤ f.d.length) (h : f.row.holds Tryd.prog w) : RowC w 5 (.slice a k k) k (bv (f.d.take k)) ∧ rowB (Value.slice a k k).ownBlock = rowB f.v.ownBlock ∧ (∀ x, a = some x → x.off = 0 ∧ x.spot = none) ∧ f.d.length ≤ c ∧ (a = none → f.d.length = 0) := by
  have h : RowC w 5 f.v f.d.length (bv f.d) := h
  rw [hv] at h ⊢
  rcases h.of with ⟨h1, h2⟩ | ⟨g, cap, cur, h1, h2⟩
  · injection h1 with e1 e2 e3
    subst e1
    subst e3
    obtain rfl : k = 0 := by omega
    exact ⟨RowC.nil w _, rfl, fun x hx => (by cases hx), by omega, fun _ => h2⟩
  · injection h1 with e1 e2 e3
    subst e1
    have := h.cut hk
    rw [bv_take] 
    exact ⟨this, rfl, fun x hx => by injection hx with hx; subst hx; exact ⟨rfl, rfl⟩, by omega, fun hx => by cases hx⟩

theorem dk_row {B b room used : Nat} {mo : Option Nat} {w0 w : World} {F : List Res} {fs : List Fv} {f : Fv} (hL : Sep Tryd.prog B w0 w (dkRes b room used mo fs ++ F)) (hf : f ∈ fs) : f.row.holds Tryd.prog w :=
  hL.hold f.row (by simp only [dkRes, List.cons_append, List.mem_cons, List.mem_append, List.mem_map]; exact .inr (.inl (.inr ⟨f, hf, rfl⟩)))

set_option maxHeartbeats 1000000 in
theorem cut_fn {B b room : Nat} {S : List Fl} {F : List Res} (nm : ByteArray) (hnm : nm.size ≤ 1000000) (n : Int) {w0 w : World} (hD : DkS B w0 w b room S F) :
    Fn Tryd.prog 35 #[ptr b, .string nm, .int .i64 n] w fun r w' => r = .int .i64 (cutE S nm n : Nat) ∧ DkS B w0 w' b room (cutS S nm n) F := by
  obtain ⟨⟨mo, fs, rfl, hok, hmo, hL⟩, hB⟩ := hD
  rw [cutE, cutS, getF_fl]
  have hsh := OkF.shapes hL
  cases hf : getF fs nm with
  | none =>
    simp only [Option.map_none]
    refine Fn.mk Tryd.func35 rfl (by kernel_rfl) Tryd.ntmps35 rfl (by rw [Tryd.results35]) ?_
    repeat (first | (refine RunH ?_; intro w hL hB; try clear w) | (refine Both.mk ?_ ?_ <;> conv => whnf) | fail)
    refine (of_fn nm hnm hok.nd hmo hL hB).mono fun r w ⟨hr, hL, hB⟩ => ?_
    subst hr
    rw [ofV_none hf]
    conv => whnf
    repeat (first | (refine RunH ?_; intro w hL hB; try clear w) | (refine Both.mk ?_ ?_ <;> conv => whnf) | (refine Nw.sep hL hB (fun b1 w hL hB hb1 => ?_); conv => whnf) | fail)
    exact ⟨rfl, DkS.mk' hok hmo rfl hL.tl hB⟩
  | some f =>
    obtain ⟨m, rfl⟩ := mo_some hmo hf
    obtain ⟨fa, fc, hfv⟩ := dk_shape hL (getF_mem hf)
    have hfn : f.nm = nm := by obtain ⟨_, _, _, h, _⟩ := getF_some hf; exact h
    simp only [Option.map_some, Fv.fl]
    by_cases hn : n < 0 ∨ (f.d.length : Int) < n
    · rw [if_pos hn, if_pos hn]
      refine Fn.mk Tryd.func35 rfl (by kernel_rfl) Tryd.ntmps35 rfl (by rw [Tryd.results35]) ?_
      repeat (first | (refine RunH ?_; intro w hL hB; try clear w) | (refine Both.mk ?_ ?_ <;> conv => whnf) | fail)
      refine (of_fn nm hnm hok.nd hmo hL hB).mono fun r w ⟨hr, hL, hB⟩ => ?_
      subst hr
      rw [ofV_some hf hfv]
      conv => whnf
      by_cases h0 : n < 0
      · repeat (first | (refine RunH ?_; intro w hL hB; try clear w) | (refine Both.mk ?_ ?_ <;> conv => whnf) | (refine Nw.sep hL hB (fun b1 w hL hB hb1 => ?_); conv => whnf) | fail)
        exact ⟨rfl, DkS.mk' (mo := some m) hok hmo rfl hL.tl hB⟩
      · repeat (first | (refine RunH ?_; intro w hL hB; try clear w) | (refine Both.mk ?_ ?_ <;> conv => whnf) | (refine Nw.sep hL hB (fun b1 w hL hB hb1 => ?_); conv => whnf) | fail)
        exact ⟨rfl, DkS.mk' (mo := some m) hok hmo rfl hL.tl hB⟩
    rw [if_neg hn, if_neg hn]
    obtain ⟨hl1, hl2⟩ := len_le hok hf
    have hla := hok.la f (getF_mem hf)
    obtain ⟨k, rfl⟩ : ∃ k : Nat, n = k := ⟨n.toNat, by omega⟩
    have hk : k ≤ f.d.length := by omega
    rw [Int.toNat_natCast]
    refine Fn.mk Tryd.func35 rfl (by kernel_rfl) Tryd.ntmps35 rfl (by rw [Tryd.results35]) ?_
    repeat (first | (refine RunH ?_; intro w hL hB; try clear w) | (refine Both.mk ?_ ?_ <;> conv => whnf) | fail)
    refine (of_fn nm hnm hok.nd hmo hL hB).mono fun r w ⟨hr, hL, hB⟩ => ?_
    subst hr
    rw [ofV_some hf hfv]
    obtain ⟨hcr, hcb, ha0, hc0, hz0⟩ := cutRow hfv hk (dk_row hL (getF_mem hf))
    have h1 := hok.nm f (getF_mem hf)
    rw [hfn] at h1
    have ho := oldN_some hf
    have fin : ∀ {w : World} {F : List Res}, Sep Tryd.prog B w0 w (.blk b [.int .i64 (room : Int), .int .i64 (tot fs : Int), .map (some m)] 44 :: (mRes (some m) fs ++ ((putF fs ⟨nm, .slice fa k k, f.d.take k, min k f.la⟩).map Fv.row ++ F))) → B ≤ w.heap.size →
        Fn Tryd.prog 25 #[ptr b, .string nm, .agg #[.slice fa k k, .int .i64 (min (k : Int) (f.la : Int))]] w fun r w' => DkS B w0 w' b room (putS (fs.map Fv.fl) ⟨nm, f.d.take k, min k f.la⟩) F := fun hL hB => by
      rw [show min (k : Int) (f.la : Int) = ((min k f.la : Nat) : Int) from by omega]
      refine (lay_fn (mo := some m) ⟨nm, .slice fa k k, f.d.take k, min k f.la⟩ hnm hok.nd (fun h => by cases h) hsh rfl (by omega) (by simp only [List.length_take]; omega) hL hB).mono fun r w ⟨m', hL, hB⟩ => ?_
      have h3 := OkF.put hok (g := ⟨nm, .slice fa k k, f.d.take k, min k f.la⟩) (by simp only [List.length_take]; omega) h1 (by have := hok.tot; simp only [List.length_take, ho]; omega) (.inl (by simp [hf]))
      have := DkS.mk' (mo := some m') h3 (fun h => by cases h) rfl hL hB
      rw [putF_fl] at this
      exact this
    have prep : ∀ {w : World} {F : List Res}, Sep Tryd.prog B w0 w (dkRes b room (tot fs) (some m) fs ++ F) → Sep Tryd.prog B w0 w (.blk b [.int .i64 (room : Int), .int .i64 (tot fs : Int), .map (some m)] 44 :: (mRes (some m) fs ++ ((putF fs ⟨nm, .slice fa k k, f.d.take k, min k f.la⟩).map Fv.row ++ F))) := fun {w F} hL => by
      obtain ⟨q1, q2, _⟩ := cutRow hfv hk (dk_row hL (getF_mem hf))
      refine lay_prep ((dk_take hf hL).says ?_ ?_)
      · have : (f.d.take k).length = k := by rw [List.length_take]; omega
        simpa [Fv.row, Res.holds, this] using q1
      · exact q2
    conv => whnf
    cases fa with
    | none =>
      obtain rfl : k = 0 := by have := hz0 rfl; omega
      repeat (first | (refine RunH ?_; intro w hL hB; try clear w) | (refine Both.mk ?_ ?_ <;> conv => whnf) | (refine Nw.sep hL hB (fun b1 w hL hB hb1 => ?_); conv => whnf) | (intro n6 c6 p1 p2; obtain rfl : n6 = 0 := (by omega); obtain rfl : c6 = 0 := (by omega); conv => whnf) | fail)
      refine (fin (F := _ :: F) (prep (hL.perm List.perm_middle.symm)) hB).mono fun r w hD => ?_
      conv => whnf
      repeat (first | (refine RunH ?_; intro w hL hB; try clear w) | (refine Both.mk ?_ ?_ <;> conv => whnf) | fail)
      exact ⟨rfl, hD.tl⟩
    | some ad =>
      obtain ⟨g, o, sp⟩ := ad
      obtain ⟨h1, h2⟩ := ha0 _ rfl
      dsimp only at h1 h2
      subst h1; subst h2
      repeat (first | (refine RunH ?_; intro w hL hB; try clear w) | (refine Both.mk ?_ ?_ <;> conv => whnf) | (refine Nw.sep hL hB (fun b1 w hL hB hb1 => ?_); conv => whnf) | (intro n6 c6 p1 p2; obtain rfl : k = n6 := (by omega); obtain rfl : k = c6 := (by omega); conv => whnf) | fail)
      refine (fin (F := _ :: F) (prep (hL.perm List.perm_middle.symm)) hB).mono fun r w hD => ?_
      conv => whnf
      repeat (first | (refine RunH ?_; intro w hL hB; try clear w) | (refine Both.mk ?_ ?_ <;> conv => whnf) | fail)
      exact ⟨rfl, hD.tl⟩

def rotE (S : List Fl) (nm : ByteArray) (at_ : Int) : Nat := match getS S nm with
  | some f => if at_ < 0 ∨ (f.d.length : Int) ≤ at_ then 7 else 0
  | none => 7
def rotL (d : List UInt8) (k : Nat) (by_ : UInt8) : List UInt8 := d.set k ((d.getD k 0) ^^^ by_)
def rotS (S : List Fl) (nm : ByteArray) (at_ : Int) (by_ : UInt8) : List Fl := match getS S nm with
  | some f => if at_ < 0 ∨ (f.d.length : Int) ≤ at_ then S else putS S ⟨nm, rotL f.d at_.toNat by_, f.la⟩
  | none => S
end Go.Proofs.YtjafamiaahabgaaDoor
