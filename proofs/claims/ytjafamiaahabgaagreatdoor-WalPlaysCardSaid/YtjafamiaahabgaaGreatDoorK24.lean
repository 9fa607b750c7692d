/- garnerref4.Disk: Cut, Rot. garnerref4.Disk: List, Crash, Copy. Nothing is claimed here. -/
import Derived.Test.YtjafamiaahabgaaGreatDoorK23
namespace Go.Proofs.YtjafamiaahabgaaGreatDoor
open Go.RowKit
set_option linter.unusedVariables false
set_option linter.unusedSimpArgs false
set_option maxRecDepth 100000

theorem put_at {A C' : List Fv} {f g : Fv} {nm : ByteArray} (hA : ∀ x ∈ A, x.nm ≠ nm) (hfn : f.nm = nm) (hgn : g.nm = nm) : (A ++ g :: C').map Fv.fl = putS ((A ++ f :: C').map Fv.fl) g.fl := by
  rw [← putF_fl, putF_split (g := g) (by rw [hgn]; exact hA) (by rw [hgn]; exact hfn)]
theorem Sl.takeO {w : World} {a : Option Addr} {n c : Nat} {xs : List Value} (h : Sl w (.slice a n c) xs) {k : Nat} (hk : k ≤ xs.length) {c' : Nat} (h1 : k ≤ c') (h2 : c' ≤ c) : Sl w (.slice a k c') (xs.take k) := by
  obtain ⟨a', c0, he, e1, e2, e3, e4⟩ := h.of
  injection he with he1 he2 he3
  subst he1; subst he3
  refine ⟨a, c', by rw [List.length_take, Nat.min_eq_left hk], by rw [List.length_take]; omega, by omega, fun h => by have := e3 h; omega, fun ad had hne => ?_⟩
  have hx : xs ≠ [] := fun h => by subst h; simp at hne
  exact ⟨(e4 ad had hx).1, (e4 ad had hx).2.take k⟩
set_option maxHeartbeats 8000000 in
theorem cutR_fn {B b room : Nat} {R : List Fl} {F : List Res} (nm : ByteArray) (n : Int) {w0 w : World} (hD : RkS B w0 w b room R F) :
    Fn Tryz.prog 59 #[ptr b, .string nm, .int .i64 n] w fun r w' => r = .int .i64 (cutE R nm n : Nat) ∧ RkS B w0 w' b room (cutS R nm n) F := by
  obtain ⟨⟨L, fs, rfl, hok, hL⟩, hB⟩ := hD
  refine Fn.mk Tryz.func59 rfl (by kernel_rfl) Tryz.ntmps59 rfl (by rw [Tryz.results59]) ?_
  repeat (first | (refine RunH ?_; intro w hL hB; try clear w) | (refine Both.mk ?_ ?_ <;> conv => whnf) | fail)
  refine (spot_fn nm hok.ok.len hL hB).mono fun r w ⟨A, C, h1, h2, h3, hr, hL, hB⟩ => ?_
  subst hr
  have hat := At.of h1 h2 h3
  clear h1 h2 h3
  cases hd : hdN C nm with
  | false =>
    have e1 : cutE (fs.map Fv.fl) nm n = 7 := by rw [cutE, getF_fl, hat.no hok.srt hd]; rfl
    have e2 : cutS (fs.map Fv.fl) nm n = fs.map Fv.fl := by rw [cutS, getF_fl, hat.no hok.srt hd]; rfl
    rw [e1, e2]
    conv => whnf
    repeat (first | (refine RunH ?_; intro w hL hB; try clear w) | (refine Both.mk ?_ ?_ <;> conv => whnf) | fail)
    exact ⟨rfl, RkS.mk' hok hL hB⟩
  | true =>
    obtain ⟨f, C', rfl, hfn, hgn⟩ := hat.yes hd
    obtain rfl := hat.eq
    have hl1 := len1 hok.ok f (by simp)
    have hla := hok.ok.la f (by simp)
    have hget : (A ++ f :: C')[A.length]? = some f := by simp
    have hlA : (A ++ f :: C').length = A.length + C'.length + 1 := by simp; omega
    have hnA := hat.nA
    simp only [rkRes, List.cons_append] at hL
    obtain ⟨va, vc, hfv⟩ := rk_shape (X := [_, _]) hL f (by simp)
    obtain ⟨g, gcap, rfl, hgcap⟩ := own_shape0 (hL.ownR (i := 1) rfl) (by omega)
    obtain ⟨fn, fv, fd, fla⟩ := f
    dsimp only at *
    subst hfv; subst hfn
    have eE : cutE ((A ++ (⟨fn, .slice va fd.length vc, fd, fla⟩ : Fv) :: C').map Fv.fl) fn n = if n < 0 ∨ (fd.length : Int) < n then 1 else 0 := by rw [cutE, getF_fl, hgn]; rfl
    have eS : cutS ((A ++ (⟨fn, .slice va fd.length vc, fd, fla⟩ : Fv) :: C').map Fv.fl) fn n = if n < 0 ∨ (fd.length : Int) < n then (A ++ (⟨fn, .slice va fd.length vc, fd, fla⟩ : Fv) :: C').map Fv.fl else putS ((A ++ (⟨fn, .slice va fd.length vc, fd, fla⟩ : Fv) :: C').map Fv.fl) ⟨fn, fd.take n.toNat, min n.toNat fla⟩ := by rw [cutS, getF_fl, hgn]; rfl
    rw [eE, eS]
    clear eE eS
    by_cases h0 : n < 0
    · rw [if_pos (.inl h0), if_pos (.inl h0)]
      conv => whnf
      repeat (first | (refine RunH ?_; intro w hL hB; try clear w) | (refine Both.mk ?_ ?_ <;> conv => whnf) | fail)
      exact ⟨rfl, RkS.mk' (L := .slice (some ⟨g, 0, none⟩) (A ++ (⟨fn, .slice va fd.length vc, fd, fla⟩ : Fv) :: C').length gcap) hok hL hB⟩
    by_cases h1 : (fd.length : Int) < n
    · rw [if_pos (.inr h1), if_pos (.inr h1)]
      conv => whnf
      repeat (first | (refine RunH ?_; intro w hL hB; try clear w) | (refine Both.mk ?_ ?_ <;> conv => whnf) | fail)
      intro o1 ho1
      conv => whnf
      repeat (first | (refine RunH ?_; intro w hL hB; try clear w) | (refine Both.mk ?_ ?_ <;> conv => whnf) | fail)
      refine Ld.rowF ttOk f3_len 1 (hL.rowN (i := 1) rfl).rowOf tl23 rfl hget rfl (by omega) ?_
      conv => whnf
      repeat (first | (refine RunH ?_; intro w hL hB; try clear w) | (refine Both.mk ?_ ?_ <;> conv => whnf) | fail)
      exact ⟨rfl, RkS.mk' (L := .slice (some ⟨g, 0, none⟩) (A ++ (⟨fn, .slice va fd.length vc, fd, fla⟩ : Fv) :: C').length gcap) hok hL hB⟩
    rw [if_neg (by omega), if_neg (by omega)]
    obtain ⟨k, rfl⟩ : ∃ k : Nat, n = k := ⟨n.toNat, by omega⟩
    have hk : k ≤ fd.length := by omega
    rw [Int.toNat_natCast]
    have hrc : RowC w 5 (.slice va fd.length vc) fd.length (bv fd) := hL.hold (Fv.row ⟨fn, .slice va fd.length vc, fd, fla⟩) (by simp)
    have hvc : fd.length ≤ vc := by have := hrc.sl.len; rw [bv_length] at this; omega
    have hS : ∀ {w : World} {L : List Res}, Sep Tryz.prog B w0 w L → Fv.row ⟨fn, .slice va fd.length vc, fd, fla⟩ ∈ L → ∀ c', k ≤ c' → c' ≤ vc → SlN w 1 (.slice va k c') k (bv (fd.take k)) := fun h hm c' q1 q2 => by
      have h1 : Sl _ (.slice va fd.length vc) (bv fd) := RowC.sl (show RowC _ 5 _ fd.length (bv fd) from h.hold _ hm)
      have h2 := (h1.takeO (k := k) (by rw [bv_length]; exact hk) q1 q2).toN
      rw [← bv_take, bv_length, List.length_take, Nat.min_eq_left hk] at h2
      exact h2
    conv => whnf
    repeat (first | (refine RunH ?_; intro w hL hB; try clear w) | (refine Both.mk ?_ ?_ <;> conv => whnf) | fail)
    intro o1 ho1
    conv => whnf
    repeat (first | (refine RunH ?_; intro w hL hB; try clear w) | (refine Both.mk ?_ ?_ <;> conv => whnf) | fail)
    refine Ld.rowF ttOk f3_len 1 (hL.rowN (i := 1) rfl).rowOf tl23 rfl hget rfl (by omega) ?_
    conv => whnf
    repeat (first | (refine RunK ?_; intro w hL hB; try clear w) | (refine V.treeP ttOk hL 1 (.q 0 (.q 1 (.q 2 (.q 3 (.q 4 (.q 6 (.q 7 (.q 8 (.q 9 (.q 10 (.q 11 (.q 12 (.q 14 (.alt 5 (.alt 13 (.q 15 (.alt 16 (.q 17 (.q 18 (.alt 19 .nil .stop))) .stop)) .stop) (.alt 13 (.q 15 (.alt 5 (.alt 16 (.q 17 (.q 18 (.alt 19 .nil .stop))) .stop) .stop)) .stop))))))))))))))) mixed (by decide +kernel) ?_; replace hL := hL.drew; conv => whnf) | (refine V.tailA ttOk mixed (by decide +kernel) ?_; replace hL := hL.drew; conv => whnf) | (refine Both.mk ?_ ?_ <;> conv => whnf) | fail)
    intro o2 ho2
    have hva : va = none ∨ ∃ fb, va = some ⟨fb, 0, none⟩ := by
      rcases hrc.of with ⟨hz, _⟩ | ⟨fb, fcap, fcur, hz, _⟩
      · injection hz with z1; exact .inl z1
      · injection hz with z1; exact .inr ⟨fb, z1⟩
    rcases hva with rfl | ⟨fb, rfl⟩ <;> (
      conv => whnf
      repeat' (first | (refine RunH ?_; intro w hL hB; try clear w) | (refine Br.dec (fun hbr => ?_) (fun hbr => ?_) <;> conv => whnf) | (refine Br.mk (fun hbr => ?_) (fun hbr => ?_) <;> conv => whnf) | (refine Both.mk ?_ ?_ <;> conv => whnf) | (refine Rv.buildS (len := 0) (vs := []) ttOk hL tl23 tl5 rfl rfl (by intro u hu; cases hu) (by decide) (by decide) hB fun bo w hL hB => ?_; conv => whnf) | (refine Ld.rowF ttOk f3_len 1 (hL.rowN (i := 1) rfl).rowOf tl23 rfl hget rfl (by omega) ?_; conv => whnf) | (refine Ld.rowF ttOk f3_len 1 (hL.rowN (i := 2) rfl).rowOf tl23 rfl hget rfl (by omega) ?_; conv => whnf) | (intro n1 c1 q1 q2; obtain rfl : k = n1 := (by omega); conv => whnf) | fail)
      all_goals (
        refine Rv.appendS (m := k) (news := bv (fd.take k)) ttOk hL tl23 tl5 rfl (by decide) 0 rfl (hS hL (by simp) c1 (by omega) (by omega)) (bv_one _) (by simp only [maxLen]; omega) (by omega) hB fun v1 w hL hB => ?_
        dsimp only [List.set, List.flatMap_nil, List.nil_append] at hL
        obtain ⟨xa, xc, rfl⟩ := (show SlN w 1 v1 _ _ from hL.rowN (i := 0) rfl).shape
        conv => whnf
        repeat (first | (refine RunH ?_; intro w hL hB; try clear w) | (refine Both.mk ?_ ?_ <;> conv => whnf) | fail)
        intro o3 ho3
        conv => whnf
        repeat (first | (refine RunH ?_; intro w hL hB; try clear w) | (refine Both.mk ?_ ?_ <;> conv => whnf) | fail)
        refine St.rowM ttOk hL f3_len 2 A.length 1 ⟨fn, .slice xa (0 + k) xc, fd.take k, fla⟩ tl23 rfl rfl rfl hget (by decide) rfl (by omega) hB fun w hL hB => ?_
        dsimp only [List.set] at hL
        conv => whnf
        refine An.x hL ?_
        replace hL := rk_swap (g := ⟨fn, .slice xa (0 + k) xc, fd.take k, fla⟩) rfl (by simp; omega) (by rfl) hL
        have hget2 : (A ++ (⟨fn, .slice xa (0 + k) xc, fd.take k, fla⟩ : Fv) :: C')[A.length]? = some ⟨fn, .slice xa (0 + k) xc, fd.take k, fla⟩ := by simp
        simp only [rkRes, List.cons_append] at hL
        conv => whnf
        repeat (first | (refine RunK ?_; intro w hL hB; try clear w) | (refine V.treeP ttOk hL 1 (.q 0 (.q 1 (.q 2 (.q 3 (.q 4 (.q 5 (.q 6 (.q 7 (.q 8 (.q 9 (.q 10 (.q 11 (.q 13 (.alt 12 (.q 14 (.q 15 (.q 16 (.alt 17 .nil .stop)))) .stop)))))))))))))) mixed (by decide +kernel) ?_; replace hL := hL.drew; conv => whnf) | (refine V.tailA ttOk mixed (by decide +kernel) ?_; replace hL := hL.drew; conv => whnf) | (refine Both.mk ?_ ?_ <;> conv => whnf) | fail)
        intro o4 ho4
        conv => whnf
        repeat (first | (refine RunH ?_; intro w hL hB; try clear w) | (refine Both.mk ?_ ?_ <;> conv => whnf) | fail)
        refine Ld.rowF ttOk f3_len 2 (hL.rowN (i := 1) rfl).rowOf tl3 rfl hget2 rfl (by omega) ?_
        conv => whnf
        repeat (first | (refine RunH ?_; intro w hL hB; try clear w) | (refine Both.mk ?_ ?_ <;> conv => whnf) | fail)
        intro o5 ho5
        conv => whnf
        repeat (first | (refine RunH ?_; intro w hL hB; try clear w) | (refine Both.mk ?_ ?_ <;> conv => whnf) | fail)
        refine St.rowM ttOk hL f3_len 1 A.length 2 ⟨fn, .slice xa (0 + k) xc, fd.take k, min k fla⟩ tl3 rfl rfl rfl hget2 (by decide) (by
          have e : min (fla : Int) (k : Int) = ((min k fla : Nat) : Int) := by omega
          show [_, _, Value.int .i64 (min (fla : Int) (k : Int))] = _
          rw [e]; rfl) (by omega) hB fun w hL hB => ?_
        dsimp only [List.set] at hL
        conv => whnf
        repeat (first | (refine RunH ?_; intro w hL hB; try clear w) | (refine Both.mk ?_ ?_ <;> conv => whnf) | fail)
        refine ⟨rfl, ?_⟩
        have e0 : (A ++ (⟨fn, .slice xa (0 + k) xc, fd.take k, fla⟩ : Fv) :: C').set A.length ⟨fn, .slice xa (0 + k) xc, fd.take k, min k fla⟩ = A ++ ⟨fn, .slice xa (0 + k) xc, fd.take k, min k fla⟩ :: C' := by simp
        rw [e0] at hL
        have := RkS.mk' (L := .slice (some ⟨g, 0, none⟩) (A ++ (⟨fn, .slice xa (0 + k) xc, fd.take k, fla⟩ : Fv) :: C').length gcap) (F := F) (hok.set (g := ⟨fn, .slice xa (0 + k) xc, fd.take k, min k fla⟩) rfl (by simp; omega) (by have := hok.ok.tot; simp; omega)) (by
          rw [rkRes]
          simpa [Fv.row] using hL) hB
        rw [put_at (f := ⟨fn, .slice _ fd.length vc, fd, fla⟩) (nm := fn) hnA rfl rfl] at this
        exact this))
theorem bits_xor8 (b c : UInt8) : ((b.toNat ^^^ c.toNat : Nat) : Int) = ((b ^^^ c).toNat : Int) := by simp
theorem splice_set1 (xs : List Value) (j : Nat) (v : Value) (h : j < xs.length) : splice xs j [v] = xs.set j v := by
  rw [splice_eq _ _ _ (by simp; omega), List.set_eq_take_append_cons_drop, if_pos h]
  simp
theorem bv_set (l : List UInt8) (j : Nat) (b : UInt8) : (bv l).set j (u8 b) = bv (l.set j b) := by
  unfold bv
  rw [List.map_set]
set_option maxHeartbeats 8000000 in
theorem rotR_fn {B b room : Nat} {R : List Fl} {F : List Res} (nm : ByteArray) (n : Int) (x : UInt8) {w0 w : World} (hD : RkS B w0 w b room R F) :
    Fn Tryz.prog 58 #[ptr b, .string nm, .int .i64 n, .int .u8 (x.toNat : Int)] w fun r w' => r = .int .i64 (rotE R nm n : Nat) ∧ RkS B w0 w' b room (rotS R nm n x) F := by
  obtain ⟨⟨L, fs, rfl, hok, hL⟩, hB⟩ := hD
  refine Fn.mk Tryz.func58 rfl (by kernel_rfl) Tryz.ntmps58 rfl (by rw [Tryz.results58]) ?_
  repeat (first | (refine RunH ?_; intro w hL hB; try clear w) | (refine Both.mk ?_ ?_ <;> conv => whnf) | fail)
  refine (spot_fn nm hok.ok.len hL hB).mono fun r w ⟨A, C, h1, h2, h3, hr, hL, hB⟩ => ?_
  subst hr
  have hat := At.of h1 h2 h3
  clear h1 h2 h3
  cases hd : hdN C nm with
  | false =>
    have e1 : rotE (fs.map Fv.fl) nm n = 7 := by rw [rotE, getF_fl, hat.no hok.srt hd]; rfl
    have e2 : rotS (fs.map Fv.fl) nm n x = fs.map Fv.fl := by rw [rotS, getF_fl, hat.no hok.srt hd]; rfl
    rw [e1, e2]
    conv => whnf
    repeat (first | (refine RunH ?_; intro w hL hB; try clear w) | (refine Both.mk ?_ ?_ <;> conv => whnf) | fail)
    exact ⟨rfl, RkS.mk' hok hL hB⟩
  | true =>
    obtain ⟨f, C', rfl, hfn, hgn⟩ := hat.yes hd
    obtain rfl := hat.eq
    have hl1 := len1 hok.ok f (by simp)
    have hla := hok.ok.la f (by simp)
    have hget : (A ++ f :: C')[A.length]? = some f := by simp
    have hlA : (A ++ f :: C').length = A.length + C'.length + 1 := by simp; omega
    have hnA := hat.nA
    simp only [rkRes, List.cons_append] at hL
    obtain ⟨va, vc, hfv⟩ := rk_shape (X := [_, _]) hL f (by simp)
    obtain ⟨g, gcap, rfl, hgcap⟩ := own_shape0 (hL.ownR (i := 1) rfl) (by omega)
    obtain ⟨fn, fv, fd, fla⟩ := f
    dsimp only at *
    subst hfv; subst hfn
    have eE : rotE ((A ++ (⟨fn, .slice va fd.length vc, fd, fla⟩ : Fv) :: C').map Fv.fl) fn n = if n < 0 ∨ (fd.length : Int) ≤ n then 7 else 0 := by rw [rotE, getF_fl, hgn]; rfl
    have eS : rotS ((A ++ (⟨fn, .slice va fd.length vc, fd, fla⟩ : Fv) :: C').map Fv.fl) fn n x = if n < 0 ∨ (fd.length : Int) ≤ n then (A ++ (⟨fn, .slice va fd.length vc, fd, fla⟩ : Fv) :: C').map Fv.fl else putS ((A ++ (⟨fn, .slice va fd.length vc, fd, fla⟩ : Fv) :: C').map Fv.fl) ⟨fn, rotL fd n.toNat x, fla⟩ := by rw [rotS, getF_fl, hgn]; rfl
    rw [eE, eS]
    clear eE eS
    by_cases h0 : n < 0
    · rw [if_pos (.inl h0), if_pos (.inl h0)]
      conv => whnf
      repeat (first | (refine RunH ?_; intro w hL hB; try clear w) | (refine Both.mk ?_ ?_ <;> conv => whnf) | fail)
      exact ⟨rfl, RkS.mk' (L := .slice (some ⟨g, 0, none⟩) (A ++ (⟨fn, .slice va fd.length vc, fd, fla⟩ : Fv) :: C').length gcap) hok hL hB⟩
    by_cases h1 : (fd.length : Int) ≤ n
    · rw [if_pos (.inr h1), if_pos (.inr h1)]
      conv => whnf
      repeat (first | (refine RunH ?_; intro w hL hB; try clear w) | (refine Both.mk ?_ ?_ <;> conv => whnf) | fail)
      intro o1 ho1
      conv => whnf
      repeat (first | (refine RunH ?_; intro w hL hB; try clear w) | (refine Both.mk ?_ ?_ <;> conv => whnf) | fail)
      refine Ld.rowF ttOk f3_len 1 (hL.rowN (i := 1) rfl).rowOf tl23 rfl hget rfl (by omega) ?_
      conv => whnf
      repeat (first | (refine RunH ?_; intro w hL hB; try clear w) | (refine Both.mk ?_ ?_ <;> conv => whnf) | fail)
      exact ⟨rfl, RkS.mk' (L := .slice (some ⟨g, 0, none⟩) (A ++ (⟨fn, .slice va fd.length vc, fd, fla⟩ : Fv) :: C').length gcap) hok hL hB⟩
    rw [if_neg (by omega), if_neg (by omega)]
    obtain ⟨k, rfl⟩ : ∃ k : Nat, n = k := ⟨n.toNat, by omega⟩
    have hk : k < fd.length := by omega
    rw [Int.toNat_natCast]
    conv => whnf
    repeat (first | (refine RunH ?_; intro w hL hB; try clear w) | (refine Both.mk ?_ ?_ <;> conv => whnf) | fail)
    intro o1 ho1
    conv => whnf
    repeat (first | (refine RunH ?_; intro w hL hB; try clear w) | (refine Both.mk ?_ ?_ <;> conv => whnf) | fail)
    refine Ld.rowF ttOk f3_len 1 (hL.rowN (i := 1) rfl).rowOf tl23 rfl hget rfl (by omega) ?_
    conv => whnf
    repeat (first | (refine RunH ?_; intro w hL hB; try clear w) | (refine Both.mk ?_ ?_ <;> conv => whnf) | fail)
    refine Rv.buildS (len := 0) (vs := []) ttOk hL tl23 tl5 rfl rfl (by intro u hu; cases hu) (by decide) (by decide) hB fun bo w hL hB => ?_
    conv => whnf
    repeat (first | (refine RunH ?_; intro w hL hB; try clear w) | (refine Both.mk ?_ ?_ <;> conv => whnf) | fail)
    intro o2 ho2
    conv => whnf
    refine Ld.rowF ttOk f3_len 1 (hL.rowN (i := 2) rfl).rowOf tl23 rfl hget rfl (by omega) ?_
    conv => whnf
    repeat (first | (refine RunH ?_; intro w hL hB; try clear w) | (refine Both.mk ?_ ?_ <;> conv => whnf) | fail)
    have hS : Sl w (.slice va fd.length vc) (bv fd) := RowC.sl (show RowC w 5 _ fd.length (bv fd) from hL.hold (Fv.row ⟨fn, .slice va fd.length vc, fd, fla⟩) (by simp))
    refine Rv.appendS (m := fd.length) (news := bv fd) ttOk hL tl23 tl5 rfl (by decide) 0 rfl (by have := hS.toN; rw [bv_length] at this; exact this) (bv_one _) (by simp only [maxLen]; omega) (by omega) hB fun v1 w hL hB => ?_
    dsimp only [List.set, List.flatMap_nil, List.nil_append] at hL
    rw [Nat.zero_add, show List.flatMap cellsL [] ++ bv fd = bv fd from rfl] at hL
    obtain ⟨xg, xc, rfl, hxc⟩ := own_shape0 (hL.ownR (i := 0) rfl) (by omega)
    conv => whnf
    repeat (first | (refine RunH ?_; intro w hL hB; try clear w) | (refine Both.mk ?_ ?_ <;> conv => whnf) | fail)
    intro o3 ho3
    conv => whnf
    refine Ld.row1 ttOk (k := k) (hL.rowN (i := 0) rfl).rowOf tl5 rfl (bv_get (List.getElem?_eq_getElem hk)) (by omega) ?_
    conv => whnf
    repeat (first | (refine RunH ?_; intro w hL hB; try clear w) | (refine Both.mk ?_ ?_ <;> conv => whnf) | fail)
    refine Bt.xor8 fd[k].toNat x.toNat rfl rfl (UInt8.toNat_lt _) (UInt8.toNat_lt _) ?_
    rw [bits_xor8]
    conv => whnf
    repeat (first | (refine RunH ?_; intro w hL hB; try clear w) | (refine Both.mk ?_ ?_ <;> conv => whnf) | fail)
    intro o4 ho4
    obtain rfl : k = o4 := by omega
    conv => whnf
    repeat (first | (refine RunH ?_; intro w hL hB; try clear w) | (refine Both.mk ?_ ?_ <;> conv => whnf) | fail)
    refine St.rowS ttOk hL 0 rfl rfl rfl rfl (by rw [bv_length]; exact hk) hB (fun w hL hB => ?_)
    dsimp only [List.set] at hL
    rw [show cellsL (Value.int IntKind.u8 ((fd[k] ^^^ x).toNat : Int)) = [u8 (fd[k] ^^^ x)] from rfl, splice_set1 _ _ _ (by rw [bv_length]; exact hk), bv_set] at hL
    conv => whnf
    repeat (first | (refine RunH ?_; intro w hL hB; try clear w) | (refine Both.mk ?_ ?_ <;> conv => whnf) | fail)
    intro o5 ho5
    conv => whnf
    repeat (first | (refine RunH ?_; intro w hL hB; try clear w) | (refine Both.mk ?_ ?_ <;> conv => whnf) | fail)
    refine St.rowM ttOk hL f3_len 2 A.length 1 ⟨fn, .slice (some ⟨xg, 0, none⟩) fd.length xc, fd.set k (fd[k] ^^^ x), fla⟩ tl23 rfl rfl rfl hget (by decide) rfl (by omega) hB fun w hL hB => ?_
    dsimp only [List.set] at hL
    conv => whnf
    repeat (first | (refine RunH ?_; intro w hL hB; try clear w) | (refine Both.mk ?_ ?_ <;> conv => whnf) | fail)
    refine ⟨rfl, ?_⟩
    have hr : rotL fd k x = fd.set k (fd[k] ^^^ x) := by
      rw [rotL]; simp [List.getD_eq_getElem?_getD, List.getElem?_eq_getElem hk]
    have := RkS.mk' (F := F) (hok.set (g := ⟨fn, .slice (some ⟨xg, 0, none⟩) fd.length xc, fd.set k (fd[k] ^^^ x), fla⟩) rfl (by simp; omega) (by have := hok.ok.tot; simp; omega)) (rk_swap (g := ⟨fn, .slice (some ⟨xg, 0, none⟩) fd.length xc, fd.set k (fd[k] ^^^ x), fla⟩) rfl (by simp) rfl hL) hB
    rw [put_at (f := ⟨fn, .slice va fd.length vc, fd, fla⟩) (nm := fn) hnA rfl rfl] at this
    rw [hr]
    exact this
end Go.Proofs.YtjafamiaahabgaaGreatDoor
namespace Go.Proofs.YtjafamiaahabgaaGreatDoor
open Go.RowKit
set_option linter.unusedVariables false
set_option linter.unusedSimpArgs false
set_option maxRecDepth 100000

theorem draw_fn (n : Int) (w : World) : Fn Tryz.prog 84 #[.int .i64 n] w fun r w' => r = .int .i64 (max 0 n) ∧ w' = w := by
  refine Fn.mk Tryz.func84 rfl (by kernel_rfl) Tryz.ntmps84 rfl (by rw [Tryz.results84]) ?_
  refine RunR ?_
  exact ⟨rfl, rfl⟩
theorem round_fn (a i n : Nat) (ha : a ≤ 9223372036854775807) (hi : i ≤ 1000000) (hn : 0 < n) (hn2 : n ≤ 1125899906842624) (w : World) : Fn Tryz.prog 83 #[.int .i64 a, .int .i64 i, .int .i64 n] w fun r w' => r = .int .i64 ((a % n + i % n) % n : Nat) ∧ Below w.heap.size w w' := by
  have hL := Sep.start Tryz.prog w
  have hB := Nat.le_refl w.heap.size
  have m1 := Nat.mod_lt a hn
  have m2 := Nat.mod_lt i hn
  refine Fn.mk Tryz.func83 rfl (by kernel_rfl) Tryz.ntmps83 rfl (by rw [Tryz.results83]) ?_
  repeat (first | (refine RunK ?_; intro w hL hB; try clear w) | (refine V.treeA ttOk hL (.q 0 (.q 1 (.q 2 (.q 3 (.q 4 (.q 5 (.q 6 (.q 7 (.q 8 (.q 9 .nil)))))))))) mixed (by decide +kernel) ?_; replace hL := hL.drew; conv => whnf) | (refine V.tailA ttOk mixed (by decide +kernel) ?_; replace hL := hL.drew; conv => whnf) | (refine Both.mk ?_ ?_ <;> conv => whnf) | (refine Rem.at a n rfl rfl (by omega) ?_; conv => whnf) | (refine Rem.at i n rfl rfl (by omega) ?_; conv => whnf) | (refine Rem.at (a % n + i % n) n (by push_cast; rfl) rfl (by omega) ?_; conv => whnf) | fail)
  exact ⟨rfl, hL.below⟩
def nmV (f : Fv) : Value := .string f.nm
theorem listR_fn {B b room : Nat} {R : List Fl} {F : List Res} {w0 w : World} (hD : RkS B w0 w b room R F) :
    Fn Tryz.prog 56 #[ptr b] w fun r w' => RkS B w0 w' b room R (.row 9 1 r R.length (R.map fun f => .string f.nm) :: F) := by
  obtain ⟨⟨L, fs, rfl, hok, hL⟩, hB⟩ := hD
  have hlen := hok.ok.len
  simp only [rkRes, List.cons_append] at hL
  obtain ⟨ga, gc, rfl⟩ := (show SlN w 3 L fs.length _ from hL.rowN (i := 1) rfl).shape
  refine Fn.mk Tryz.func56 rfl (by kernel_rfl) Tryz.ntmps56 rfl (by rw [Tryz.results56]) ?_
  replace hL := hL.nilRow 9 1
  repeat (first | (refine RunH ?_; intro w hL hB; try clear w) | (refine Both.mk ?_ ?_ <;> conv => whnf) | fail)
  refine V.loop (α := Nat × Value) (fun z => [(0, ptr b), (3, z.2), (4, .int .i64 (z.1 : Int))])
    (fun z w' => z.1 ≤ fs.length ∧ Sep Tryz.prog B w0 w' (.row 9 1 z.2 z.1 ((fs.take z.1).map nmV) :: .blk b [.int .i64 (room : Int), .slice ga fs.length gc] 90 :: .row 95 3 (.slice ga fs.length gc) fs.length (fs.flatMap f3) :: (fs.map Fv.row ++ F)) ∧ B ≤ w'.heap.size)
    (fun z => fs.length - z.1) (0, .slice none 0 0) ⟨rfl, rfl, rfl, trivial⟩ ⟨by omega, hL, hB⟩ ?_
  clear hL hB
  rintro ⟨k, v⟩ w ⟨hk, hL, hB⟩
  dsimp only at *
  by_cases hkl : k < fs.length
  case neg =>
    obtain rfl : k = fs.length := by omega
    repeat (first | (refine RunH ?_; intro w hL hB; try clear w) | (refine Both.mk ?_ ?_ <;> conv => whnf) | fail)
    rw [List.take_length] at hL
    refine RkS.mk' (L := .slice ga fs.length gc) hok (hL.perm ?_) hB
    rw [List.length_map, List.map_map]
    refine (List.Perm.swap _ _ _).trans (.cons _ ((List.Perm.swap _ _ _).trans (.cons _ ?_)))
    exact List.perm_middle.symm
  obtain ⟨bb, o, rfl, hrow⟩ := SlN.addr (show SlN w 3 (.slice ga fs.length gc) fs.length _ from hL.rowN (i := 2) rfl) (by omega)
  obtain ⟨xa, xc, rfl⟩ := (show SlN w 1 v k _ from hL.rowN (i := 0) rfl).shape
  repeat (first | (refine RunH ?_; intro w hL hB; try clear w) | (refine Both.mk ?_ ?_ <;> conv => whnf) | fail)
  intro o1 ho1
  conv => whnf
  repeat (first | (refine RunH ?_; intro w hL hB; try clear w) | (refine Both.mk ?_ ?_ <;> conv => whnf) | fail)
  refine Ld.rowF ttOk f3_len 0 hrow tl9 rfl (List.getElem?_eq_getElem hkl) rfl (by omega) ?_
  conv => whnf
  repeat (first | (refine RunH ?_; intro w hL hB; try clear w) | (refine Both.mk ?_ ?_ <;> conv => whnf) | fail)
  refine Rv.buildS (len := 1) (vs := [.string (fs[k]).nm]) ttOk hL tl66 tl9 rfl rfl (by intro u hu; simp at hu; subst hu; rfl) (by decide) (by decide) hB fun bo w hL hB => ?_
  conv => whnf
  repeat (first | (refine RunH ?_; intro w hL hB; try clear w) | (refine Both.mk ?_ ?_ <;> conv => whnf) | fail)
  refine Rv.appendS (m := 1) (news := [.string (fs[k]).nm]) ttOk hL tl66 tl9 rfl (by decide) 1 rfl (hL.rowN (i := 0) rfl) (by intro u hu; simp at hu; subst hu; rfl) (by simp only [maxLen]; omega) (by omega) hB fun v1 w hL hB => ?_
  dsimp only [List.set] at hL
  conv => whnf
  repeat (first | (refine RunH ?_; intro w hL hB; try clear w) | (refine Both.mk ?_ ?_ <;> conv => whnf) | fail)
  refine ⟨(k + 1, v1), ⟨rfl, rfl, vint (by push_cast; omega), trivial⟩, ⟨by omega, ?_, hB⟩, (by first | omega | (dsimp only; omega))⟩
  dsimp only
  rw [List.take_succ_eq_append_getElem hkl, List.map_append]
  exact hL.tl
end Go.Proofs.YtjafamiaahabgaaGreatDoor
