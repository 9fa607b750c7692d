/- garnerref4.Disk: Cut, Rot. garnerref4.Disk: List, Crash, Copy. Nothing is claimed here. -/
import Derived.Test.YtladfadcgfdbfaaGreatDoorD37
namespace Go.Proofs.YtladfadcgfdbfaaGreatDoor
open Go.RowKit
set_option linter.unusedVariables false
set_option linter.unusedSimpArgs false
set_option maxRecDepth 100000
theorem put_at {A C' : List Fv} {f g : Fv} {nm : ByteArray} (hA : ∀ x ∈ A, x.nm ≠ nm) (hfn : f.nm = nm) (hgn : g.nm = nm) : (A ++ g :: C').map Fv.fl = putS ((A ++ f :: C').map Fv.fl) g.fl := by
  rw [← putF_fl, putF_split (g := g) (by rw [hgn]; exact hA) (by rw [hgn]; exact hfn)]
theorem Sl.takeO {w : World} {a : Option Addr} {n c : Nat} {xs : List Value} (h : Sl w (.slice a n c) xs) {k : Nat} (hk : k ≤ xs.length) {c' : Nat} (h1 : k ≤ c') (h2 : c' ≤ c) : Sl w (.slice a k c') (xs.take k) := by
  obtain ⟨a', c0, he, e1, e2, e3, e4⟩ := h.of
  injection he with he1 he2 he3
  subst he1; subst he3
  refine ⟨a, c', by rw [List.length_take, Nat.min_eq_left hk], by rw [List.length_take]; omega, by omega, fun h => by have := e3 h; omega, fun ad had hne => ?_⟩
  have hx : xs ≠ [] := fun h => by subst h; simp at hne
  exact ⟨(e4 ad had hx).1, (e4 ad had hx).2.take k⟩
set_option maxHeartbeats 8000000 in
theorem cutR_fn {B b room : Nat} {R : List Fl} {F : List Res} (nm : ByteArray) (n : Int) {w0 w : World} (hD : RkS B w0 w b room R F) :
    Fn Tryz.prog 129 #[ptr b, .string nm, .int .i64 n] w fun r w' => r = .int .i64 (cutE R nm n : Nat) ∧ RkS B w0 w' b room (cutS R nm n) F := by
  obtain ⟨⟨L, fs, rfl, hok, hL⟩, hB⟩ := hD
  refine Fn.mk Tryz.func129 rfl (by kernel_rfl) Tryz.ntmps129 rfl (by rw [Tryz.results129]) ?_
  repeat (first | (refine RunH ?_; intro w hL hB; try clear w) | (refine Both.mk ?_ ?_ <;> conv => whnf) | fail)
  refine (spot_fn nm hok.ok.len hL hB).mono fun r w ⟨A, C, h1, h2, h3, hr, hL, hB⟩ => ?_
  subst hr
  have hat := At.of h1 h2 h3
  clear h1 h2 h3
  cases hd : hdN C nm with
  | false =>
    have e1 : cutE (fs.map Fv.fl) nm n = 7 := by rw [cutE, getF_fl, hat.no hok.srt hd]; rfl
    have e2 : cutS (fs.map Fv.fl) nm n = fs.map Fv.fl := by rw [cutS, getF_fl, hat.no hok.srt hd]; rfl
    rw [e1, e2]
    conv => whnf
    repeat (first | (refine RunH ?_; intro w hL hB; try clear w) | (refine Both.mk ?_ ?_ <;> conv => whnf) | fail)
    exact ⟨rfl, RkS.mk' hok hL hB⟩
  | true =>
    obtain ⟨f, C', rfl, hfn, hgn⟩ := hat.yes hd
    obtain rfl := hat.eq
    have hl1 := len1 hok.ok f (by simp)
    have hla := hok.ok.la f (by simp)
    have hget : (A ++ f :: C')[A.length]? = some f := by simp
    have hlA : (A ++ f :: C').length = A.length + C'.length + 1 := by simp; omega
    have hnA := hat.nA
    simp only [rkRes, List.cons_append] at hL
    obtain ⟨va, vc, hfv⟩ := rk_shape (X := [_, _]) hL f (by simp)
    obtain ⟨g, gcap, rfl, hgcap⟩ := own_shape0 (hL.ownR (i := 1) rfl) (by omega)
    obtain ⟨fn, fv, fd, fla⟩ := f
    dsimp only at *
    subst hfv; subst hfn
    have eE : cutE ((A ++ (⟨fn, .slice va fd.length vc, fd, fla⟩ : Fv) :: C').map Fv.fl) fn n = if n < 0 ∨ (fd.length : Int) < n then 1 else 0 := by rw [cutE, getF_fl, hgn]; rfl
    have eS : cutS ((A ++ (⟨fn, .slice va fd.length vc, fd, fla⟩ : Fv) :: C').map Fv.fl) fn n = if n < 0 ∨ (fd.length : Int) < n then (A ++ (⟨fn, .slice va fd.length vc, fd, fla⟩ : Fv) :: C').map Fv.fl else putS ((A ++ (⟨fn, .slice va fd.length vc, fd, fla⟩ : Fv) :: C').map Fv.fl) ⟨fn, fd.take n.toNat, min n.toNat fla⟩ := by rw [cutS, getF_fl, hgn]; rfl
    rw [eE, eS]
    clear eE eS
    by_cases h0 : n < 0
    · rw [if_pos (.inl h0), if_pos (.inl h0)]
      conv => whnf
      repeat (first | (refine RunH ?_; intro w hL hB; try clear w) | (refine Both.mk ?_ ?_ <;> conv => whnf) | fail)
      exact ⟨rfl, RkS.mk' (L := .slice (some ⟨g, 0, none⟩) (A ++ (⟨fn, .slice va fd.length vc, fd, fla⟩ : Fv) :: C').length gcap) hok hL hB⟩
    by_cases h1 : (fd.length : Int) < n
    · rw [if_pos (.inr h1), if_pos (.inr h1)]
      conv => whnf
      repeat (first | (refine RunH ?_; intro w hL hB; try clear w) | (refine Both.mk ?_ ?_ <;> conv => whnf) | fail)
      intro o1 ho1
      conv => whnf
      repeat (first | (refine RunH ?_; intro w hL hB; try clear w) | (refine Both.mk ?_ ?_ <;> conv => whnf) | fail)
      refine Ld.rowF ttOk f3_len 1 (hL.rowN (i := 1) rfl).rowOf tl40 rfl hget rfl (by omega) ?_
      conv => whnf
      repeat (first | (refine RunH ?_; intro w hL hB; try clear w) | (refine Both.mk ?_ ?_ <;> conv => whnf) | fail)
      exact ⟨rfl, RkS.mk' (L := .slice (some ⟨g, 0, none⟩) (A ++ (⟨fn, .slice va fd.length vc, fd, fla⟩ : Fv) :: C').length gcap) hok hL hB⟩
    rw [if_neg (by omega), if_neg (by omega)]
    obtain ⟨k, rfl⟩ : ∃ k : Nat, n = k := ⟨n.toNat, by omega⟩
    have hk : k ≤ fd.length := by omega
    rw [Int.toNat_natCast]
    have hrc : RowC w 5 (.slice va fd.length vc) fd.length (bv fd) := hL.hold (Fv.row ⟨fn, .slice va fd.length vc, fd, fla⟩) (by simp)
    have hvc : fd.length ≤ vc := by have := hrc.sl.len; rw [bv_length] at this; omega
    have hS : ∀ {w : World} {L : List Res}, Sep Tryz.prog B w0 w L → Fv.row ⟨fn, .slice va fd.length vc, fd, fla⟩ ∈ L → ∀ c', k ≤ c' → c' ≤ vc → SlN w 1 (.slice va k c') k (bv (fd.take k)) := fun h hm c' q1 q2 => by
      have h1 : Sl _ (.slice va fd.length vc) (bv fd) := RowC.sl (show RowC _ 5 _ fd.length (bv fd) from h.hold _ hm)
      have h2 := (h1.takeO (k := k) (by rw [bv_length]; exact hk) q1 q2).toN
      rw [← bv_take, bv_length, List.length_take, Nat.min_eq_left hk] at h2
      exact h2
    conv => whnf
    repeat (first | (refine RunH ?_; intro w hL hB; try clear w) | (refine Both.mk ?_ ?_ <;> conv => whnf) | fail)
    intro o1 ho1
    conv => whnf
    repeat (first | (refine RunH ?_; intro w hL hB; try clear w) | (refine Both.mk ?_ ?_ <;> conv => whnf) | fail)
    refine Ld.rowF ttOk f3_len 1 (hL.rowN (i := 1) rfl).rowOf tl40 rfl hget rfl (by omega) ?_
    conv => whnf
    repeat (first | (refine RunK ?_; intro w hL hB; try clear w) | (refine V.treeP ttOk hL 1 (.q 0 (.q 1 (.q 2 (.q 3 (.q 4 (.q 6 (.q 7 (.q 8 (.q 9 (.q 10 (.q 11 (.q 12 (.q 14 (.alt 5 (.alt 13 (.q 15 (.alt 16 (.q 17 (.q 18 (.alt 19 .nil .stop))) .stop)) .stop) (.alt 13 (.q 15 (.alt 5 (.alt 16 (.q 17 (.q 18 (.alt 19 .nil .stop))) .stop) .stop)) .stop))))))))))))))) mixed (by decide +kernel) ?_; replace hL := hL.drew; conv => whnf) | (refine V.tailA ttOk mixed (by decide +kernel) ?_; replace hL := hL.drew; conv => whnf) | (refine Both.mk ?_ ?_ <;> conv => whnf) | fail)
    intro o2 ho2
    have hva : va = none ∨ ∃ fb, va = some ⟨fb, 0, none⟩ := by
      rcases hrc.of with ⟨hz, _⟩ | ⟨fb, fcap, fcur, hz, _⟩
      · injection hz with z1; exact .inl z1
      · injection hz with z1; exact .inr ⟨fb, z1⟩
    rcases hva with rfl | ⟨fb, rfl⟩ <;> (
      conv => whnf
      repeat' (first | (refine RunH ?_; intro w hL hB; try clear w) | (refine Br.dec (fun hbr => ?_) (fun hbr => ?_) <;> conv => whnf) | (refine Br.mk (fun hbr => ?_) (fun hbr => ?_) <;> conv => whnf) | (refine Both.mk ?_ ?_ <;> conv => whnf) | (refine Rv.buildS (len := 0) (vs := []) ttOk hL tl40 tl5 rfl rfl (by intro u hu; cases hu) (by decide) (by decide) hB fun bo w hL hB => ?_; conv => whnf) | (refine Ld.rowF ttOk f3_len 1 (hL.rowN (i := 1) rfl).rowOf tl40 rfl hget rfl (by omega) ?_; conv => whnf) | (refine Ld.rowF ttOk f3_len 1 (hL.rowN (i := 2) rfl).rowOf tl40 rfl hget rfl (by omega) ?_; conv => whnf) | (intro n1 c1 q1 q2; obtain rfl : k = n1 := (by omega); conv => whnf) | fail)
      all_goals (
        refine Rv.appendS (m := k) (news := bv (fd.take k)) ttOk hL tl40 tl5 rfl (by decide) 0 rfl (hS hL (by simp) c1 (by omega) (by omega)) (bv_one _) (by simp only [maxLen]; omega) (by omega) hB fun v1 w hL hB => ?_
        dsimp only [List.set, List.flatMap_nil, List.nil_append] at hL
        obtain ⟨xa, xc, rfl⟩ := (show SlN w 1 v1 _ _ from hL.rowN (i := 0) rfl).shape
        conv => whnf
        repeat (first | (refine RunH ?_; intro w hL hB; try clear w) | (refine Both.mk ?_ ?_ <;> conv => whnf) | fail)
        intro o3 ho3
        conv => whnf
        repeat (first | (refine RunH ?_; intro w hL hB; try clear w) | (refine Both.mk ?_ ?_ <;> conv => whnf) | fail)
        refine St.rowM ttOk hL f3_len 2 A.length 1 ⟨fn, .slice xa (0 + k) xc, fd.take k, fla⟩ tl40 rfl rfl rfl hget (by decide) rfl (by omega) hB fun w hL hB => ?_
        dsimp only [List.set] at hL
        conv => whnf
        refine An.x hL ?_
        replace hL := rk_swap (g := ⟨fn, .slice xa (0 + k) xc, fd.take k, fla⟩) rfl (by simp; omega) (by rfl) hL
        have hget2 : (A ++ (⟨fn, .slice xa (0 + k) xc, fd.take k, fla⟩ : Fv) :: C')[A.length]? = some ⟨fn, .slice xa (0 + k) xc, fd.take k, fla⟩ := by simp
        simp only [rkRes, List.cons_append] at hL
        conv => whnf
        repeat (first | (refine RunK ?_; intro w hL hB; try clear w) | (refine V.treeP ttOk hL 1 (.q 0 (.q 1 (.q 2 (.q 3 (.q 4 (.q 5 (.q 6 (.q 7 (.q 8 (.q 9 (.q 10 (.q 11 (.q 13 (.alt 12 (.q 14 (.q 15 (.q 16 (.alt 17 .nil .stop)))) .stop)))))))))))))) mixed (by decide +kernel) ?_; replace hL := hL.drew; conv => whnf) | (refine V.tailA ttOk mixed (by decide +kernel) ?_; replace hL := hL.drew; conv => whnf) | (refine Both.mk ?_ ?_ <;> conv => whnf) | fail)
        intro o4 ho4
        conv => whnf
        repeat (first | (refine RunH ?_; intro w hL hB; try clear w) | (refine Both.mk ?_ ?_ <;> conv => whnf) | fail)
        refine Ld.rowF ttOk f3_len 2 (hL.rowN (i := 1) rfl).rowOf tl3 rfl hget2 rfl (by omega) ?_
        conv => whnf
        repeat (first | (refine RunH ?_; intro w hL hB; try clear w) | (refine Both.mk ?_ ?_ <;> conv => whnf) | fail)
        intro o5 ho5
        conv => whnf
        repeat (first | (refine RunH ?_; intro w hL hB; try clear w) | (refine Both.mk ?_ ?_ <;> conv => whnf) | fail)
        refine St.rowM ttOk hL f3_len 1 A.length 2 ⟨fn, .slice xa (0 + k) xc, fd.take k, min k fla⟩ tl3 rfl rfl rfl hget2 (by decide) (by
          have e : min (fla : Int) (k : Int) = ((min k fla : Nat) : Int) := by omega
          show [_, _, Value.int .i64 (min (fla : Int) (k : Int))] = _
          rw [e]; rfl) (by omega) hB fun w hL hB => ?_
        dsimp only [List.set] at hL
        conv => whnf
        repeat (first | (refine RunH ?_; intro w hL hB; try clear w) | (refine Both.mk ?_ ?_ <;> conv => whnf) | fail)
        refine ⟨rfl, ?_⟩
        have e0 : (A ++ (⟨fn, .slice xa (0 + k) xc, fd.take k, fla⟩ : Fv) :: C').set A.length ⟨fn, .slice xa (0 + k) xc, fd.take k, min k fla⟩ = A ++ ⟨fn, .slice xa (0 + k) xc, fd.take k, min k fla⟩ :: C' := by simp
        rw [e0] at hL
        have := RkS.mk' (L := .slice (some ⟨g, 0, none⟩) (A ++ (⟨fn, .slice xa (0 + k) xc, fd.take k, fla⟩ : Fv) :: C').length gcap) (F := F) (hok.set (g := ⟨fn, .slice xa (0 + k) xc, fd.take k, min k fla⟩) rfl (by simp; omega) (by have := hok.ok.tot; simp; omega)) (by
          rw [rkRes]
          simpa [Fv.row] using hL) hB
        rw [put_at (f := ⟨fn, .slice _ fd.length vc, fd, fla⟩) (nm := fn) hnA rfl rfl] at this
        exact this))
end Go.Proofs.YtladfadcgfdbfaaGreatDoor
namespace Go.Proofs.YtladfadcgfdbfaaGreatDoor
open Go.RowKit
set_option linter.unusedVariables false
set_option linter.unusedSimpArgs false
set_option maxRecDepth 100000
theorem draw_fn (n : Int) (w : World) : Fn Tryz.prog 95 #[.int .i64 n] w fun r w' => r = .int .i64 (max 0 n) ∧ w' = w := by
  refine Fn.mk Tryz.func95 rfl (by kernel_rfl) Tryz.ntmps95 rfl (by rw [Tryz.results95]) ?_
  refine RunR ?_
  exact ⟨rfl, rfl⟩
theorem round_fn (a i n : Nat) (ha : a ≤ 9223372036854775807) (hi : i ≤ 1000000) (hn : 0 < n) (hn2 : n ≤ 1125899906842624) (w : World) : Fn Tryz.prog 94 #[.int .i64 a, .int .i64 i, .int .i64 n] w fun r w' => r = .int .i64 ((a % n + i % n) % n : Nat) ∧ Below w.heap.size w w' := by
  have hL := Sep.start Tryz.prog w
  have hB := Nat.le_refl w.heap.size
  have m1 := Nat.mod_lt a hn
  have m2 := Nat.mod_lt i hn
  refine Fn.mk Tryz.func94 rfl (by kernel_rfl) Tryz.ntmps94 rfl (by rw [Tryz.results94]) ?_
  repeat (first | (refine RunK ?_; intro w hL hB; try clear w) | (refine V.treeA ttOk hL (.q 0 (.q 1 (.q 2 (.q 3 (.q 4 (.q 5 (.q 6 (.q 7 (.q 8 (.q 9 .nil)))))))))) mixed (by decide +kernel) ?_; replace hL := hL.drew; conv => whnf) | (refine V.tailA ttOk mixed (by decide +kernel) ?_; replace hL := hL.drew; conv => whnf) | (refine Both.mk ?_ ?_ <;> conv => whnf) | (refine Rem.at a n rfl rfl (by omega) ?_; conv => whnf) | (refine Rem.at i n rfl rfl (by omega) ?_; conv => whnf) | (refine Rem.at (a % n + i % n) n (by push_cast; rfl) rfl (by omega) ?_; conv => whnf) | fail)
  exact ⟨rfl, hL.below⟩
end Go.Proofs.YtladfadcgfdbfaaGreatDoor
