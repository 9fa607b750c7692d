/- garnerref4.Disk: List, Crash, Copy. Nothing is claimed here. -/
import Derived.Test.YtpfmnpkjhnbkhaaTf
namespace Go.Proofs.Ytpfmnpkjhnbkhaa
open Go.RowKit
set_option linter.unusedVariables false
set_option linter.unusedSimpArgs false
set_option maxRecDepth 100000

theorem draw_fn (n : Int) (w : World) : Fn Try.prog 51 #[.int .i64 n] w fun r w' => r = .int .i64 (max 0 n) ∧ w' = w := by
  refine Fn.mk Try.func51 rfl (by kernel_rfl) Try.ntmps51 rfl (by rw [Try.results51]) ?_
  refine RunR ?_
  exact ⟨rfl, rfl⟩
theorem round_fn (a i n : Nat) (ha : a ≤ 9223372036854775807) (hi : i ≤ 1000000) (hn : 0 < n) (hn2 : n ≤ 1125899906842624) (w : World) : Fn Try.prog 50 #[.int .i64 a, .int .i64 i, .int .i64 n] w fun r w' => r = .int .i64 ((a % n + i % n) % n : Nat) ∧ Below w.heap.size w w' := by
  have hL := Sep.start Try.prog w
  have hB := Nat.le_refl w.heap.size
  have m1 := Nat.mod_lt a hn
  have m2 := Nat.mod_lt i hn
  refine Fn.mk Try.func50 rfl (by kernel_rfl) Try.ntmps50 rfl (by rw [Try.results50]) ?_
  repeat (first | (refine RunK ?_; intro w hL hB; try clear w) | (refine V.treeA ttOk hL (.q 0 (.q 1 (.q 2 (.q 3 (.q 4 (.q 5 (.q 6 (.q 7 (.q 8 (.q 9 .nil)))))))))) mixed (by decide +kernel) ?_; replace hL := hL.drew; conv => whnf) | (refine V.tailA ttOk mixed (by decide +kernel) ?_; replace hL := hL.drew; conv => whnf) | (refine Both.mk ?_ ?_ <;> conv => whnf) | (refine Rem.at a n rfl rfl (by omega) ?_; conv => whnf) | (refine Rem.at i n rfl rfl (by omega) ?_; conv => whnf) | (refine Rem.at (a % n + i % n) n (by push_cast; rfl) rfl (by omega) ?_; conv => whnf) | fail)
  exact ⟨rfl, hL.below⟩
def nmV (f : Fv) : Value := .string f.nm
theorem listR_fn {B b room : Nat} {R : List Fl} {F : List Res} {w0 w : World} (hD : RkS B w0 w b room R F) :
    Fn Try.prog 48 #[ptr b] w fun r w' => RkS B w0 w' b room R (.row 9 1 r R.length (R.map fun f => .string f.nm) :: F) := by
  obtain ⟨⟨L, fs, rfl, hok, hL⟩, hB⟩ := hD
  have hlen := hok.ok.len
  simp only [rkRes, List.cons_append] at hL
  obtain ⟨ga, gc, rfl⟩ := (show SlN w 3 L fs.length _ from hL.rowN (i := 1) rfl).shape
  refine Fn.mk Try.func48 rfl (by kernel_rfl) Try.ntmps48 rfl (by rw [Try.results48]) ?_
  replace hL := hL.nilRow 9 1
  repeat (first | (refine RunH ?_; intro w hL hB; try clear w) | (refine Both.mk ?_ ?_ <;> conv => whnf) | fail)
  refine V.loop (α := Nat × Value) (fun z => [(0, ptr b), (3, z.2), (4, .int .i64 (z.1 : Int))])
    (fun z w' => z.1 ≤ fs.length ∧ Sep Try.prog B w0 w' (.row 9 1 z.2 z.1 ((fs.take z.1).map nmV) :: .blk b [.int .i64 (room : Int), .slice ga fs.length gc] 77 :: .row 79 3 (.slice ga fs.length gc) fs.length (fs.flatMap f3) :: (fs.map Fv.row ++ F)) ∧ B ≤ w'.heap.size)
    (fun z => fs.length - z.1) (0, .slice none 0 0) ⟨rfl, rfl, rfl, trivial⟩ ⟨by omega, hL, hB⟩ ?_
  clear hL hB
  rintro ⟨k, v⟩ w ⟨hk, hL, hB⟩
  dsimp only at *
  by_cases hkl : k < fs.length
  case neg =>
    obtain rfl : k = fs.length := by omega
    repeat (first | (refine RunH ?_; intro w hL hB; try clear w) | (refine Both.mk ?_ ?_ <;> conv => whnf) | fail)
    rw [List.take_length] at hL
    refine RkS.mk' (L := .slice ga fs.length gc) hok (hL.perm ?_) hB
    rw [List.length_map, List.map_map]
    refine (List.Perm.swap _ _ _).trans (.cons _ ((List.Perm.swap _ _ _).trans (.cons _ ?_)))
    exact List.perm_middle.symm
  obtain ⟨bb, o, rfl, hrow⟩ := SlN.addr (show SlN w 3 (.slice ga fs.length gc) fs.length _ from hL.rowN (i := 2) rfl) (by omega)
  obtain ⟨xa, xc, rfl⟩ := (show SlN w 1 v k _ from hL.rowN (i := 0) rfl).shape
  repeat (first | (refine RunH ?_; intro w hL hB; try clear w) | (refine Both.mk ?_ ?_ <;> conv => whnf) | fail)
  intro o1 ho1
  conv => whnf
  repeat (first | (refine RunH ?_; intro w hL hB; try clear w) | (refine Both.mk ?_ ?_ <;> conv => whnf) | fail)
  refine Ld.rowF ttOk f3_len 0 hrow tl9 rfl (List.getElem?_eq_getElem hkl) rfl (by omega) ?_
  conv => whnf
  repeat (first | (refine RunH ?_; intro w hL hB; try clear w) | (refine Both.mk ?_ ?_ <;> conv => whnf) | fail)
  refine Rv.buildS (len := 1) (vs := [.string (fs[k]).nm]) ttOk hL tl36 tl9 rfl rfl (by intro u hu; simp at hu; subst hu; rfl) (by decide) (by decide) hB fun bo w hL hB => ?_
  conv => whnf
  repeat (first | (refine RunH ?_; intro w hL hB; try clear w) | (refine Both.mk ?_ ?_ <;> conv => whnf) | fail)
  refine Rv.appendS (m := 1) (news := [.string (fs[k]).nm]) ttOk hL tl36 tl9 rfl (by decide) 1 rfl (hL.rowN (i := 0) rfl) (by intro u hu; simp at hu; subst hu; rfl) (by simp only [maxLen]; omega) (by omega) hB fun v1 w hL hB => ?_
  dsimp only [List.set] at hL
  conv => whnf
  repeat (first | (refine RunH ?_; intro w hL hB; try clear w) | (refine Both.mk ?_ ?_ <;> conv => whnf) | fail)
  refine ⟨(k + 1, v1), ⟨rfl, rfl, vint (by push_cast; omega), trivial⟩, ⟨by omega, ?_, hB⟩, (by first | omega | (dsimp only; omega))⟩
  dsimp only
  rw [List.take_succ_eq_append_getElem hkl, List.map_append]
  exact hL.tl
end Go.Proofs.Ytpfmnpkjhnbkhaa
