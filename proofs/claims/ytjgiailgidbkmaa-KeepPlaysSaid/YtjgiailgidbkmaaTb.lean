/- garnerref4.Disk: Used, insert, Append. Nothing is claimed here. -/
import Derived.Test.YtjgiailgidbkmaaTa
namespace Go.Proofs.Ytjgiailgidbkmaa
open Go.RowKit
set_option linter.unusedVariables false
set_option linter.unusedSimpArgs false
set_option maxRecDepth 100000

theorem tot_take {fs : List Fv} {k : Nat} (h : k < fs.length) : tot (fs.take (k + 1)) = tot (fs.take k) + (fs[k]).d.length := by
  rw [List.take_succ_eq_append_getElem h]
  simp only [tot, List.map_append, List.sum_append, List.map_cons, List.map_nil, List.sum_cons, List.sum_nil]
  omega
theorem usedR_fn {B b room : Nat} {L : Value} {fs : List Fv} {F : List Res} (hlen : fs.length ≤ 256) (hle : ∀ f ∈ fs, f.d.length ≤ 1073741824) {w0 w : World} (hL : Sep Try.prog B w0 w (rkRes b room L fs ++ F)) (hB : B ≤ w.heap.size) :
    Fn Try.prog 59 #[ptr b] w fun r w' => r = .int .i64 (tot fs : Nat) ∧ w' = w := by
  refine Fn.mk Try.func59 rfl (by kernel_rfl) Try.ntmps59 rfl (by rw [Try.results59]) ?_
  simp only [rkRes, List.cons_append] at hL ⊢
  have hsh := rk_shape (X := [_, _]) hL
  obtain ⟨ga, gc, rfl⟩ := (show SlN w 3 L fs.length _ from hL.rowN (i := 1) rfl).shape
  repeat (first | (refine RunH ?_; intro w hL hB; try clear w) | (refine Both.mk ?_ ?_ <;> conv => whnf) | fail)
  refine V.loop (α := Nat) (fun k => [(0, ptr b), (3, .int .i64 (tot (fs.take k) : Nat)), (4, .int .i64 (k : Int))])
    (fun k w' => k ≤ fs.length ∧ tot (fs.take k) ≤ k * 1073741824 ∧ w' = w)
    (fun k => fs.length - k) 0 ⟨rfl, rfl, rfl, trivial⟩ ⟨by omega, by simp [tot], rfl⟩ ?_
  rintro k _ ⟨hk, ht, rfl⟩
  by_cases hkl : k < fs.length
  case neg =>
    obtain rfl : k = fs.length := by omega
    repeat (first | (refine RunH ?_; intro w hL hB; try clear w) | (refine Both.mk ?_ ?_ <;> conv => whnf) | fail)
    rw [List.take_length]
    exact ⟨rfl, rfl⟩
  obtain ⟨bb, o, rfl, hrow⟩ := SlN.addr (show SlN _ 3 (.slice ga fs.length gc) fs.length _ from hL.rowN (i := 1) rfl) (by omega)
  obtain ⟨va, vc, hv⟩ := hsh _ (List.getElem_mem hkl)
  have hd := hle _ (List.getElem_mem hkl)
  have hts := tot_take hkl
  repeat (first | (refine RunH ?_; intro w hL hB; try clear w) | (refine Both.mk ?_ ?_ <;> conv => whnf) | fail)
  intro o1 ho1
  conv => whnf
  repeat (first | (refine RunH ?_; intro w hL hB; try clear w) | (refine Both.mk ?_ ?_ <;> conv => whnf) | fail)
  refine Ld.rowF ttOk f3_len 1 hrow tl22 rfl (List.getElem?_eq_getElem hkl) (by rw [f3, hv]; rfl) (by omega) ?_
  conv => whnf
  repeat (first | (refine RunH ?_; intro w hL hB; try clear w) | (refine Both.mk ?_ ?_ <;> conv => whnf) | fail)
  exact ⟨k + 1, ⟨rfl, vint (by push_cast; omega), vint (by push_cast; omega), trivial⟩, ⟨by omega, by omega, rfl⟩, (by first | omega | (dsimp only; omega))⟩

theorem zeroF3 : True := trivial
set_option maxHeartbeats 4000000 in
/-- a file with no byte of its own yet is laid in -/
theorem insert_fn {B b room : Nat} {L : Value} {A C : List Fv} {F : List Res} (g : Fv) (hg : ∃ a c, g.v = .slice a g.d.length c) (hlen : (A ++ C).length ≤ 256) {w0 w : World}
    (hL : Sep Try.prog B w0 w (.blk b [.int .i64 (room : Int), L] 71 :: .row 82 3 L (A ++ C).length ((A ++ C).flatMap f3) :: ((A ++ g :: C).map Fv.row ++ F))) (hB : B ≤ w.heap.size) :
    Fn Try.prog 60 #[ptr b, .int .i64 (A.length : Nat), .agg (f3 g).toArray] w fun r w' => ∃ L', Sep Try.prog B w0 w' (rkRes b room L' (A ++ g :: C) ++ F) ∧ B ≤ w'.heap.size := by
  have hsh := rk_shape (X := [_, _]) hL
  obtain ⟨va, vc, hv⟩ := hg
  have hshA : ∀ f ∈ A, ∃ a c, f.v = .slice a f.d.length c := fun f hf => hsh f (by simp [hf])
  have hshC : ∀ f ∈ C, ∃ a c, f.v = .slice a f.d.length c := fun f hf => hsh f (by simp [hf])
  have hshg : ∀ f ∈ [g], ∃ a c, f.v = .slice a f.d.length c := fun f hf => by simp at hf; subst hf; exact ⟨va, vc, hv⟩
  obtain ⟨gn, gv, gd, gl⟩ := g
  dsimp only at hv
  subst hv
  simp only [List.length_append] at hlen
  refine Fn.mk Try.func60 rfl (by kernel_rfl) Try.ntmps60 rfl (by rw [Try.results60]) ?_
  simp only [f3]
  repeat (first | (refine RunH ?_; intro w hL hB; try clear w) | (refine Both.mk ?_ ?_ <;> conv => whnf) | fail)
  (refine Nw.sep hL hB (fun t5 w hL hB ht5 => ?_); conv => whnf)
  repeat (first | (refine RunH ?_; intro w hL hB; try clear w) | (refine Both.mk ?_ ?_ <;> conv => whnf) | fail)
  refine Rv.buildS (len := 0) (vs := []) ttOk hL tl69 tl82 rfl rfl (by intro u hu; cases hu) (by decide) (by decide) hB fun bo w hL hB => ?_
  conv => whnf
  have hsl := hL.rowN (i := 3) rfl
  have hpp : ((A ++ (⟨gn, .slice va gd.length vc, gd, gl⟩ : Fv) :: C).map Fv.row).length = A.length + C.length + 1 := by simp; omega
  rcases own_shape (hL.ownR (i := 3) rfl) with ⟨rfl, h0⟩ | ⟨g, gc, rfl, hgc⟩
  · simp only [List.length_append, Nat.add_eq_zero_iff] at h0
    obtain rfl := List.eq_nil_of_length_eq_zero h0.1
    obtain rfl := List.eq_nil_of_length_eq_zero h0.2
    repeat (first | (refine RunH ?_; intro w hL hB; try clear w) | (refine Both.mk ?_ ?_ <;> conv => whnf) | fail)
    intro n1 c1 q1 q2
    obtain rfl : n1 = 0 := by simp at q1; omega
    obtain rfl : c1 = 0 := by simp at q2; omega
    conv => whnf
    repeat (first | (refine RunH ?_; intro w hL hB; try clear w) | (refine Both.mk ?_ ?_ <;> conv => whnf) | fail)
    refine Rv.appendS (m := 0) (news := []) ttOk hL tl69 tl82 rfl (by decide) 0 rfl (SlN.nil _ _) (by simp) (by simp [maxLen]) (by simp) hB fun v1 w hL hB => ?_
    dsimp only [List.set, List.flatMap_nil, List.append_nil] at hL
    obtain ⟨xa, xc, rfl⟩ := (show SlN w 3 v1 _ _ from hL.rowN (i := 0) rfl).shape
    conv => whnf
    repeat (first | (refine RunH ?_; intro w hL hB; try clear w) | (refine Both.mk ?_ ?_ <;> conv => whnf) | fail)
    refine Rv.buildS (len := 1) (vs := [.agg #[.string gn, .slice va gd.length vc, .int .i64 (gl : Int)]]) ttOk hL tl69 tl82 rfl rfl (by intro u hu; simp at hu; subst hu; rfl) (by decide) (by decide) hB fun bo2 w hL hB => ?_
    conv => whnf
    repeat (first | (refine RunH ?_; intro w hL hB; try clear w) | (refine Both.mk ?_ ?_ <;> conv => whnf) | fail)
    refine Rv.appendS (m := 1) (news := [.string gn, .slice va gd.length vc, .int .i64 (gl : Int)]) ttOk hL tl69 tl82 rfl (by decide) 1 rfl (hL.rowN (i := 0) rfl) (by intro u hu; simp at hu; rcases hu with rfl | rfl | rfl <;> rfl) (by simp [maxLen]) (by simp) hB fun v2 w hL hB => ?_
    dsimp only [List.set, List.flatMap_nil, List.append_nil] at hL
    obtain ⟨ya, yc, rfl⟩ := (show SlN w 3 v2 _ _ from hL.rowN (i := 1) rfl).shape
    conv => whnf
    repeat (first | (refine RunH ?_; intro w hL hB; try clear w) | (refine Both.mk ?_ ?_ <;> conv => whnf) | fail)
    intro n2 c2 q3 q4
    obtain rfl : n2 = 0 := by simp at q3; omega
    obtain rfl : c2 = 0 := by simp at q4; omega
    conv => whnf
    repeat (first | (refine RunH ?_; intro w hL hB; try clear w) | (refine Both.mk ?_ ?_ <;> conv => whnf) | fail)
    refine Rv.appendS (m := 0) (news := []) ttOk hL tl69 tl82 rfl (by decide) 1 rfl (SlN.nil _ _) (by simp) (by simp [maxLen]) (by simp) hB fun v3 w hL hB => ?_
    dsimp only [List.set, List.flatMap_nil, List.append_nil] at hL
    obtain ⟨za, zc, rfl⟩ := (show SlN w 3 v3 _ _ from hL.rowN (i := 1) rfl).shape
    conv => whnf
    repeat (first | (refine RunH ?_; intro w hL hB; try clear w) | (refine Both.mk ?_ ?_ <;> conv => whnf) | fail)
    rw [show 0 + 0 + 1 + 0 = ((([] : List Fv)) ++ (⟨gn, .slice va gd.length vc, gd, gl⟩ : Fv) :: ([])).length by simp; try omega] at hL
    have hL2 := (hL.sub (L' := _ :: _ :: ((((([] : List Fv)) ++ (⟨gn, .slice va gd.length vc, gd, gl⟩ : Fv) :: ([])).map Fv.row ++ F))) (.cons _ (.cons_cons _ (.cons _ (.cons_cons _ (.cons _ (.refl _))))))).perm (.swap _ _ _)
    refine ⟨.slice za 1 zc, ?_, hB⟩
    simpa [rkRes, f3] using hL2
  · simp only [List.length_append] at hgc
    repeat (first | (refine RunH ?_; intro w hL hB; try clear w) | (refine Both.mk ?_ ?_ <;> conv => whnf) | fail)
    intro n1 c1 q1 q2
    obtain rfl : n1 = A.length := by omega
    conv => whnf
    repeat (first | (refine RunH ?_; intro w hL hB; try clear w) | (refine Both.mk ?_ ?_ <;> conv => whnf) | fail)
    refine Rv.appendS (m := A.length) (news := A.flatMap f3) ttOk hL tl69 tl82 rfl (by decide) 0 rfl (by
      have := SlN.takeF f3_len (hL.rowN (i := 3) rfl) (k := A.length) (by simp) (c' := c1) (by omega) (by omega)
      rwa [List.take_left' rfl] at this) (f3_one A hshA) (by simp only [maxLen]; omega) (by omega) hB fun v1 w hL hB => ?_
    dsimp only [List.set, List.flatMap_nil, List.append_nil] at hL
    obtain ⟨xa, xc, rfl⟩ := (show SlN w 3 v1 _ _ from hL.rowN (i := 0) rfl).shape
    conv => whnf
    repeat (first | (refine RunH ?_; intro w hL hB; try clear w) | (refine Both.mk ?_ ?_ <;> conv => whnf) | fail)
    refine Rv.buildS (len := 1) (vs := [.agg #[.string gn, .slice va gd.length vc, .int .i64 (gl : Int)]]) ttOk hL tl69 tl82 rfl rfl (by intro u hu; simp at hu; subst hu; rfl) (by decide) (by decide) hB fun bo2 w hL hB => ?_
    conv => whnf
    repeat (first | (refine RunH ?_; intro w hL hB; try clear w) | (refine Both.mk ?_ ?_ <;> conv => whnf) | fail)
    refine Rv.appendS (m := 1) (news := [.string gn, .slice va gd.length vc, .int .i64 (gl : Int)]) ttOk hL tl69 tl82 rfl (by decide) 1 rfl (hL.rowN (i := 0) rfl) (by intro u hu; simp at hu; rcases hu with rfl | rfl | rfl <;> rfl) (by simp only [maxLen]; omega) (by omega) hB fun v2 w hL hB => ?_
    dsimp only [List.set, List.flatMap_nil, List.append_nil] at hL
    obtain ⟨ya, yc, rfl⟩ := (show SlN w 3 v2 _ _ from hL.rowN (i := 1) rfl).shape
    conv => whnf
    repeat (first | (refine RunH ?_; intro w hL hB; try clear w) | (refine Both.mk ?_ ?_ <;> conv => whnf) | fail)
    have hAC : (A ++ C).length = A.length + C.length := List.length_append
    refine ⟨⟨by omega, ?_⟩⟩
    conv => whnf
    intro o2 n2 c2 q3 q4 q5 q6
    obtain rfl : n2 = C.length := by omega
    conv => whnf
    repeat (first | (refine RunH ?_; intro w hL hB; try clear w) | (refine Both.mk ?_ ?_ <;> conv => whnf) | fail)
    refine Rv.appendS (m := C.length) (news := C.flatMap f3) ttOk hL tl69 tl82 rfl (by decide) 1 rfl (by
      have := SlN.dropF f3_len (hL.rowN (i := 4) rfl) (k := A.length) (by simp) (o' := o2) (n' := C.length) (c' := c2) (fun h => by have := q3 (by omega); omega) (by simp) (by omega)
      rwa [List.drop_left' rfl, List.length_append, Nat.add_sub_cancel_left] at this) (f3_one C hshC) (by simp only [maxLen]; omega) (by omega) hB fun v3 w hL hB => ?_
    dsimp only [List.set, List.flatMap_nil, List.append_nil] at hL
    obtain ⟨za, zc, rfl⟩ := (show SlN w 3 v3 _ _ from hL.rowN (i := 1) rfl).shape
    conv => whnf
    repeat (first | (refine RunH ?_; intro w hL hB; try clear w) | (refine Both.mk ?_ ?_ <;> conv => whnf) | fail)
    rw [show 0 + A.length + 1 + C.length = ((A) ++ (⟨gn, .slice va gd.length vc, gd, gl⟩ : Fv) :: (C)).length by simp; try omega] at hL
    have hL2 := (hL.sub (L' := _ :: _ :: ((((A) ++ (⟨gn, .slice va gd.length vc, gd, gl⟩ : Fv) :: (C)).map Fv.row ++ F))) (.cons _ (.cons_cons _ (.cons _ (.cons_cons _ (.cons _ (.refl _))))))).perm (.swap _ _ _)
    refine ⟨.slice za ((A) ++ (⟨gn, .slice va gd.length vc, gd, gl⟩ : Fv) :: (C)).length zc, ?_, hB⟩
    have e : ((A) ++ (⟨gn, .slice va gd.length vc, gd, gl⟩ : Fv) :: (C)).flatMap f3 = A.flatMap f3 ++ [.string gn, .slice va gd.length vc, .int .i64 (gl : Int)] ++ C.flatMap f3 := by simp [f3]
    rw [rkRes, e]
    exact hL2
end Go.Proofs.Ytjgiailgidbkmaa
