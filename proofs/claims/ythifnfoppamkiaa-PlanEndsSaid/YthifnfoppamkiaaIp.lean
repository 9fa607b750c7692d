/- Plan: the comparison by which free ones are sorted. Nothing is claimed here. -/
import Derived.Test.YthifnfoppamkiaaIo
import Derived.Test.YthifnfoppamkiaaSrt
namespace Go.Proofs.Ythifnfoppamkiaa
open Go.RowKit
set_option linter.unusedVariables false
set_option linter.unusedSimpArgs false
set_option maxRecDepth 100000

def cmpI (x y : Int) : Int := if x < y then -1 else if y < x then 1 else 0
theorem isNaN_fn (x : Int) (w0 : World) : Fn Try.prog 52 #[.int .i64 x] w0 fun r w' => r = .bool false ∧ w' = w0 := by
  have hL := Sep.start Try.prog w0
  have hB := Nat.le_refl w0.heap.size
  refine Fn.mk Try.func52 rfl (by kernel_rfl) Try.ntmps52 rfl (by rw [Try.results52]) ?_
  repeat (first | (refine RunH ?_; intro w hL hB; try clear w) | (refine Both.mk ?_ ?_ <;> conv => whnf) | fail)
  exact ⟨by simp, rfl⟩
theorem compare_fn (x y : Int) (w0 : World) : Fn Try.prog 47 #[.int .i64 x, .int .i64 y] w0 fun r w' => r = .int .i64 (cmpI x y) ∧ w' = w0 := by
  have hL := Sep.start Try.prog w0
  have hB := Nat.le_refl w0.heap.size
  unfold cmpI
  refine Fn.mk Try.func47 rfl (by kernel_rfl) Try.ntmps47 rfl (by rw [Try.results47]) ?_
  by_cases h1 : x < y
  · rw [if_pos h1]
    repeat (first | (refine RunH ?_; intro w hL hB; try clear w) | (refine Both.mk ?_ ?_ <;> conv => whnf) | (refine (isNaN_fn _ _).mono fun r w1 hr => ?_; obtain ⟨hr, hw⟩ := hr; subst hr; subst hw; conv => whnf) | fail)
    exact ⟨rfl, rfl⟩
  · rw [if_neg h1]
    by_cases h2 : y < x
    · rw [if_pos h2]
      repeat (first | (refine RunH ?_; intro w hL hB; try clear w) | (refine Both.mk ?_ ?_ <;> conv => whnf) | (refine (isNaN_fn _ _).mono fun r w1 hr => ?_; obtain ⟨hr, hw⟩ := hr; subst hr; subst hw; conv => whnf) | fail)
      exact ⟨rfl, rfl⟩
    · rw [if_neg h2]
      repeat (first | (refine RunH ?_; intro w hL hB; try clear w) | (refine Both.mk ?_ ?_ <;> conv => whnf) | (refine (isNaN_fn _ _).mono fun r w1 hr => ?_; obtain ⟨hr, hw⟩ := hr; subst hr; subst hw; conv => whnf) | fail)
      exact ⟨rfl, rfl⟩
def orI : List Int → Int
  | [] => 0
  | x :: l => if x = 0 then orI l else x
theorem orI_drop {ns : List Int} {i : Nat} {x : Int} (h : ns[i]? = some x) : orI (ns.drop i) = if x = 0 then orI (ns.drop (i + 1)) else x := by
  obtain ⟨hi, rfl⟩ := List.getElem?_eq_some_iff.1 h
  rw [List.drop_eq_getElem_cons hi]; rfl
theorem or_fn (v : Value) (ns : List Int) (w0 : World) (h : SlE w0 v (numC ns)) : Fn Try.prog 46 #[v] w0 fun r w' => r = .int .i64 (orI ns) ∧ w' = w0 := by
  obtain ⟨va, vc, rfl⟩ := h.shape
  have hle := h.le
  rw [numC_len] at h hle ⊢
  have hL := Sep.start Try.prog w0
  have hB := Nat.le_refl w0.heap.size
  refine Fn.mk Try.func46 rfl (by kernel_rfl) Try.ntmps46 rfl (by rw [Try.results46]) ?_
  repeat (first | (refine RunH ?_; intro w hL hB; try clear w) | (refine Both.mk ?_ ?_ <;> conv => whnf) | fail)
  refine V.loop (α := Nat) (fun z => [(3, .int .i64 0), (6, .slice va ns.length vc), (7, .int .i64 ns.length), (8, .int .i64 z)])
    (fun z w' => z ≤ ns.length ∧ w' = w0 ∧ orI (ns.drop z) = orI ns) (fun z => ns.length - z) 0 ⟨rfl, rfl, rfl, rfl, trivial⟩ ⟨by simp, rfl, by simp⟩ ?_
  rintro i w ⟨hi, rfl, hn⟩
  dsimp only at *
  repeat (first | (refine RunH ?_; intro w hL hB; try clear w) | (refine Both.mk ?_ ?_ <;> conv => whnf) | fail)
  refine Br.dec (fun hlt => ?_) (fun hlt => ?_)
  · have hie : i < ns.length := by omega
    obtain ⟨b, o, rfl, hr⟩ := h.sl.toN.addr (by omega)
    have hge : ns[i]? = some ns[i] := List.getElem?_eq_getElem hie
    generalize ns[i] = x at hge
    rw [orI_drop hge] at hn
    repeat (first | (refine RunH ?_; intro w hL hB; try clear w) | (refine Both.mk ?_ ?_ <;> conv => whnf) | fail)
    intro o' ho'
    conv => whnf
    refine Ld.row1 ttOk hr rfl rfl (k := i) (numC_get hge) (by omega) ?_
    conv => whnf
    repeat (first | (refine RunH ?_; intro w hL hB; try clear w) | (refine Both.mk ?_ ?_ <;> conv => whnf) | fail)
    refine Br.dec (fun he => ?_) (fun he => ?_)
    · rw [if_pos he] at hn
      repeat (first | (refine RunH ?_; intro w hL hB; try clear w) | (refine Both.mk ?_ ?_ <;> conv => whnf) | fail)
      exact ⟨i + 1, ⟨rfl, rfl, rfl, rfl, trivial⟩, ⟨hie, rfl, hn⟩, (by first | omega | (dsimp only; omega))⟩
    · rw [if_neg he] at hn
      repeat (first | (refine RunH ?_; intro w hL hB; try clear w) | (refine Both.mk ?_ ?_ <;> conv => whnf) | fail)
      exact ⟨by rw [hn], rfl⟩
  · obtain rfl : i = ns.length := by omega
    rw [List.drop_length] at hn
    repeat (first | (refine RunH ?_; intro w hL hB; try clear w) | (refine Both.mk ?_ ?_ <;> conv => whnf) | fail)
    exact ⟨by rw [← hn]; rfl, rfl⟩
def cfS (ld : Int → Nat) (x y : Int) : Int := orI [cmpI (ld x) (ld y), cmpI x y]
theorem cfS_lt (ld : Int → Nat) (x y : Int) : cfS ld x y < 0 ↔ lt2 ld x y := by
  unfold cfS lt2 cmpI orI
  simp only [orI]
  repeat' split
  all_goals omega
/-- where the closure's things lie -/
structure CapS (bx bw : Nat) (vs lv sv : Value) (ld : Int → Nat) (c : PC) (w : World) : Prop where
  box : Blk w bx [.pointer (some ⟨bw, 0, none⟩)] 51
  wd : Blk w bw (wdC vs lv ld sv c) 55
theorem CapS.keep {bx bw : Nat} {vs lv sv : Value} {ld : Int → Nat} {c : PC} {w w' : World} (h : CapS bx bw vs lv sv ld c w) (h1 : w'.heap[bx]? = w.heap[bx]?) (h2 : w'.heap[bw]? = w.heap[bw]?) : CapS bx bw vs lv sv ld c w' := ⟨h.box.keep h1, h.wd.keep h2⟩
theorem wdC_load {vs lv sv : Value} {ld : Int → Nat} {c : PC} {x : Int} (h0 : 0 ≤ x) (h1 : x < 64) {k : Nat} (hk : k = 2 + x.toNat) : (wdC vs lv ld sv c)[k]? = some (.int .i64 (ld x : Int)) := by
  subst hk
  unfold wdC
  rw [show 2 + x.toNat = x.toNat + 1 + 1 by omega, List.getElem?_cons_succ, List.getElem?_cons_succ, List.getElem?_append_left (by rw [loadC_len]; omega)]
  exact loadC_get ld h0 h1
theorem grow_keep (w : World) (os : Array Obj) (q : Nat) {b : Nat} (h : b < w.heap.size) : (Go.Sort.grow (w.drewN q) os).heap[b]? = w.heap[b]? := Go.Sort.heap_grow_old _ _ (by exact h)
set_option maxHeartbeats 4000000 in
theorem closure_fn (bx bw : Nat) (vs lv sv : Value) (ld : Int → Nat) (c : PC) (x y : Int) (hx0 : 0 ≤ x) (hx1 : x < 64) (hy0 : 0 ≤ y) (hy1 : y < 64) (w0 : World) (h : CapS bx bw vs lv sv ld c w0) :
    Fn Try.prog 45 #[.int .i64 x, .int .i64 y, .pointer (some ⟨bx, 0, none⟩)] w0 fun r w' => r = .int .i64 (cfS ld x y) ∧ ∃ q os, w' = Go.Sort.grow (w0.drewN q) os := by
  have hL := Sep.start Try.prog w0
  have hB := Nat.le_refl w0.heap.size
  have hcl : ∀ q os, CapS bx bw vs lv sv ld c (Go.Sort.grow (w0.drewN q) os) := fun q os => h.keep (grow_keep _ _ _ h.box.lt) (grow_keep _ _ _ h.wd.lt)
  have hgx := wdC_load (vs := vs) (lv := lv) (sv := sv) (ld := ld) (c := c) hx0 hx1 rfl
  have hgy := wdC_load (vs := vs) (lv := lv) (sv := sv) (ld := ld) (c := c) hy0 hy1 rfl
  refine Fn.mk Try.func45 rfl (by kernel_rfl) Try.ntmps45 rfl (by rw [Try.results45]) ?_
  repeat (first | (refine RunH ?_; intro w hL hB; try clear w) | (refine Both.mk ?_ ?_ <;> conv => whnf) | fail)
  refine V.tree ttOk (fun x => ∃ q os, x = Go.Sort.grow (w0.drewN q) os) (.q 0 (.q 1 (.q 2 (.q 3 (.q 4 (.q 5 (.q 6 (.q 7 (.q 8 (.q 9 (.q 10 (.q 11 (.q 13 (.q 14 (.alt 12 (.alt 15 (.alt 16 (.alt 17 (.q 18 .nil) .stop) .stop) .stop) .stop))))))))))))))) mixed (by decide +kernel) ⟨1, #[], by rw [Go.Sort.grow_empty]; rfl⟩ ?_
  have hG : ∃ q os, w0.drew = Go.Sort.grow (w0.drewN q) os := ⟨1, #[], by rw [Go.Sort.grow_empty]; rfl⟩
  conv => whnf
  repeat' (first | (refine RunH ?_; intro w hL hB; try clear w) | (refine Br.dec (fun hbr => ?_) (fun hbr => ?_) <;> conv => whnf) | (refine Br.mk (fun hbr => ?_) (fun hbr => ?_) <;> conv => whnf) | (refine Both.mk ?_ ?_ <;> conv => whnf) | (refine Lq.of_class (v := .pointer (some ⟨bw, 0, none⟩)) (fun w9 hw9 => by obtain ⟨q, os, rfl⟩ := hw9; exact Ld.blk ttOk rfl rfl (hcl q os).box rfl rfl) ?_; conv => whnf) | (refine Lq.of_class (v := .int .i64 (ld x : Int)) (fun w9 hw9 => by obtain ⟨q, os, rfl⟩ := hw9; exact Ld.blk ttOk rfl rfl (hcl q os).wd hgx rfl) ?_; conv => whnf) | (refine Lq.of_class (v := .int .i64 (ld y : Int)) (fun w9 hw9 => by obtain ⟨q, os, rfl⟩ := hw9; exact Ld.blk ttOk rfl rfl (hcl q os).wd hgy rfl) ?_; conv => whnf) | (intro o9 ho9; first | (refine (fun (hq : 2 + x.toNat = o9) => ?_) (by omega); subst hq) | (refine (fun (hq : 2 + y.toNat = o9) => ?_) (by omega); subst hq) | fail; conv => whnf) | (refine (compare_fn _ _ _).mono fun r w1 hr => ?_; obtain ⟨hr, hw⟩ := hr; subst hr; subst hw; conv => whnf) | (refine And.intro hG ?_; conv => whnf) | fail)
  all_goals
    refine Rv.build ttOk tl24 tl3 rfl rfl (by intro u hu; simp only [List.mem_cons, List.not_mem_nil, or_false] at hu; rcases hu with rfl | rfl <;> rfl) (by decide) (by decide) fun w9 ho9 hg9 he9 => ?_
    have hG9 : ∃ q os, w9 = Go.Sort.grow (w0.drewN q) os := ⟨1, #[.cells (numC [cmpI (ld x) (ld y), cmpI x y]).toArray 3], by rw [he9, Go.Sort.alloc_eq_grow]; rfl⟩
    conv => whnf
    repeat' (first | (refine RunH ?_; intro w hL hB; try clear w) | (refine Br.dec (fun hbr => ?_) (fun hbr => ?_) <;> conv => whnf) | (refine Br.mk (fun hbr => ?_) (fun hbr => ?_) <;> conv => whnf) | (refine Both.mk ?_ ?_ <;> conv => whnf) | (refine And.intro hG9 ?_; conv => whnf) | fail)
    refine (or_fn _ [cmpI (ld x) (ld y), cmpI x y] _ (SlN.of_own ho9).to1.e).mono fun r w hr => ?_
    obtain ⟨rfl, rfl⟩ := hr
    conv => whnf
    repeat' (first | (refine RunH ?_; intro w hL hB; try clear w) | (refine Br.dec (fun hbr => ?_) (fun hbr => ?_) <;> conv => whnf) | (refine Br.mk (fun hbr => ?_) (fun hbr => ?_) <;> conv => whnf) | (refine Both.mk ?_ ?_ <;> conv => whnf) | (refine And.intro hG9 ?_; conv => whnf) | fail)
    exact ⟨rfl, hG9⟩
end Go.Proofs.Ythifnfoppamkiaa
