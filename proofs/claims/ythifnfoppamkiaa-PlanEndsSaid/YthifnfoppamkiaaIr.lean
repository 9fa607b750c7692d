/- Plan: the code's free, living, whole. Nothing is claimed here. -/
import Derived.Test.YthifnfoppamkiaaIq
namespace Go.Proofs.Ythifnfoppamkiaa
open Go.RowKit
set_option linter.unusedVariables false
set_option linter.unusedSimpArgs false
set_option maxRecDepth 100000

theorem candU_yes {live : List Bool} {ns : List Int} {k : Nat} (h1 : liveS live k = true) (h2 : ns.contains (k : Int) = false) : candU live ns (k + 1) = candU live ns k ++ [(k : Int)] := by
  unfold candU
  rw [numS_succ, List.filter_append]
  simp [List.filter, h1, h2, -List.contains_eq_mem]
theorem candU_no {live : List Bool} {ns : List Int} {k : Nat} (h : liveS live k = false ∨ ns.contains (k : Int) = true) : candU live ns (k + 1) = candU live ns k := by
  unfold candU
  rw [numS_succ, List.filter_append]
  rcases h with h | h <;> simp [List.filter, h, -List.contains_eq_mem]
theorem candU_len (live : List Bool) (ns : List Int) (k : Nat) : (candU live ns k).length ≤ k := by
  unfold candU
  exact Nat.le_trans (List.length_filter_le _ _) (by rw [numS_len]; exact Nat.le_refl _)
theorem living_fn (bw : Nat) (vs lv sv nv : Value) (ld : Int → Nat) (c : PC) (live : List Bool) (ns : List Int) (w0 : World) (hC : Blk w0 bw (wdC vs lv ld sv c) 55) (hl : SlE w0 lv (boolC live)) (h : SlE w0 nv (numC ns)) (hn : ns.length ≤ 1000) :
    Fn Try.prog 35 #[.pointer (some ⟨bw, 0, none⟩), nv] w0 fun r w' => OwnN w0 r (livingS live ns) w' := by
  obtain ⟨va, vc, rfl⟩ := h.shape
  rw [numC_len] at h ⊢
  have hL := Sep.start Try.prog w0
  have hB := Nat.le_refl w0.heap.size
  refine Fn.mk Try.func35 rfl (by kernel_rfl) Try.ntmps35 rfl (by rw [Try.results35]) ?_
  repeat (first | (refine RunH ?_; intro w hL hB; try clear w) | (refine Both.mk ?_ ?_ <;> conv => whnf) | fail)
  refine V.loop (α := Nat × Value) (fun z => [(0, .pointer (some ⟨bw, 0, none⟩)), (5, z.2), (8, .slice va ns.length vc), (9, .int .i64 ns.length), (10, .int .i64 z.1)])
    (fun z w' => z.1 ≤ ns.length ∧ w0.heap.size ≤ w'.heap.size ∧ Sep Try.prog w0.heap.size w0 w' [.row 3 1 z.2 (livingS live (ns.take z.1)).length (numC (livingS live (ns.take z.1)))]) (fun z => ns.length - z.1) (0, .slice none 0 0) ⟨rfl, rfl, rfl, rfl, rfl, trivial⟩ ⟨by simp, hB, hL.nilRow 3 1⟩ ?_
  rintro ⟨i, out⟩ w ⟨hi, hB, hL⟩
  dsimp only at *
  repeat (first | (refine RunH ?_; intro w hL hB; try clear w) | (refine Both.mk ?_ ?_ <;> conv => whnf) | fail)
  refine Br.dec (fun hlt => ?_) (fun hlt => ?_)
  · have hie : i < ns.length := by omega
    have hge : ns[i]? = some ns[i] := List.getElem?_eq_getElem hie
    generalize ns[i] = x at hge
    have hsn : livingS live (ns.take (i + 1)) = livingS live (ns.take i) ++ (if liveS live x then [x] else []) := filter_next _ _ hge
    have hll : (livingS live (ns.take i)).length ≤ i := Nat.le_trans (List.length_filter_le _ _) (by simp; omega)
    generalize livingS live (ns.take i) = out' at *
    obtain ⟨b, o, rfl, hr⟩ := (h.below hL.below).sl.toN.addr (by omega)
    repeat (first | (refine RunH ?_; intro w hL hB; try clear w) | (refine Both.mk ?_ ?_ <;> conv => whnf) | fail)
    intro o' ho'
    conv => whnf
    refine Ld.row1 ttOk hr rfl rfl (k := i) (numC_get hge) (by omega) ?_
    conv => whnf
    repeat (first | (refine RunH ?_; intro w hL hB; try clear w) | (refine Both.mk ?_ ?_ <;> conv => whnf) | (refine (lives_fn bw vs lv sv ld c live _ _ (hL.old rfl hC) (hl.below hL.below)).mono fun r w1 hr => ?_; obtain ⟨hr, hw⟩ := hr; subst hr; subst hw; conv => whnf) | fail)
    cases hlv : liveS live x
    · repeat (first | (refine RunH ?_; intro w hL hB; try clear w) | (refine Both.mk ?_ ?_ <;> conv => whnf) | fail)
      refine ⟨(i + 1, out), ⟨rfl, rfl, rfl, rfl, rfl, trivial⟩, ⟨hie, hB, ?_⟩, (by first | omega | (dsimp only; omega))⟩
      rw [hsn, hlv]
      simpa using hL
    · repeat (first | (refine RunH ?_; intro w hL hB; try clear w) | (refine Both.mk ?_ ?_ <;> conv => whnf) | fail)
      refine Rv.buildS ttOk hL tl24 tl3 rfl rfl (by intro u hu; simp only [List.mem_singleton] at hu; subst hu; rfl) (by decide) (by decide) hB fun bo w hL hB => ?_
      conv => whnf
      refine Rv.appendS ttOk hL tl24 tl3 rfl (by decide) 1 rfl (hL.rowN (i := 0) rfl) (allOne_mem rfl) (by simp only [maxLen]; omega) (by omega) hB fun vo w hL hB => ?_
      dsimp only [List.set] at hL
      conv => whnf
      repeat (first | (refine RunH ?_; intro w hL hB; try clear w) | (refine Both.mk ?_ ?_ <;> conv => whnf) | fail)
      refine ⟨(i + 1, vo), ⟨rfl, rfl, rfl, rfl, rfl, trivial⟩, ⟨hie, hB, ?_⟩, (by first | omega | (dsimp only; omega))⟩
      rw [hsn, hlv]
      simp only [if_true, numC_snoc, List.length_append]
      exact hL.tl
  · obtain rfl : i = ns.length := by omega
    rw [List.take_length] at hL
    repeat (first | (refine RunH ?_; intro w hL hB; try clear w) | (refine Both.mk ?_ ?_ <;> conv => whnf) | fail)
    exact ⟨hL.ownR (i := 0) rfl, hL.below⟩
theorem whole_fn (p : PV × Value) (bw : Nat) (vs lv sv : Value) (ld : Int → Nat) (c : PC) (live : List Bool) (w0 : World) (hC : Blk w0 bw (wdC vs lv ld sv c) 55) (hl : SlE w0 lv (boolC live)) (hn : SlE w0 p.2 (numC p.1.ns)) (ht : p.1.ns.length ≤ 1000) :
    Fn Try.prog 38 #[.pointer (some ⟨bw, 0, none⟩), pvV p] w0 fun r w' => r = .bool (decide (wholeS live p.1)) ∧ Below w0.heap.size w0 w' := by
  obtain ⟨v, nv⟩ := p
  dsimp only at hn ht
  obtain ⟨na, nc, hnv⟩ := hn.shape
  rw [numC_len] at hnv
  subst hnv
  unfold pvV wholeS
  dsimp only
  have hL := Sep.start Try.prog w0
  have hB := Nat.le_refl w0.heap.size
  refine Fn.mk Try.func38 rfl (by kernel_rfl) Try.ntmps38 rfl (by rw [Try.results38]) ?_
  repeat (first | (refine RunK ?_; intro w hL hB; try clear w) | (refine V.treeA ttOk hL (.q 0 (.q 1 (.q 2 (.q 5 (.q 6 (.q 7 (.alt 3 (.q 4 (.q 8 (.q 9 .nil))) .stop))))))) mixed (by decide +kernel) ?_; replace hL := hL.drew; conv => whnf) | (refine V.tailA ttOk mixed (by decide +kernel) ?_; replace hL := hL.drew; conv => whnf) | (refine Both.mk ?_ ?_ <;> conv => whnf) | (refine Nw.sep hL hB (fun b3 w hL hB hb3 => ?_); conv => whnf) | (intro w9 hw9; conv => whnf) | fail)
  refine (living_fn bw vs lv sv _ ld c live v.ns _ (hL.old rfl hC) (hl.below hL.below) (hn.below hL.below) ht).mono fun r w hr => ?_
  obtain ⟨hown, hbl⟩ := hr
  replace hL := hL.addRow hB hbl hown
  replace hB := Nat.le_trans hB hbl.size
  obtain ⟨fa, fc, rfl⟩ := (hL.rowN (i := 0) rfl).shape
  conv => whnf
  repeat (first | (refine RunH ?_; intro w hL hB; try clear w) | (refine Both.mk ?_ ?_ <;> conv => whnf) | fail)
  exact ⟨by simp only [Int.natCast_inj], hL.below⟩
set_option maxHeartbeats 8000000 in
theorem free_fn (bw : Nat) (vs lv sv nv : Value) (l : List PV) (c : PC) (live : List Bool) (ns : List Int) (w0 : World) (hC : Blk w0 bw (wdC vs lv (loadS l) sv c) 55) (hl : SlE w0 lv (boolC live)) (h : SlE w0 nv (numC ns)) :
    Fn Try.prog 32 #[.pointer (some ⟨bw, 0, none⟩), nv] w0 fun r w' => OwnN w0 r (freeS l live ns) w' := by
  obtain ⟨la, lc, rfl⟩ := hl.shape
  rw [boolC_len] at hl hC
  have hle := hl.le
  rw [boolC_len] at hle
  have hL := Sep.start Try.prog w0
  have hB := Nat.le_refl w0.heap.size
  refine Fn.mk Try.func32 rfl (by kernel_rfl) Try.ntmps32 rfl (by rw [Try.results32]) ?_
  repeat (first | (refine RunH ?_; intro w hL hB; try clear w) | (refine Both.mk ?_ ?_ <;> conv => whnf) | fail)
  (refine Nw.sep hL hB (fun bx w hL hB hbx => ?_); conv => whnf)
  obtain ⟨m, hm⟩ : ∃ m : Nat, m = min 64 live.length := ⟨_, rfl⟩
  repeat (first | (refine RunH ?_; intro w hL hB; try clear w) | (refine Both.mk ?_ ?_ <;> conv => whnf) | fail)
  refine V.loop (α := Nat × Value) (fun z => [(1, nv), (2, .pointer (some ⟨bx, 0, none⟩)), (4, .slice none 0 0), (5, z.2), (12, .int .i64 m), (13, .int .i64 z.1)])
    (fun z w' => z.1 ≤ m ∧ w0.heap.size ≤ w'.heap.size ∧ Sep Try.prog w0.heap.size w0 w' [.row 3 1 z.2 (candU live ns z.1).length (numC (candU live ns z.1)), .blk bx [.pointer (some ⟨bw, 0, none⟩)] 51]) (fun z => m - z.1) (0, .slice none 0 0) ⟨rfl, rfl, rfl, rfl, ?_, rfl, trivial⟩ ⟨Nat.zero_le _, hB, hL.nilRow 3 1⟩ ?_
  · exact vint (by omega)
  rintro ⟨i, out⟩ w ⟨hi, hB, hL⟩
  dsimp only at *
  have hul := candU_len live ns i
  repeat (first | (refine RunH ?_; intro w hL hB; try clear w) | (refine Both.mk ?_ ?_ <;> conv => whnf) | fail)
  refine Br.dec (fun hlt => ?_) (fun hlt => ?_)
  · repeat (first | (refine RunH ?_; intro w hL hB; try clear w) | (refine Both.mk ?_ ?_ <;> conv => whnf) | (refine (lives_fn bw vs _ sv (loadS l) c live _ _ (hL.old rfl hC) (hl.below hL.below)).mono fun r w1 hr => ?_; obtain ⟨hr, hw⟩ := hr; subst hr; subst hw; conv => whnf) | fail)
    cases hlv : liveS live i
    · have hno := candU_no (ns := ns) (Or.inl hlv)
      repeat (first | (refine RunH ?_; intro w hL hB; try clear w) | (refine Both.mk ?_ ?_ <;> conv => whnf) | fail)
      exact ⟨(i + 1, out), ⟨rfl, rfl, rfl, rfl, rfl, rfl, trivial⟩, ⟨by omega, hB, by rw [hno]; exact hL⟩, (by first | omega | (dsimp only; omega))⟩
    · repeat (first | (refine RunH ?_; intro w hL hB; try clear w) | (refine Both.mk ?_ ?_ <;> conv => whnf) | (refine (contains_fn _ ns _ _ (h.below hL.below)).mono fun r w1 hr => ?_; obtain ⟨hr, hw⟩ := hr; subst hr; subst hw; conv => whnf) | fail)
      cases hct : ns.contains (i : Int)
      · have hyes := candU_yes hlv hct
        generalize candU live ns i = out' at *
        repeat (first | (refine RunH ?_; intro w hL hB; try clear w) | (refine Both.mk ?_ ?_ <;> conv => whnf) | fail)
        refine Rv.buildS ttOk hL tl24 tl3 rfl rfl (by intro u hu; simp only [List.mem_singleton] at hu; subst hu; rfl) (by decide) (by decide) hB fun bo w hL hB => ?_
        conv => whnf
        refine Rv.appendS ttOk hL tl24 tl3 rfl (by decide) 1 rfl (hL.rowN (i := 0) rfl) (allOne_mem rfl) (by simp only [maxLen]; omega) (by omega) hB fun vo w hL hB => ?_
        dsimp only [List.set] at hL
        conv => whnf
        repeat (first | (refine RunH ?_; intro w hL hB; try clear w) | (refine Both.mk ?_ ?_ <;> conv => whnf) | fail)
        refine ⟨(i + 1, vo), ⟨rfl, rfl, rfl, rfl, rfl, rfl, trivial⟩, ⟨by omega, hB, ?_⟩, (by first | omega | (dsimp only; omega))⟩
        rw [hyes, numC_snoc, List.length_append]
        exact hL.tl
      · have hno := candU_no (live := live) (Or.inr hct)
        repeat (first | (refine RunH ?_; intro w hL hB; try clear w) | (refine Both.mk ?_ ?_ <;> conv => whnf) | fail)
        exact ⟨(i + 1, out), ⟨rfl, rfl, rfl, rfl, rfl, rfl, trivial⟩, ⟨by omega, hB, by rw [hno]; exact hL⟩, (by first | omega | (dsimp only; omega))⟩
  · obtain rfl : i = m := by omega
    have hcs : candU live ns i = candS live ns := by rw [hm]; rfl
    have hmem : ∀ x ∈ candS live ns, 0 ≤ x ∧ x < 64 := fun x hx => by
      have := liveS_lt (candS_mem.1 hx).1
      exact ⟨this.1, this.2.1⟩
    rw [hcs] at hL hul
    have huq := freeS_uniq l live ns
    generalize candS live ns = cs at *
    obtain ⟨oa, oc, rfl⟩ := (hL.rowN (i := 0) rfl).shape
    by_cases h0 : cs.length = 0
    · have hcs0 : cs = [] := List.length_eq_zero_iff.1 h0
      subst hcs0
      rw [← huq [] (List.Perm.refl _) List.Pairwise.nil]
      repeat (first | (refine RunH ?_; intro w hL hB; try clear w) | (refine Both.mk ?_ ?_ <;> conv => whnf) | fail)
      have hcall : Fn Try.prog 44 #[.slice oa 0 oc, .func (.func 45) #[] #[.pointer (some ⟨bx, 0, none⟩)]] w fun r w' => r = .tuple #[] ∧ w' = w :=
        Fn.of_calls Try.func44 (by decide +kernel) rfl ((AnyF.slices_SortFunc_none (P := Try.prog) (ρ := Try.sortL_ren) { Try.sortL with } oa oc (.func (.func 45) #[] #[.pointer (some ⟨bx, 0, none⟩)]) w).mono fun e w' ⟨he, hw⟩ => ⟨_, he, rfl, hw⟩)
      refine hcall.mono fun r w' hr => ?_
      obtain ⟨hr, hw⟩ := hr
      subst hr; subst hw
      conv => whnf
      repeat (first | (refine RunH ?_; intro w hL hB; try clear w) | (refine Both.mk ?_ ?_ <;> conv => whnf) | fail)
      exact ⟨hL.ownR (i := 0) rfl, hL.below⟩
    · obtain ⟨⟨g, rfl⟩, hoc⟩ := own_addr (hL.at (i := 0) rfl) (by omega)
      have hne1 : bx ≠ g := by
        have := hL.apart
        simp only [List.flatMap_cons, List.flatMap_nil, Res.blocks, Value.ownBlock, rowB, List.append_nil, List.cons_append, List.nil_append, List.nodup_cons, List.mem_singleton] at this
        exact fun e => this.1 e.symm
      have hne2 : bw ≠ g := fun e => by
        have h1 := hL.own _ (List.mem_cons_self ..) g (by simp [Res.blocks, Value.ownBlock, rowB])
        have h2 := hC.lt
        omega
      repeat (first | (refine RunH ?_; intro w hL hB; try clear w) | (refine Both.mk ?_ ?_ <;> conv => whnf) | fail)
      refine (sort_fn w0.heap.size g oc cs hmem bx bw vs _ sv (loadS l) c w (hL.ownR (i := 0) rfl) ⟨hL.blk (i := 1) rfl, hL.old rfl hC⟩ hne1 hne2 (by omega)).mono fun r w' hr => ?_
      obtain ⟨rfl, ys, hp, hps, hown, hg⟩ := hr
      have hey := huq ys hp hps
      subst hey
      have hyl := hp.length_eq
      replace hL := hL.step (i := 0) rfl hB (Turns.of_grown hg) (R' := .row 3 1 (.slice (some ⟨g, 0, none⟩) cs.length oc) cs.length (numC (freeS l live ns))) (own_mono hown (Nat.zero_le _)) (fun b hb => .inl hb) (by simp [Res.blocks, Value.ownBlock, rowB])
      replace hB := Nat.le_trans hB hg.size
      dsimp only [List.set] at hL
      conv => whnf
      repeat (first | (refine RunH ?_; intro w hL hB; try clear w) | (refine Both.mk ?_ ?_ <;> conv => whnf) | fail)
      refine ⟨?_, hL.below⟩
      rw [hyl]
      exact hL.ownR (i := 0) rfl
end Go.Proofs.Ythifnfoppamkiaa
