/- Plan: the reference's free. Nothing is claimed here. -/
import Derived.Test.YthifnfoppamkiaaIe
namespace Go.Proofs.Ythifnfoppamkiaa
open Go.RowKit
set_option linter.unusedVariables false
set_option linter.unusedSimpArgs false
set_option maxRecDepth 100000

def candU (live : List Bool) (ns : List Int) (k : Nat) : List Int := (numS k).filter fun n => liveS live n && !ns.contains n
def freeU (ld : Int → Nat) (live : List Bool) (ns : List Int) (k : Nat) : List Int := (candU live ns k).foldl (insS ld) []
theorem numS_succ (k : Nat) : numS (k + 1) = numS k ++ [(k : Int)] := by simp [numS, List.range_succ]
theorem freeU_end (l : List PV) (live : List Bool) (ns : List Int) : freeU (loadS l) live ns (min 64 live.length) = freeS l live ns := rfl
theorem freeU_yes {ld : Int → Nat} {live : List Bool} {ns : List Int} {k : Nat} (h1 : liveS live k = true) (h2 : ns.contains (k : Int) = false) : freeU ld live ns (k + 1) = insS ld (freeU ld live ns k) k := by
  unfold freeU candU
  rw [numS_succ, List.filter_append, List.foldl_append]
  simp [List.filter, h1, h2, -List.contains_eq_mem]
theorem freeU_no {ld : Int → Nat} {live : List Bool} {ns : List Int} {k : Nat} (h : liveS live k = false ∨ ns.contains (k : Int) = true) : freeU ld live ns (k + 1) = freeU ld live ns k := by
  unfold freeU candU
  rw [numS_succ, List.filter_append, List.foldl_append]
  rcases h with h | h <;> simp [List.filter, h, -List.contains_eq_mem]
theorem freeU_mem {ld : Int → Nat} {live : List Bool} {ns : List Int} {k : Nat} {x : Int} (h : x ∈ freeU ld live ns k) : 0 ≤ x ∧ x < k ∧ liveS live x = true := by
  have h1 := (fold_perm ld (candU live ns k) []).mem_iff.1 h
  rw [List.append_nil] at h1
  unfold candU at h1
  rw [List.mem_filter, numS_mem, Bool.and_eq_true] at h1
  exact ⟨h1.1.1, h1.1.2, h1.2.1⟩
theorem freeU_len (ld : Int → Nat) (live : List Bool) (ns : List Int) (k : Nat) : (freeU ld live ns k).length ≤ k := by
  have h1 := (fold_perm ld (candU live ns k) []).length_eq
  rw [List.append_nil] at h1
  unfold freeU
  rw [h1]
  refine Nat.le_trans (List.length_filter_le _ _) ?_
  rw [numS_len]; exact Nat.le_refl _
theorem insS_at {ld : Int → Nat} {out : List Int} {s : Int} {k : Nat} (hk : k ≤ out.length) (h1 : ∀ x ∈ out.take k, ld x ≤ ld s) (h2 : ∀ x, out[k]? = some x → ¬ ld x ≤ ld s) : insS ld out s = out.take k ++ [s] ++ out.drop k := by
  have e : out = out.take k ++ out.drop k := (List.take_append_drop k out).symm
  have h3 : (out.drop k).takeWhile (fun x => decide (ld x ≤ ld s)) = [] ∧ (out.drop k).dropWhile (fun x => decide (ld x ≤ ld s)) = out.drop k := by
    cases h : out.drop k with
    | nil => simp
    | cons x t =>
      have hx : out[k]? = some x := by
        have := congrArg (fun l => l[0]?) h
        simpa using this
      have := h2 x hx
      simp [List.takeWhile, List.dropWhile, this]
  unfold insS
  have t1 : out.takeWhile (fun x => decide (ld x ≤ ld s)) = out.take k := by
    conv => lhs; rw [e]
    rw [List.takeWhile_append_of_pos (by simpa using h1), h3.1, List.append_nil]
  have t2 : out.dropWhile (fun x => decide (ld x ≤ ld s)) = out.drop k := by
    conv => lhs; rw [e]
    rw [List.dropWhile_append_of_pos (by simpa using h1), h3.2]
  rw [t1, t2]; simp
theorem drop_numC (l : List Int) (k : Nat) : (numC l).drop k = numC (l.drop k) := by simp [numC]
theorem take_numC (l : List Int) (k : Nat) : (numC l).take k = numC (l.take k) := by simp [numC]

theorem own_shape {w : World} {base sz : Nat} {e : TypeId} {v : Value} {n : Nat} {xs : List Value} (h : w.ownsRow base e sz v n xs) : (v = .slice none 0 0 ∧ n = 0) ∨ ∃ g c, v = .slice (some ⟨g, 0, none⟩) n c ∧ n ≤ c ∧ c ≤ maxLen := by
  rcases h.2 with ⟨rfl, rfl⟩ | ⟨g, cap, cur, rfl, _, hg, hc, hm, hs, ht⟩
  · exact .inl ⟨rfl, rfl⟩
  · exact .inr ⟨g, cap, rfl, hc, hm⟩
theorem SlN.preN {w : World} {b o n c : Nat} {l : List Int} (h : SlN w 1 (.slice (some ⟨b, o, none⟩) n c) l.length (numC l)) {k c' : Nat} (hk : k ≤ l.length) (h1 : k ≤ c') (h2 : c' ≤ c) : SlN w 1 (.slice (some ⟨b, o, none⟩) k c') k (numC (l.take k)) := by
  have h3 := (h.to1.take (k := k) (c' := c') (by rw [numC_len]; exact hk) h1 h2).toN
  rw [take_numC, numC_len, List.length_take, Nat.min_eq_left hk] at h3
  exact h3
theorem SlN.sufN {w : World} {b o n c : Nat} {l : List Int} (h : SlN w 1 (.slice (some ⟨b, o, none⟩) n c) l.length (numC l)) {k o' n' c' : Nat} (hk : k ≤ l.length) (ho : k < c → o' = o + k) (hn : n' = n - k) (hc : c' = c - k) : SlN w 1 (.slice (some ⟨b, o', none⟩) n' c') (l.length - k) (numC (l.drop k)) := by
  have h3 := (h.to1.drop (k := k) (o' := o') (n' := n') (c' := c') (by rw [numC_len]; exact hk) ho hn hc).toN
  rw [drop_numC, numC_len, List.length_drop] at h3
  exact h3
set_option maxHeartbeats 8000000 in
theorem freeR_fn (v lv nv : Value) (ps : List (PV × Value)) (live : List Bool) (ns : List Int) (w0 : World) (h : VolS w0 v ps) (hl : SlE w0 lv (boolC live)) (hll : live.length ≤ 100) (hn : SlE w0 nv (numC ns)) :
    Fn Try.prog 30 #[v, lv, nv] w0 fun r w' => OwnN w0 r (freeS (pvs ps) live ns) w' := by
  obtain ⟨la, lc, rfl⟩ := hl.shape
  rw [boolC_len] at hl ⊢
  have hL := Sep.start Try.prog w0
  have hB := Nat.le_refl w0.heap.size
  have hld : ∀ s, loadS (pvs ps) s ≤ 2400 := fun s => by
    have := h.load ps.length s
    rwa [List.take_length] at this
  rw [← freeU_end]
  generalize hld' : loadS (pvs ps) = ld at *
  refine Fn.mk Try.func30 rfl (by kernel_rfl) Try.ntmps30 rfl (by rw [Try.results30]) ?_
  repeat (first | (refine RunH ?_; intro w hL hB; try clear w) | (refine Both.mk ?_ ?_ <;> conv => whnf) | fail)
  refine (loadR_fn v ps 64 w0 h).mono fun r w hr => ?_
  obtain ⟨hown, hbl⟩ := hr
  rw [hld'] at hown
  replace hL := hL.addRow hB hbl hown
  replace hB := Nat.le_trans hB hbl.size
  have hr64 : (min 64 (64 : Int).toNat) = 64 := by decide
  rw [hr64, List.length_map, numS_len] at hL
  obtain ⟨ra, rc, rfl⟩ := (hL.rowN (i := 0) rfl).shape
  conv => whnf
  repeat (first | (refine RunH ?_; intro w hL hB; try clear w) | (refine Both.mk ?_ ?_ <;> conv => whnf) | fail)
  refine V.loop (α := Nat × Value) (fun z => [(0, v), (1, .slice la live.length lc), (2, nv), (7, .slice ra 64 rc), (8, z.2), (9, .int .i64 z.1)])
    (fun z w' => z.1 ≤ min 64 live.length ∧ w0.heap.size ≤ w'.heap.size ∧ Sep Try.prog w0.heap.size w0 w' [.row 3 1 z.2 (freeU ld live ns z.1).length (numC (freeU ld live ns z.1)), .row 3 1 (.slice ra 64 rc) 64 (numC ((numS 64).map fun s => (ld s : Int)))]) (fun z => 64 - z.1) (0, .slice none 0 0) ⟨rfl, rfl, rfl, rfl, rfl, rfl, trivial⟩ ⟨by omega, hB, hL.nilRow 3 1⟩ ?_
  rintro ⟨i, out⟩ w ⟨hi, hB, hL⟩
  dsimp only at *
  have hul := freeU_len ld live ns i
  have hum : ∀ x ∈ freeU ld live ns i, 0 ≤ x ∧ x < i ∧ liveS live x = true := fun x hx => freeU_mem hx
  by_cases hgo : i < live.length ∧ i < 64
  · have hgl : live[i]? = some live[i] := List.getElem?_eq_getElem hgo.1
    generalize live[i] = x at hgl
    have hlv : liveS live i = x := liveS_at (by omega) (by omega) (by simpa using hgl)
    obtain ⟨bl, ol, rfl, hrl⟩ := (hl.below hL.below).sl.toN.addr (by omega)
    repeat (first | (refine RunH ?_; intro w hL hB; try clear w) | (refine Both.mk ?_ ?_ <;> conv => whnf) | fail)
    intro o' ho'
    conv => whnf
    refine Ld.row1 ttOk hrl rfl rfl (k := i) (boolC_get hgl) (by omega) ?_
    conv => whnf
    cases x
    · have hno := freeU_no (ld := ld) (ns := ns) (Or.inl hlv)
      repeat (first | (refine RunH ?_; intro w hL hB; try clear w) | (refine Both.mk ?_ ?_ <;> conv => whnf) | fail)
      exact ⟨(i + 1, out), ⟨rfl, rfl, rfl, rfl, rfl, rfl, trivial⟩, ⟨by omega, hB, by rw [hno]; exact hL⟩, (by first | omega | (dsimp only; omega))⟩
    · repeat (first | (refine RunH ?_; intro w hL hB; try clear w) | (refine Both.mk ?_ ?_ <;> conv => whnf) | (refine (hasR_fn _ ns _ _ (hn.below hL.below)).mono fun r w1 hr => ?_; obtain ⟨hr, hw⟩ := hr; subst hr; subst hw; conv => whnf) | fail)
      cases hct : ns.contains (i : Int)
      · have hyes := freeU_yes (ld := ld) hlv hct
        generalize freeU ld live ns i = out' at *
        obtain ⟨oa, oc, rfl⟩ := (hL.rowN (i := 0) rfl).shape
        have hgi : ((numC ((numS 64).map fun s => (ld s : Int))))[i]? = some (.int .i64 (ld (i : Int) : Int)) := by
          simp [numC, numS, List.getElem?_range (show i < 64 by omega)]
        repeat (first | (refine RunH ?_; intro w hL hB; try clear w) | (refine Both.mk ?_ ?_ <;> conv => whnf) | fail)
        refine V.loop (α := Nat) (fun z => [(0, v), (1, .slice (some ⟨bl, ol, none⟩) live.length lc), (2, nv), (7, .slice ra 64 rc), (8, .slice oa out'.length oc), (9, .int .i64 i), (10, .int .i64 z)])
          (fun z w' => z ≤ out'.length ∧ w0.heap.size ≤ w'.heap.size ∧ (∀ x ∈ out'.take z, ld x ≤ ld i) ∧ Sep Try.prog w0.heap.size w0 w' [.row 3 1 (.slice oa out'.length oc) out'.length (numC out'), .row 3 1 (.slice ra 64 rc) 64 (numC ((numS 64).map fun s => (ld s : Int)))]) (fun z => out'.length - z) 0 ⟨rfl, rfl, rfl, rfl, rfl, rfl, rfl, trivial⟩ ⟨by omega, hB, by simp, hL⟩ ?_
        rintro k w ⟨hk, hB, hle, hL⟩
        by_cases hkl : k < out'.length ∧ ∀ x, out'[k]? = some x → ld x ≤ ld i
        · obtain ⟨hkl, hkx⟩ := hkl
          have hgk : out'[k]? = some out'[k] := List.getElem?_eq_getElem hkl
          have hmem := List.getElem_mem hkl
          have hts := List.take_succ_eq_append_getElem hkl
          generalize out'[k] = x at hgk hmem hts
          have hx := hum x hmem
          have hxl := hkx x hgk
          obtain ⟨m, rfl⟩ := Int.eq_ofNat_of_zero_le hx.1
          have hgm : ((numC ((numS 64).map fun s => (ld s : Int))))[m]? = some (.int .i64 (ld (m : Int) : Int)) := by
            simp [numC, numS, List.getElem?_range (show m < 64 by omega)]
          obtain ⟨ob, oo, rfl, hro⟩ := (hL.rowN (i := 0) rfl).addr (by omega)
          obtain ⟨rb, ro, rfl, hrr⟩ := (hL.rowN (i := 1) rfl).addr (by omega)
          repeat (first | (refine RunK ?_; intro w hL hB; try clear w) | (refine V.quiet ttOk (fun x => x = World.drew _) mixed (by kernel_rfl) rfl ?_; replace hL := hL.drew; conv => whnf) | (refine V.tailA ttOk mixed (by decide +kernel) ?_; replace hL := hL.drew; conv => whnf) | (refine Both.mk ?_ ?_ <;> conv => whnf) | (intro w9 hw9; subst hw9; conv => whnf) | (intro o9 ho9; conv => whnf) | (refine Lq.of_row (Ld.row1 ttOk (hL.rowN (i := 0) rfl).rowOf rfl rfl (k := k) (v := .int .i64 (m : Int)) (numC_get hgk) (by omega) rfl) ?_; conv => whnf) | (refine Lq.of_row (Ld.row1 ttOk (hL.rowN (i := 1) rfl).rowOf rfl rfl (k := m) hgm (by omega) rfl) ?_; conv => whnf) | (refine Lq.of_row (Ld.row1 ttOk (hL.rowN (i := 1) rfl).rowOf rfl rfl (k := i) hgi (by omega) rfl) ?_; conv => whnf) | fail)
          refine ⟨k + 1, ⟨rfl, rfl, rfl, rfl, rfl, rfl, rfl, trivial⟩, ⟨hkl, hB, ?_, hL⟩, (by first | omega | (dsimp only; omega))⟩
          intro y hy
          rw [hts, List.mem_append, List.mem_singleton] at hy
          rcases hy with hy | rfl
          · exact hle y hy
          · exact hxl
        · have hins := insS_at (ld := ld) (s := (i : Int)) hk hle (fun x hx hxl => hkl ⟨(List.getElem?_eq_some_iff.1 hx).1, fun y hy => by rw [hx] at hy; cases hy; exact hxl⟩)
          rcases own_shape (hL.at (i := 0) rfl) with ⟨e, h0⟩ | ⟨ob, c9, e, hnc, hcm⟩
          · injection e with e1 e2 e3
            subst e1; subst e3
            obtain rfl : out' = [] := List.length_eq_zero_iff.1 h0
            obtain rfl : k = 0 := by simpa using hk
            repeat (first | (refine RunK ?_; intro w hL hB; try clear w) | (refine V.quiet ttOk (fun x => x = World.drew _) mixed (by kernel_rfl) rfl ?_; replace hL := hL.drew; conv => whnf) | (refine V.tailA ttOk mixed (by decide +kernel) ?_; replace hL := hL.drew; conv => whnf) | (refine Both.mk ?_ ?_ <;> conv => whnf) | (intro w9 hw9; subst hw9; conv => whnf) | fail)
            refine Rv.buildS ttOk hL tl24 tl3 rfl rfl (by simp [cellsL]) (by decide) (by decide) hB fun b1 w hL hB => ?_
            conv => whnf
            repeat (first | (refine RunH ?_; intro w hL hB; try clear w) | (refine Both.mk ?_ ?_ <;> conv => whnf) | fail)
            intro n' c' e1 e2
            obtain rfl : n' = 0 := by omega
            obtain rfl : c' = 0 := by omega
            conv => whnf
            repeat (first | (refine RunH ?_; intro w hL hB; try clear w) | (refine Both.mk ?_ ?_ <;> conv => whnf) | fail)
            refine Rv.appendS ttOk hL tl24 tl3 rfl (by decide) 0 rfl (SlN.nil w 1) (by simp) (by simp only [maxLen]; omega) (by omega) hB fun v1 w hL hB => ?_
            dsimp only [List.set] at hL
            conv => whnf
            repeat (first | (refine RunH ?_; intro w hL hB; try clear w) | (refine Both.mk ?_ ?_ <;> conv => whnf) | fail)
            refine Rv.buildS ttOk hL tl24 tl3 rfl rfl (by intro u hu; simp only [List.mem_singleton] at hu; subst hu; rfl) (by decide) (by decide) hB fun b2 w hL hB => ?_
            conv => whnf
            refine Rv.appendS ttOk hL tl24 tl3 rfl (by decide) 1 rfl (hL.rowN (i := 0) rfl) (allOne_mem rfl) (by simp only [maxLen]; omega) (by omega) hB fun v2 w hL hB => ?_
            dsimp only [List.set] at hL
            conv => whnf
            repeat (first | (refine RunH ?_; intro w hL hB; try clear w) | (refine Both.mk ?_ ?_ <;> conv => whnf) | fail)
            intro n' c' e1 e2
            obtain rfl : n' = 0 := by omega
            obtain rfl : c' = 0 := by omega
            conv => whnf
            repeat (first | (refine RunH ?_; intro w hL hB; try clear w) | (refine Both.mk ?_ ?_ <;> conv => whnf) | fail)
            refine Rv.appendS ttOk hL tl24 tl3 rfl (by decide) 1 rfl (SlN.nil w 1) (by simp) (by simp only [maxLen]; omega) (by omega) hB fun v3 w hL hB => ?_
            dsimp only [List.set] at hL
            conv => whnf
            repeat (first | (refine RunH ?_; intro w hL hB; try clear w) | (refine Both.mk ?_ ?_ <;> conv => whnf) | fail)
            refine ⟨(i + 1, v3), ⟨rfl, rfl, rfl, rfl, rfl, rfl, trivial⟩, ⟨by omega, hB, ?_⟩, (by first | omega | (dsimp only; omega))⟩
            have h9 := hL.tl.pop 1
            rw [hyes]
            simpa [insS, numC, cellsL] using h9
          · injection e with e1 e2 e3
            subst e1; subst e3
            have hcc : out'.length ≤ oc ∧ oc ≤ maxLen := ⟨hnc, hcm⟩
            by_cases hkn : k < out'.length
            case' pos =>
              have hgk : out'[k]? = some out'[k] := List.getElem?_eq_getElem hkn
              have hmem := List.getElem_mem hkn
              generalize out'[k] = x at hgk hmem
              have hx := hum x hmem
              have hxl : ¬ ld x ≤ ld i := fun e => hkl ⟨hkn, fun y hy => by rw [hgk] at hy; cases hy; exact e⟩
              obtain ⟨m, rfl⟩ := Int.eq_ofNat_of_zero_le hx.1
              have hgm : ((numC ((numS 64).map fun s => (ld s : Int))))[m]? = some (.int .i64 (ld (m : Int) : Int)) := by
                simp [numC, numS, List.getElem?_range (show m < 64 by omega)]
              obtain ⟨rb, ro, rfl, hrr⟩ := (hL.rowN (i := 1) rfl).addr (by omega)
              repeat (first | (refine RunK ?_; intro w hL hB; try clear w) | (refine V.quiet ttOk (fun x => x = World.drew _) mixed (by kernel_rfl) rfl ?_; replace hL := hL.drew; conv => whnf) | (refine V.tailA ttOk mixed (by decide +kernel) ?_; replace hL := hL.drew; conv => whnf) | (refine Both.mk ?_ ?_ <;> conv => whnf) | (intro w9 hw9; subst hw9; conv => whnf) | (intro o9 ho9; conv => whnf) | (refine Lq.of_row (Ld.row1 ttOk (hL.rowN (i := 0) rfl).rowOf rfl rfl (k := k) (v := .int .i64 (m : Int)) (numC_get hgk) (by omega) rfl) ?_; conv => whnf) | (refine Lq.of_row (Ld.row1 ttOk (hL.rowN (i := 1) rfl).rowOf rfl rfl (k := m) hgm (by omega) rfl) ?_; conv => whnf) | (refine Lq.of_row (Ld.row1 ttOk (hL.rowN (i := 1) rfl).rowOf rfl rfl (k := i) hgi (by omega) rfl) ?_; conv => whnf) | fail)
            case' neg =>
              repeat (first | (refine RunK ?_; intro w hL hB; try clear w) | (refine V.quiet ttOk (fun x => x = World.drew _) mixed (by kernel_rfl) rfl ?_; replace hL := hL.drew; conv => whnf) | (refine V.tailA ttOk mixed (by decide +kernel) ?_; replace hL := hL.drew; conv => whnf) | (refine Both.mk ?_ ?_ <;> conv => whnf) | (intro w9 hw9; subst hw9; conv => whnf) | fail)
            all_goals
              refine Rv.buildS ttOk hL tl24 tl3 rfl rfl (by simp [cellsL]) (by decide) (by decide) hB fun b1 w hL hB => ?_
              conv => whnf
              repeat (first | (refine RunH ?_; intro w hL hB; try clear w) | (refine Both.mk ?_ ?_ <;> conv => whnf) | fail)
              intro n' c' e1 e2
              conv => whnf
              repeat (first | (refine RunH ?_; intro w hL hB; try clear w) | (refine Both.mk ?_ ?_ <;> conv => whnf) | fail)
              obtain rfl : k = n' := by omega
              refine Rv.appendS ttOk hL tl24 tl3 rfl (by decide) 0 rfl ((hL.rowN (i := 1) rfl).preN (k := k) (c' := c') (by omega) (by omega) (by omega)) (numC_one _) (by simp only [maxLen]; omega) (by omega) hB fun v1 w hL hB => ?_
              dsimp only [List.set] at hL
              conv => whnf
              repeat (first | (refine RunH ?_; intro w hL hB; try clear w) | (refine Both.mk ?_ ?_ <;> conv => whnf) | fail)
              refine Rv.buildS ttOk hL tl24 tl3 rfl rfl (by intro u hu; simp only [List.mem_singleton] at hu; subst hu; rfl) (by decide) (by decide) hB fun b2 w hL hB => ?_
              conv => whnf
              refine Rv.appendS ttOk hL tl24 tl3 rfl (by decide) 1 rfl (hL.rowN (i := 0) rfl) (allOne_mem rfl) (by simp only [maxLen]; omega) (by omega) hB fun v2 w hL hB => ?_
              dsimp only [List.set] at hL
              conv => whnf
              repeat (first | (refine RunH ?_; intro w hL hB; try clear w) | (refine Both.mk ?_ ?_ <;> conv => whnf) | fail)
              intro o' n' c2 q1 q2 q3 q4
              conv => whnf
              repeat (first | (refine RunH ?_; intro w hL hB; try clear w) | (refine Both.mk ?_ ?_ <;> conv => whnf) | fail)
              refine Rv.appendS ttOk hL tl24 tl3 rfl (by decide) 1 rfl ((hL.rowN (i := 2) rfl).sufN (k := k) (o' := o') (n' := n') (c' := c2) (by omega) (by omega) (by omega) (by omega)) (numC_one _) (by simp only [maxLen]; omega) (by omega) hB fun v3 w hL hB => ?_
              dsimp only [List.set] at hL
              conv => whnf
              repeat (first | (refine RunH ?_; intro w hL hB; try clear w) | (refine Both.mk ?_ ?_ <;> conv => whnf) | fail)
              refine ⟨(i + 1, v3), ⟨rfl, rfl, rfl, rfl, rfl, rfl, trivial⟩, ⟨by omega, hB, ?_⟩, (by first | omega | (dsimp only; omega))⟩
              have h9 := hL.tl.pop 1
              have e9 : (out'.take k ++ [(i : Int)] ++ out'.drop k).length = 0 + k + 1 + (out'.length - k) := by simp only [List.length_append, List.length_take, List.length_drop, List.length_cons, List.length_nil]; omega
              rw [hyes, hins, e9, numC_app, numC_app]
              exact h9
      · have hno := freeU_no (ld := ld) (live := live) (Or.inr hct)
        repeat (first | (refine RunH ?_; intro w hL hB; try clear w) | (refine Both.mk ?_ ?_ <;> conv => whnf) | fail)
        exact ⟨(i + 1, out), ⟨rfl, rfl, rfl, rfl, rfl, rfl, trivial⟩, ⟨by omega, hB, by rw [hno]; exact hL⟩, (by first | omega | (dsimp only; omega))⟩
  · have hie : i = min 64 live.length := by omega
    rw [← hie]
    have fin : ∀ w, Sep Try.prog w0.heap.size w0 w [.row 3 1 out (freeU ld live ns i).length (numC (freeU ld live ns i)), .row 3 1 (.slice ra 64 rc) 64 (numC ((numS 64).map fun s => (ld s : Int)))] → OwnN w0 out (freeU ld live ns i) w := fun w hL => ⟨own_raise (hL.at (i := 0) rfl) fun b hb => hL.own _ (List.mem_cons_self ..) b (mem_rowB.2 hb), hL.below⟩
    by_cases h1 : i < live.length
    · repeat (first | (refine RunH ?_; intro w hL hB; try clear w) | (refine Both.mk ?_ ?_ <;> conv => whnf) | fail)
      exact fin _ hL
    · repeat (first | (refine RunH ?_; intro w hL hB; try clear w) | (refine Both.mk ?_ ?_ <;> conv => whnf) | fail)
      exact fin _ hL
end Go.Proofs.Ythifnfoppamkiaa
