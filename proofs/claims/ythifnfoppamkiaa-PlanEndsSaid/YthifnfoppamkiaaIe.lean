/- Plan: the reference's size, clone, Load. Nothing is claimed here. -/
import Derived.Test.YthifnfoppamkiaaId
namespace Go.Proofs.Ythifnfoppamkiaa
open Go.RowKit
set_option linter.unusedVariables false
set_option linter.unusedSimpArgs false
set_option maxRecDepth 100000

theorem sizeR_fn (v : Value) (ss : List Int) (i : Nat) (w0 : World) (h : SlE w0 v (numC ss)) : Fn Try.prog 28 #[v, .int .i64 i] w0 fun r w' => r = .int .i64 (sizeS ss i) ∧ w' = w0 := by
  obtain ⟨va, vc, rfl⟩ := h.shape
  rw [numC_len] at h ⊢
  have hL := Sep.start Try.prog w0
  have hB := Nat.le_refl w0.heap.size
  refine Fn.mk Try.func28 rfl (by kernel_rfl) Try.ntmps28 rfl (by rw [Try.results28]) ?_
  by_cases hlt : i < ss.length
  · obtain ⟨b, o, rfl, hr⟩ := h.sl.toN.addr (by omega)
    have hge : ss[i]? = some ss[i] := List.getElem?_eq_getElem hlt
    generalize ss[i] = x at hge
    repeat (first | (refine RunH ?_; intro w hL hB; try clear w) | (refine Both.mk ?_ ?_ <;> conv => whnf) | fail)
    intro o' ho'
    conv => whnf
    refine Ld.row1 ttOk hr rfl rfl (k := i) (numC_get hge) (by omega) ?_
    conv => whnf
    repeat (first | (refine RunH ?_; intro w hL hB; try clear w) | (refine Both.mk ?_ ?_ <;> conv => whnf) | fail)
    exact ⟨by rw [sizeS, hge]; rfl, rfl⟩
  · repeat (first | (refine RunH ?_; intro w hL hB; try clear w) | (refine Both.mk ?_ ?_ <;> conv => whnf) | fail)
    exact ⟨by rw [sizeS, List.getElem?_eq_none (by omega)]; rfl, rfl⟩

/-- a fresh row of numbers -/
def OwnN (w0 : World) (r : Value) (l : List Int) (w' : World) : Prop := w'.ownsRow w0.heap.size 3 1 r l.length (numC l) ∧ Below w0.heap.size w0 w'
theorem cloneR_fn (v : Value) (ns : List Int) (w0 : World) (h : SlE w0 v (numC ns)) (hn : ns.length ≤ 1000) : Fn Try.prog 29 #[v] w0 fun r w' => OwnN w0 r ns w' := by
  obtain ⟨va, vc, rfl⟩ := h.shape
  have hL := Sep.start Try.prog w0
  have hB := Nat.le_refl w0.heap.size
  refine Fn.mk Try.func29 rfl (by kernel_rfl) Try.ntmps29 rfl (by rw [Try.results29]) ?_
  repeat (first | (refine RunH ?_; intro w hL hB; try clear w) | (refine Both.mk ?_ ?_ <;> conv => whnf) | fail)
  refine Rv.buildS ttOk hL tl24 tl3 rfl rfl (by simp [cellsL]) (by decide) (by decide) hB fun bo w hL hB => ?_
  conv => whnf
  refine Rv.appendS ttOk hL tl24 tl3 rfl (by decide) 0 rfl ((h.below hL.below).sl.toN) (numC_one _) (by rw [numC_len]; simp only [maxLen]; omega) (by rw [numC_len]; omega) hB fun vo w hL hB => ?_
  dsimp only [List.set] at hL
  conv => whnf
  repeat (first | (refine RunH ?_; intro w hL hB; try clear w) | (refine Both.mk ?_ ?_ <;> conv => whnf) | fail)
  rw [Nat.zero_add, numC_len, List.flatMap_nil, List.nil_append] at hL
  exact ⟨own_raise (hL.at (i := 0) rfl) fun b hb => hL.own _ (List.mem_cons_self ..) b (mem_rowB.2 hb), hL.below⟩
theorem loadS_snoc (l : List PV) (v : PV) (s : Int) : loadS (l ++ [v]) s = loadS l s + v.ns.count s := by simp [loadS]
theorem load_le' {l : List PV} {b : Nat} (h : ∀ v ∈ l, v.ns.length ≤ b) (s : Int) : loadS l s ≤ l.length * b := by
  unfold loadS
  exact sum_le (fun v => v.ns.count s) b l fun v hv => Nat.le_trans List.count_le_length (h v hv)
def pvs (ps : List (PV × Value)) : List PV := ps.map (·.1)
theorem pvs_take (ps : List (PV × Value)) {k : Nat} {p : PV × Value} (h : ps[k]? = some p) : pvs (ps.take (k + 1)) = pvs (ps.take k) ++ [p.1] := by
  obtain ⟨hk, rfl⟩ := List.getElem?_eq_some_iff.1 h
  unfold pvs
  rw [List.take_succ_eq_append_getElem hk, List.map_append]; rfl
theorem VolS.load {w : World} {v : Value} {ps : List (PV × Value)} (h : VolS w v ps) (k : Nat) (s : Int) : loadS (pvs (ps.take k)) s ≤ 2400 := by
  have h1 := load_le' (l := pvs (ps.take k)) (b := 40) (fun u hu => by
    obtain ⟨p, hp, rfl⟩ := List.mem_map.1 hu
    exact h.ten p (List.mem_of_mem_take hp)) s
  have h2 := h.few
  have h3 : (pvs (ps.take k)).length ≤ 60 := by unfold pvs; rw [List.length_map, List.length_take]; omega
  omega

set_option maxHeartbeats 4000000 in
theorem loadR_fn (v : Value) (ps : List (PV × Value)) (n : Int) (w0 : World) (h : VolS w0 v ps) : Fn Try.prog 17 #[v, .int .i64 n] w0 fun r w' => OwnN w0 r ((numS (min 64 n.toNat)).map fun s => (loadS (pvs ps) s : Int)) w' := by
  obtain ⟨va, vc, rfl⟩ := h.sl.shape
  have hL := Sep.start Try.prog w0
  have hB := Nat.le_refl w0.heap.size
  have hfew := h.few
  have hnum : ∀ k : Nat, (numS (k + 1)).map (fun s => (loadS (pvs ps) s : Int)) = (numS k).map (fun s => (loadS (pvs ps) s : Int)) ++ [(loadS (pvs ps) (k : Int) : Int)] := fun k => by
    simp [numS, List.range_succ]
  refine Fn.mk Try.func17 rfl (by kernel_rfl) Try.ntmps17 rfl (by rw [Try.results17]) ?_
  repeat (first | (refine RunH ?_; intro w hL hB; try clear w) | (refine Both.mk ?_ ?_ <;> conv => whnf) | fail)
  refine V.loop (α := Nat × Value) (fun z => [(0, .slice va ps.length vc), (1, .int .i64 n), (5, z.2), (6, .int .i64 z.1)])
    (fun z w' => z.1 ≤ min 64 n.toNat ∧ w0.heap.size ≤ w'.heap.size ∧ Sep Try.prog w0.heap.size w0 w' [.row 3 1 z.2 z.1 (numC ((numS z.1).map fun s => (loadS (pvs ps) s : Int)))]) (fun z => 64 - z.1) (0, .slice none 0 0) ⟨rfl, rfl, rfl, rfl, trivial⟩ ⟨by omega, hB, hL.nilRow 3 1⟩ ?_
  rintro ⟨i, out⟩ w ⟨hi, hB, hL⟩
  dsimp only at *
  by_cases hgo : (i : Int) < n ∧ i < 64
  · repeat (first | (refine RunH ?_; intro w hL hB; try clear w) | (refine Both.mk ?_ ?_ <;> conv => whnf) | fail)
    refine V.loop (α := Nat) (fun z => [(0, .slice va ps.length vc), (1, .int .i64 n), (5, out), (6, .int .i64 i), (7, .int .i64 (loadS (pvs (ps.take z)) (i : Int) : Int)), (8, .int .i64 z)])
      (fun z w' => z ≤ ps.length ∧ w0.heap.size ≤ w'.heap.size ∧ Sep Try.prog w0.heap.size w0 w' [.row 3 1 out i (numC ((numS i).map fun s => (loadS (pvs ps) s : Int)))]) (fun z => ps.length - z) 0 ⟨rfl, rfl, rfl, rfl, rfl, rfl, trivial⟩ ⟨by omega, hB, hL⟩ ?_
    rintro k w ⟨hk, hB, hL⟩
    repeat (first | (refine RunH ?_; intro w hL hB; try clear w) | (refine Both.mk ?_ ?_ <;> conv => whnf) | fail)
    refine Br.dec (fun hlt => ?_) (fun hlt => ?_)
    · have hke : k < ps.length := by omega
      have hge : ps[k]? = some ps[k] := List.getElem?_eq_getElem hke
      have hmem := List.getElem_mem hke
      have hld := h.load (k + 1) i
      have hsn := pvs_take ps hge
      generalize hev : ps[k] = pv at *
      obtain ⟨p, nv⟩ := pv
      rw [hsn, loadS_snoc] at hld
      have hns := h.ns _ hmem
      have hten := h.ten _ hmem
      dsimp only at hns hten hld hsn
      obtain ⟨na, nc, hnv⟩ := hns.shape
      rw [numC_len] at hnv
      subst hnv
      repeat (first | (refine RunH ?_; intro w hL hB; try clear w) | (refine Both.mk ?_ ?_ <;> conv => whnf) | fail)
      refine V.loop (α := Nat) (fun z => [(0, .slice va ps.length vc), (1, .int .i64 n), (5, out), (6, .int .i64 i), (7, .int .i64 ((loadS (pvs (ps.take k)) (i : Int) + (p.ns.take z).count (i : Int) : Nat) : Int)), (8, .int .i64 k), (9, .int .i64 z)])
        (fun z w' => z ≤ p.ns.length ∧ w0.heap.size ≤ w'.heap.size ∧ Sep Try.prog w0.heap.size w0 w' [.row 3 1 out i (numC ((numS i).map fun s => (loadS (pvs ps) s : Int)))]) (fun z => p.ns.length - z) 0 ⟨rfl, rfl, rfl, rfl, rfl, rfl, rfl, trivial⟩ ⟨by omega, hB, hL⟩ ?_
      rintro z w ⟨hz, hB, hL⟩
      obtain ⟨b, o, rfl, hr⟩ := (h.sl.below hL.below).addr (by omega)
      repeat (first | (refine RunH ?_; intro w hL hB; try clear w) | (refine Both.mk ?_ ?_ <;> conv => whnf) | fail)
      intro o' ho'
      conv => whnf
      refine Ld.rowF ttOk pvC_len 3 hr rfl rfl hge rfl (by omega) ?_
      conv => whnf
      repeat (first | (refine RunH ?_; intro w hL hB; try clear w) | (refine Both.mk ?_ ?_ <;> conv => whnf) | fail)
      refine Br.dec (fun hlt => ?_) (fun hlt => ?_)
      · have hze : z < p.ns.length := by omega
        have hgz : p.ns[z]? = some p.ns[z] := List.getElem?_eq_getElem hze
        have hts := List.take_succ_eq_append_getElem hze
        generalize p.ns[z] = x at hgz hts
        have hct : (p.ns.take (z + 1)).count (i : Int) = (p.ns.take z).count (i : Int) + (if x = (i : Int) then 1 else 0) := by
          rw [hts, List.count_append]
          by_cases he : x = (i : Int) <;> simp [he]
        have hcl : (p.ns.take z).count (i : Int) ≤ p.ns.count (i : Int) := (List.take_sublist z p.ns).count_le _
        obtain ⟨bn, on, rfl, hrn⟩ := (hns.below hL.below).sl.toN.addr (by omega)
        repeat (first | (refine RunH ?_; intro w hL hB; try clear w) | (refine Both.mk ?_ ?_ <;> conv => whnf) | fail)
        intro o' ho'
        conv => whnf
        refine Ld.rowF ttOk pvC_len 3 hr rfl rfl hge rfl (by omega) ?_
        conv => whnf
        repeat (first | (refine RunH ?_; intro w hL hB; try clear w) | (refine Both.mk ?_ ?_ <;> conv => whnf) | fail)
        intro o' ho'
        conv => whnf
        refine Ld.row1 ttOk hrn rfl rfl (k := z) (numC_get hgz) (by omega) ?_
        conv => whnf
        repeat (first | (refine RunH ?_; intro w hL hB; try clear w) | (refine Both.mk ?_ ?_ <;> conv => whnf) | fail)
        refine Br.dec (fun he => ?_) (fun he => ?_)
        · rw [if_pos he] at hct
          repeat (first | (refine RunH ?_; intro w hL hB; try clear w) | (refine Both.mk ?_ ?_ <;> conv => whnf) | fail)
          refine ⟨z + 1, ⟨rfl, rfl, rfl, rfl, ?_, rfl, rfl, trivial⟩, ⟨hze, hB, hL⟩, (by first | omega | (dsimp only; omega))⟩
          rw [hct]; rfl
        · rw [if_neg he] at hct
          repeat (first | (refine RunH ?_; intro w hL hB; try clear w) | (refine Both.mk ?_ ?_ <;> conv => whnf) | fail)
          refine ⟨z + 1, ⟨rfl, rfl, rfl, rfl, ?_, rfl, rfl, trivial⟩, ⟨hze, hB, hL⟩, (by first | omega | (dsimp only; omega))⟩
          rw [hct]; rfl
      · obtain rfl : z = p.ns.length := by omega
        rw [List.take_length]
        repeat (first | (refine RunH ?_; intro w hL hB; try clear w) | (refine Both.mk ?_ ?_ <;> conv => whnf) | fail)
        refine ⟨k + 1, ⟨rfl, rfl, rfl, rfl, ?_, rfl, trivial⟩, ⟨hke, hB, hL⟩, (by first | omega | (dsimp only; omega))⟩
        rw [hsn, loadS_snoc]; rfl
    · obtain rfl : k = ps.length := by omega
      rw [List.take_length]
      repeat (first | (refine RunH ?_; intro w hL hB; try clear w) | (refine Both.mk ?_ ?_ <;> conv => whnf) | fail)
      refine Rv.buildS ttOk hL tl24 tl3 rfl rfl (by intro u hu; simp only [List.mem_singleton] at hu; subst hu; rfl) (by decide) (by decide) hB fun bo w hL hB => ?_
      conv => whnf
      refine Rv.appendS ttOk hL tl24 tl3 rfl (by decide) 1 rfl (hL.rowN (i := 0) rfl) (allOne_mem rfl) (by simp only [maxLen]; omega) (by omega) hB fun vo w hL hB => ?_
      dsimp only [List.set] at hL
      conv => whnf
      repeat (first | (refine RunH ?_; intro w hL hB; try clear w) | (refine Both.mk ?_ ?_ <;> conv => whnf) | fail)
      refine ⟨(i + 1, vo), ⟨rfl, rfl, rfl, rfl, trivial⟩, ⟨by omega, hB, ?_⟩, (by first | omega | (dsimp only; omega))⟩
      rw [hnum, numC_snoc]
      exact hL.tl
  · have hie : i = min 64 n.toNat := by omega
    rw [← hie]
    have fin : ∀ w, Sep Try.prog w0.heap.size w0 w [.row 3 1 out i (numC ((numS i).map fun s => (loadS (pvs ps) s : Int)))] → OwnN w0 out ((numS i).map fun s => (loadS (pvs ps) s : Int)) w := fun w hL => by
      unfold OwnN
      rw [List.length_map, numS_len]
      exact ⟨own_raise (hL.at (i := 0) rfl) fun b hb => hL.own _ (List.mem_cons_self ..) b (mem_rowB.2 hb), hL.below⟩
    by_cases h1 : (i : Int) < n
    · repeat (first | (refine RunH ?_; intro w hL hB; try clear w) | (refine Both.mk ?_ ?_ <;> conv => whnf) | fail)
      exact fin _ hL
    · repeat (first | (refine RunH ?_; intro w hL hB; try clear w) | (refine Both.mk ?_ ?_ <;> conv => whnf) | fail)
      exact fin _ hL
end Go.Proofs.Ythifnfoppamkiaa
