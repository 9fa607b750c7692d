/- Plan: the reference's uneven. Nothing is claimed here. -/
import Derived.Test.YthifnfoppamkiaaIk
namespace Go.Proofs.Ythifnfoppamkiaa
open Go.RowKit
set_option linter.unusedVariables false
set_option linter.unusedSimpArgs false
set_option maxRecDepth 100000

theorem mostS_props (ld : Int → Nat) (ns : List Int) : ∀ k, k ≤ ns.length → (mostS ld ns k < k ∨ (k = 0 ∧ mostS ld ns k = 0)) ∧ (∀ j, j < k → ld (ns[j]?.getD 0) ≤ ld (ns[mostS ld ns k]?.getD 0)) ∧ ∀ j, j < mostS ld ns k → ld (ns[j]?.getD 0) < ld (ns[mostS ld ns k]?.getD 0)
  | 0, _ => ⟨.inr ⟨rfl, rfl⟩, by intro j hj; omega, by intro j hj; simp [mostS] at hj⟩
  | k + 1, hk => by
    obtain ⟨h1, h2, h3⟩ := mostS_props ld ns k (by omega)
    unfold mostS
    split
    · rename_i hlt
      refine ⟨.inl (by omega), fun j hj => ?_, fun j hj => ?_⟩
      · by_cases e : j = k
        · subst e; omega
        · have := h2 j (by omega); omega
      · have := h2 j (by omega); omega
    · rename_i hlt
      refine ⟨.inl (by omega), fun j hj => ?_, h3⟩
      by_cases e : j = k
      · subst e; omega
      · exact h2 j (by omega)
theorem whole_at {live : List Bool} {v : PV} (h : wholeS live v) : ∀ n ∈ v.ns, liveS live n = true := by
  unfold wholeS livingS at h
  have := List.length_filter_eq_length_iff.1 h
  exact this
theorem wholeB_iff {live : List Bool} {v : PV} {s : Int} : wholeB live v s = true ↔ v.fz = false ∧ v.st = s ∧ v.ns ≠ [] ∧ wholeS live v := by
  unfold wholeB
  simp [and_assoc]
theorem free_ld {l : List PV} {live : List Bool} {ns : List Int} {x : Int} {f : List Int} (h : freeS l live ns = x :: f) : liveS live x = true := by
  have : x ∈ freeS l live ns := by rw [h]; exact List.mem_cons_self ..
  exact (candS_mem.1 (freeS_mem.1 this)).1
theorem ldrow_get (ld : Int → Nat) {x : Int} (h0 : 0 ≤ x) (h1 : x < 64) : (numC ((numS 64).map fun s => (ld s : Int)))[x.toNat]? = some (.int .i64 (ld x : Int)) := by
  obtain ⟨m, rfl⟩ := Int.eq_ofNat_of_zero_le h0
  simp [numC, numS, List.getElem?_range (show m < 64 by omega)]
theorem splice_one {xs : List Value} {k : Nat} {v : Value} (h : k < xs.length) : splice xs k [v] = xs.set k v := by
  rw [splice_eq _ _ _ (by simp; omega), List.set_eq_take_append_cons_drop, if_pos h]; simp
theorem own_addr {w : World} {base sz n c m : Nat} {e : TypeId} {a : Option Addr} {xs : List Value} (h : w.ownsRow base e sz (.slice a n c) m xs) (hn : 0 < m) : (∃ g, a = some ⟨g, 0, none⟩) ∧ n ≤ c := by
  rcases own_shape h with ⟨e, h0⟩ | ⟨g, c9, e, h1, h2⟩
  · omega
  · injection e with e1 e2 e3
    subst e2; subst e3
    exact ⟨⟨g, e1⟩, h1⟩
theorem numC_set (l : List Int) (k : Nat) (x : Int) : (numC l).set k (.int .i64 x) = numC (l.set k x) := by simp [numC, List.map_set]
set_option maxHeartbeats 16000000 in
theorem unevenR_fn (v lv : Value) (ps : List (PV × Value)) (live : List Bool) (w0 : World) (h : VolS w0 v ps) (hl : SlE w0 lv (boolC live)) (hll : live.length ≤ 100) :
    Fn Try.prog 31 #[v, lv] w0 fun r w' => ActS w0 (firstS (fun _ v => unevenS (pvs ps) live v) (pvs ps)) r w' := by
  obtain ⟨va, vc, rfl⟩ := h.sl.shape
  have hL := Sep.start Try.prog w0
  have hB := Nat.le_refl w0.heap.size
  have hfew := h.few
  have hld : ∀ s, loadS (pvs ps) s ≤ 2400 := fun s => by
    have := h.load ps.length s
    rwa [List.take_length] at this
  have hrl : ∀ p : PV, ∀ a, unevenS (pvs ps) live p = a → unevenS (pvs ps) live p = a := fun p a e => e
  conv at hrl => enter [p, a]; lhs; unfold unevenS
  have hfl : ∀ {ns x f}, freeS (pvs ps) live ns = x :: f → liveS live x = true := free_ld
  have hf64 := fun ns => freeS_le (pvs ps) live ns
  refine Fn.mk Try.func31 rfl (by kernel_rfl) Try.ntmps31 rfl (by rw [Try.results31]) ?_
  repeat (first | (refine RunH ?_; intro w hL hB; try clear w) | (refine Both.mk ?_ ?_ <;> conv => whnf) | fail)
  (refine Nw.sep hL hB (fun b4 w hL hB hb4 => ?_); conv => whnf)
  repeat (first | (refine RunH ?_; intro w hL hB; try clear w) | (refine Both.mk ?_ ?_ <;> conv => whnf) | fail)
  refine (loadR_fn _ ps 64 _ (h.below hL.below)).mono fun r w hr => ?_
  obtain ⟨hown, hbl⟩ := hr
  have hr64 : (min 64 (64 : Int).toNat) = 64 := by decide
  rw [hr64] at hown
  replace hL := hL.addRow hB hbl hown
  replace hB := Nat.le_trans hB hbl.size
  rw [List.length_map, numS_len] at hL
  generalize hldd : loadS (pvs ps) = ld at *
  obtain ⟨ra, rc, rfl⟩ := (hL.rowN (i := 0) rfl).shape
  obtain ⟨rb, hrow⟩ : ∃ rb, ra = some ⟨rb, 0, none⟩ := by
    rcases own_shape (hL.at (i := 0) rfl) with ⟨e, h0⟩ | ⟨g, c9, e, h1, h2⟩
    · omega
    · injection e with e1 e2 e3; exact ⟨g, e1⟩
  subst hrow
  conv => whnf
  repeat (first | (refine RunH ?_; intro w hL hB; try clear w) | (refine Both.mk ?_ ?_ <;> conv => whnf) | fail)
  refine V.loop (α := Nat) (fun z => [(0, .slice va ps.length vc), (1, lv), (4, .pointer (some ⟨b4, 0, none⟩)), (5, .bool false), (6, .slice (some ⟨rb, 0, none⟩) 64 rc), (7, .int .i64 z)])
    (fun z w' => z ≤ ps.length ∧ w0.heap.size ≤ w'.heap.size ∧ PreS (fun _ v => unevenS (pvs ps) live v) (pvs ps) z ∧ Sep Try.prog w0.heap.size w0 w' [.row 3 1 (.slice (some ⟨rb, 0, none⟩) 64 rc) 64 (numC ((numS 64).map fun s => (ld s : Int))), .blk b4 [.int .i64 0, .int .i64 0, .int .i64 0, .slice none 0 0, .slice none 0 0] 32]) (fun z => ps.length - z) 0 ⟨rfl, rfl, rfl, rfl, rfl, rfl, trivial⟩ ⟨by omega, hB, PreS.zero _ _, hL⟩ ?_
  rintro k w ⟨hk, hB, hno, hL⟩
  repeat (first | (refine RunH ?_; intro w hL hB; try clear w) | (refine Both.mk ?_ ?_ <;> conv => whnf) | fail)
  refine Br.dec (fun hlt => ?_) (fun hlt => ?_)
  · have hke : k < ps.length := by omega
    have hge : ps[k]? = some ps[k] := List.getElem?_eq_getElem hke
    have hmem := List.getElem_mem hke
    have hpv := pvs_get hge
    generalize hev : ps[k] = pv at *
    obtain ⟨p, nv⟩ := pv
    have hns := h.ns _ hmem
    have hten := h.ten _ hmem
    dsimp only at hns hten hpv
    have hns' := hns
    obtain ⟨na, nc, hnv⟩ := hns.shape
    rw [numC_len] at hnv
    subst hnv
    obtain ⟨b, o, rfl, hr⟩ := (h.sl.below hL.below).addr (by omega)
    repeat (first | (refine RunH ?_; intro w hL hB; try clear w) | (refine Both.mk ?_ ?_ <;> conv => whnf) | fail)
    intro o' ho'
    conv => whnf
    refine Ld.rowN ttOk pvC_len hr rfl rfl rfl hge (by omega) ?_
    conv => whnf
    (refine Nw.sep hL hB (fun b8 w hL hB hb8 => ?_); conv => whnf)
    repeat (first | (refine RunH ?_; intro w hL hB; try clear w) | (refine Both.mk ?_ ?_ <;> conv => whnf) | fail)
    dsimp only [pvC, cellsL, overL, splice] at hL
    refine (wholeR_fn (p, .slice na p.ns.length nc) lv live 0 _ (hns.below hL.below) (by dsimp only; omega) (hl.below hL.below)).mono fun r w hr => ?_
    obtain ⟨hr', hw⟩ := hr
    subst hr'
    replace hL := hL.call hB (Turns.of_below hw)
    replace hB := Nat.le_trans hB hw.size
    dsimp only
    by_cases hwh : wholeB live p 0 = true ∨ wholeB live p 1 = true
    · obtain ⟨hz, hst, hpn, hwl⟩ : p.fz = false ∧ (p.st = 0 ∨ p.st = 1) ∧ p.ns ≠ [] ∧ wholeS live p := by
        rcases hwh with e | e <;> obtain ⟨h1, h2, h3, h4⟩ := wholeB_iff.1 e
        · exact ⟨h1, .inl h2, h3, h4⟩
        · exact ⟨h1, .inr h2, h3, h4⟩
      have hall := whole_at hwl
      have hpl : 0 < p.ns.length := List.length_pos_iff.2 hpn
      obtain ⟨bn, on, rfl, _⟩ := hns.sl.toN.addr hpl
      have hat : ∀ i, i < p.ns.length → ∃ x, p.ns[i]? = some x ∧ p.ns[i]?.getD 0 = x ∧ 0 ≤ x ∧ x < 64 := fun i hi => by
        have h1 := liveS_lt (hall _ (List.getElem_mem hi))
        exact ⟨p.ns[i], List.getElem?_eq_getElem hi, by rw [List.getElem?_eq_getElem hi]; rfl, h1.1, h1.2.1⟩
      have hmp := mostS_props ld p.ns
      have hm1 : mostS ld p.ns 1 = 0 := by
        have := (hmp 1 hpl).1
        omega
      obtain ⟨x0, hx0, hx0', _⟩ := hat 0 hpl
      have hw01 : wholeB live p 0 = true ∨ (wholeB live p 0 = false ∧ wholeB live p 1 = true) := by
        cases e : wholeB live p 0
        · rw [e] at hwh; exact .inr ⟨rfl, hwh.resolve_left (by simp)⟩
        · exact .inl rfl
      rcases hw01 with hw0 | ⟨hw0, hw1⟩
      all_goals
        conv => whnf
        repeat (first | (refine RunH ?_; intro w hL hB; try clear w) | (refine Both.mk ?_ ?_ <;> conv => whnf) | (refine (wholeR_fn (p, .slice (some ⟨bn, on, none⟩) p.ns.length nc) lv live 1 _ (hns.below hL.below) (by dsimp only; omega) (hl.below hL.below)).mono fun r w hr => ?_; obtain ⟨hr, hw⟩ := hr; subst hr; replace hL := hL.call hB (Turns.of_below hw); replace hB := Nat.le_trans hB hw.size; conv => whnf) | (dsimp only; refine Br.y ?_ hw1; conv => whnf) | fail)
        intro o1 ho1
        conv => whnf
        refine Ld.row1 ttOk (hns.below hL.below).sl.toN.rowOf rfl rfl (k := 0) (numC_get hx0) (by omega) ?_
        conv => whnf
        repeat (first | (refine RunH ?_; intro w hL hB; try clear w) | (refine Both.mk ?_ ?_ <;> conv => whnf) | fail)
        refine V.loop (α := Nat) (fun z => [(0, .slice (some ⟨b, o, none⟩) ps.length vc), (1, lv), (4, .pointer (some ⟨b4, 0, none⟩)), (5, .bool false), (6, .slice (some ⟨rb, 0, none⟩) 64 rc), (7, .int .i64 k), (8, .pointer (some ⟨b8, 0, none⟩)), (9, .int .i64 (p.ns[mostS ld p.ns z]?.getD 0)), (10, .int .i64 z)])
          (fun z w' => 1 ≤ z ∧ z ≤ p.ns.length ∧ w0.heap.size ≤ w'.heap.size ∧ Sep Try.prog w0.heap.size w0 w' [.blk b8 (pvC (p, .slice (some ⟨bn, on, none⟩) p.ns.length nc)) 30, .row 3 1 (.slice (some ⟨rb, 0, none⟩) 64 rc) 64 (numC ((numS 64).map fun s => (ld s : Int))), .blk b4 [.int .i64 0, .int .i64 0, .int .i64 0, .slice none 0 0, .slice none 0 0] 32]) (fun z => p.ns.length - z) 1 ⟨rfl, rfl, rfl, rfl, rfl, rfl, rfl, by rw [hm1, hx0']; rfl, rfl, trivial⟩ ⟨by omega, hpl, hB, hL⟩ ?_
        rintro z w ⟨hz1, hz2, hB, hL⟩
        have hmz := (hmp z hz2).1
        obtain ⟨a, ha, ha', ha0, ha1⟩ := hat (mostS ld p.ns z) (by omega)
        rw [ha']
        have hga := ldrow_get ld ha0 ha1
        repeat (first | (refine RunH ?_; intro w hL hB; try clear w) | (refine Both.mk ?_ ?_ <;> conv => whnf) | fail)
        refine Br.dec (fun hlt => ?_) (fun hlt => ?_)
        · obtain ⟨x, hx, hx', hxl, hxh⟩ := hat z (by omega)
          have hgx := ldrow_get ld hxl hxh
          have hms : mostS ld p.ns (z + 1) = if ld a < ld x then z else mostS ld p.ns z := by
            rw [show mostS ld p.ns (z + 1) = if ld (p.ns[mostS ld p.ns z]?.getD 0) < ld (p.ns[z]?.getD 0) then z else mostS ld p.ns z from rfl, ha', hx']
          repeat (first | (refine RunK ?_; intro w hL hB; try clear w) | (refine V.quiet ttOk (fun x => x = World.drew _) mixed (by kernel_rfl) rfl ?_; replace hL := hL.drew; conv => whnf) | (refine V.tailA ttOk mixed (by decide +kernel) ?_; replace hL := hL.drew; conv => whnf) | (refine Both.mk ?_ ?_ <;> conv => whnf) | (intro w9 hw9; subst hw9; conv => whnf) | (intro o9 ho9; conv => whnf) | (refine Lq.of_row (Ld.row1 ttOk (hns.below hL.below).sl.toN.rowOf rfl rfl (k := z) (v := .int .i64 x) (numC_get hx) (by omega) rfl) ?_; conv => whnf) | (refine Lq.of_row (Ld.row1 ttOk (hL.rowN (i := 1) rfl).rowOf rfl rfl (k := x.toNat) hgx (by omega) rfl) ?_; conv => whnf) | (refine Lq.of_row (Ld.row1 ttOk (hL.rowN (i := 1) rfl).rowOf rfl rfl (k := a.toNat) hga (by omega) rfl) ?_; conv => whnf) | fail)
          refine Br.dec (fun hgt => ?_) (fun hgt => ?_)
          · rw [if_pos (by omega)] at hms
            repeat (first | (refine RunH ?_; intro w hL hB; try clear w) | (refine Both.mk ?_ ?_ <;> conv => whnf) | fail)
            intro o1 ho1
            conv => whnf
            refine Ld.row1 ttOk (hns.below hL.below).sl.toN.rowOf rfl rfl (k := z) (numC_get hx) (by omega) ?_
            conv => whnf
            repeat (first | (refine RunH ?_; intro w hL hB; try clear w) | (refine Both.mk ?_ ?_ <;> conv => whnf) | fail)
            refine ⟨z + 1, ⟨rfl, rfl, rfl, rfl, rfl, rfl, rfl, ?_, rfl, trivial⟩, ⟨by omega, by omega, hB, hL⟩, (by first | omega | (dsimp only; omega))⟩
            rw [hms, hx']; rfl
          · rw [if_neg (by omega)] at hms
            repeat (first | (refine RunH ?_; intro w hL hB; try clear w) | (refine Both.mk ?_ ?_ <;> conv => whnf) | fail)
            refine ⟨z + 1, ⟨rfl, rfl, rfl, rfl, rfl, rfl, rfl, ?_, rfl, trivial⟩, ⟨by omega, by omega, hB, hL⟩, (by first | omega | (dsimp only; omega))⟩
            rw [hms, ha']; rfl
        · obtain rfl : z = p.ns.length := by omega
          have hmf := (hmp p.ns.length (Nat.le_refl _)).2.2
          generalize hm : mostS ld p.ns p.ns.length = m at *
          rw [ha'] at hmf
          repeat (first | (refine RunH ?_; intro w hL hB; try clear w) | (refine Both.mk ?_ ?_ <;> conv => whnf) | fail)
          refine (freeR_fn _ lv _ ps live p.ns _ (h.below hL.below) (hl.below hL.below) hll (hns.below hL.below)).mono fun r w hr => ?_
          obtain ⟨hown, hbl⟩ := hr
          have hrl' := hrl p
          have hfl' := @hfl p.ns
          have hf64' := hf64 p.ns
          rw [hm, ha'] at hrl'
          generalize freeS (pvs ps) live p.ns = fr at *
          replace hL := hL.addRow hB hbl hown
          replace hB := Nat.le_trans hB hbl.size
          obtain ⟨fa, fc, rfl⟩ := (hL.rowN (i := 0) rfl).shape
          by_cases hf0 : fr.length = 0
          · have hnone := hno.snoc hpv (atRule_none fun hn => hrl' none (by rw [List.length_eq_zero_iff.1 hf0]))
            conv => whnf
            repeat (first | (refine RunK ?_; intro w hL hB; try clear w) | (refine V.quiet ttOk (fun x => x = World.drew _) mixed (by kernel_rfl) rfl ?_; replace hL := hL.drew; conv => whnf) | (refine V.tailA ttOk mixed (by decide +kernel) ?_; replace hL := hL.drew; conv => whnf) | (refine Both.mk ?_ ?_ <;> conv => whnf) | (intro w9 hw9; subst hw9; conv => whnf) | (intro o9 ho9; conv => whnf) | fail)
            refine ⟨k + 1, ⟨rfl, rfl, rfl, rfl, rfl, rfl, trivial⟩, ⟨hke, hB, hnone, hL.tl.tl⟩, (by first | omega | (dsimp only; omega))⟩
          · obtain ⟨y, f', hfr⟩ : ∃ y f', fr = y :: f' := by
              cases e : fr with
              | nil => exact absurd (by rw [e]; rfl) hf0
              | cons y f' => exact ⟨y, f', rfl⟩
            have hgy : fr[0]? = some y := by rw [hfr]; rfl
            have hyl := liveS_lt (hfl' hfr)
            have hgly := ldrow_get ld hyl.1 hyl.2.1
            have hrl2 : ∀ z, (if (p.st ≠ 0 ∧ p.st ≠ 1) ∨ p.fz = true ∨ ¬ wholeS live p ∨ ld a < ld y + 2 then none else some (⟨5, 0, p.st, p.ns, p.ns.set m y⟩ : PA)) = z → unevenS (pvs ps) live p = z := fun z e => hrl' z (by rw [hfr]; exact e)
            obtain ⟨⟨fb, rfl⟩, hfc⟩ := own_addr (hL.at (i := 0) rfl) (by omega)
            have hlda := hld a
            have hldy := hld y
            conv => whnf
            repeat (first | (refine RunK ?_; intro w hL hB; try clear w) | (refine V.quiet ttOk (fun x => x = World.drew _) mixed (by kernel_rfl) rfl ?_; replace hL := hL.drew; conv => whnf) | (refine V.tailA ttOk mixed (by decide +kernel) ?_; replace hL := hL.drew; conv => whnf) | (refine Both.mk ?_ ?_ <;> conv => whnf) | (intro w9 hw9; subst hw9; conv => whnf) | (intro o9 ho9; conv => whnf) | (refine Lq.of_row (Ld.row1 ttOk (hL.rowN (i := 0) rfl).rowOf rfl rfl (k := 0) (v := .int .i64 y) (numC_get hgy) (by omega) rfl) ?_; conv => whnf) | (refine Lq.of_row (Ld.row1 ttOk (hL.rowN (i := 2) rfl).rowOf rfl rfl (k := y.toNat) hgly (by omega) rfl) ?_; conv => whnf) | (refine Lq.of_row (Ld.row1 ttOk (hL.rowN (i := 2) rfl).rowOf rfl rfl (k := a.toNat) hga (by omega) rfl) ?_; conv => whnf) | fail)
            refine Br.dec (fun hbr => ?_) (fun hbr => ?_)
            · have hnone := hno.snoc hpv (atRule_none fun hn => hrl2 none (if_pos (.inr (.inr (.inr (by omega))))))
              repeat (first | (refine RunH ?_; intro w hL hB; try clear w) | (refine Both.mk ?_ ?_ <;> conv => whnf) | fail)
              refine ⟨k + 1, ⟨rfl, rfl, rfl, rfl, rfl, rfl, trivial⟩, ⟨hke, hB, hnone, hL.tl.tl⟩, (by first | omega | (dsimp only; omega))⟩
            · have hfirst := hno.some hpv (atRule_some hpn (hrl2 _ (if_neg (by
                rintro (e | e | e | e)
                · omega
                · rw [hz] at e; cases e
                · exact e hwl
                · omega))))
              rw [hfirst]
              clear hfirst hno hrl hrl' hrl2
              repeat (first | (refine RunH ?_; intro w hL hB; try clear w) | (refine Both.mk ?_ ?_ <;> conv => whnf) | fail)
              refine (cloneR_fn _ p.ns _ (hns.below hL.below) (by omega)).mono fun r w hr => ?_
              obtain ⟨hown, hbl⟩ := hr
              replace hL := hL.addRow hB hbl hown
              replace hB := Nat.le_trans hB hbl.size
              obtain ⟨ca, cc, rfl⟩ := (hL.rowN (i := 0) rfl).shape
              obtain ⟨⟨cb, rfl⟩, hcc⟩ := own_addr (hL.at (i := 0) rfl) hpl
              conv => whnf
              repeat (first | (refine RunH ?_; intro w hL hB; try clear w) | (refine Both.mk ?_ ?_ <;> conv => whnf) | fail)
              refine V.loop (α := Nat) (fun z => [(4, .pointer (some ⟨b4, 0, none⟩)), (8, .pointer (some ⟨b8, 0, none⟩)), (9, .int .i64 a), (11, .slice (some ⟨fb, 0, none⟩) fr.length fc), (12, .slice (some ⟨cb, 0, none⟩) p.ns.length cc), (13, .int .i64 z)])
                (fun z w' => z ≤ m ∧ w0.heap.size ≤ w'.heap.size ∧ Sep Try.prog w0.heap.size w0 w' [.row 3 1 (.slice (some ⟨cb, 0, none⟩) p.ns.length cc) p.ns.length (numC p.ns), .row 3 1 (.slice (some ⟨fb, 0, none⟩) fr.length fc) fr.length (numC fr), .blk b8 (pvC (p, .slice (some ⟨bn, on, none⟩) p.ns.length nc)) 30, .blk b4 [.int .i64 0, .int .i64 0, .int .i64 0, .slice none 0 0, .slice none 0 0] 32]) (fun z => m - z) 0 ⟨rfl, rfl, rfl, rfl, rfl, rfl, trivial⟩ ⟨Nat.zero_le _, hB, hL.pop 3⟩ ?_
              rintro z w ⟨hz3, hB, hL⟩
              obtain ⟨x, hx, hx', hxl, hxh⟩ := hat z (by omega)
              repeat (first | (refine RunH ?_; intro w hL hB; try clear w) | (refine Both.mk ?_ ?_ <;> conv => whnf) | fail)
              intro o1 ho1
              conv => whnf
              refine Ld.row1 ttOk (hL.rowN (i := 0) rfl).rowOf rfl rfl (k := z) (numC_get hx) (by omega) ?_
              conv => whnf
              repeat (first | (refine RunH ?_; intro w hL hB; try clear w) | (refine Both.mk ?_ ?_ <;> conv => whnf) | fail)
              refine Br.dec (fun heq => ?_) (fun heq => ?_)
              · obtain rfl : z = m := by
                  by_cases e : z < m
                  · have := hmf z e
                    rw [hx', heq] at this
                    omega
                  · omega
                repeat (first | (refine RunH ?_; intro w hL hB; try clear w) | (refine Both.mk ?_ ?_ <;> conv => whnf) | fail)
                intro o2 ho2
                conv => whnf
                refine Ld.row1 ttOk (hL.rowN (i := 1) rfl).rowOf rfl rfl (k := 0) (numC_get hgy) (by omega) ?_
                conv => whnf
                repeat (first | (refine RunH ?_; intro w hL hB; try clear w) | (refine Both.mk ?_ ?_ <;> conv => whnf) | fail)
                intro o3 ho3
                obtain rfl : o3 = z := by omega
                conv => whnf
                repeat (first | (refine RunH ?_; intro w hL hB; try clear w) | (refine Both.mk ?_ ?_ <;> conv => whnf) | fail)
                refine St.rowS ttOk hL 0 rfl rfl rfl rfl (by rw [numC_len]; show o3 + 1 ≤ _; omega) hB (fun w hL hB => ?_)
                dsimp only [List.set] at hL
                conv => whnf
                repeat (first | (refine RunH ?_; intro w hL hB; try clear w) | (refine Both.mk ?_ ?_ <;> conv => whnf) | fail)
                have hspl : splice (numC p.ns) o3 (cellsL (.int .i64 y)) = numC (p.ns.set o3 y) := by
                  show splice (numC p.ns) o3 [.int .i64 y] = _
                  rw [splice_one (by rw [numC_len]; omega), numC_set]
                rw [hspl] at hL
                repeat (first | (refine RunK ?_; intro w hL hB; try clear w) | (refine V.treeS ttOk hL 0 (b := b4) rfl (.q 0 (.q 1 (.q 2 (.q 3 (.q 4 (.q 5 (.q 6 (.q 7 (.q 8 (.q 9 (.q 10 (.q 11 (.q 12 .nil))))))))))))) mixed (by decide +kernel) ?_; replace hL := hL.drew; conv => whnf) | (refine V.treeS ttOk hL 0 (b := b4) rfl (.q 0 (.q 1 (.q 2 (.q 3 (.q 4 (.q 5 (.q 6 (.q 7 (.q 8 (.q 9 (.q 10 (.q 11 (.q 12 (.q 13 (.q 14 (.q 15 (.q 16 .nil))))))))))))))))) mixed (by decide +kernel) ?_; replace hL := hL.drew; conv => whnf) | (refine V.treeS ttOk hL 0 (b := b4) rfl (.q 0 (.q 1 (.q 2 (.q 3 (.q 4 (.q 5 (.q 7 (.alt 6 (.q 8 (.alt 9 (.q 10 .nil) .stop)) .stop)))))))) mixed (by decide +kernel) ?_; replace hL := hL.drew; conv => whnf) | (refine V.treeS ttOk hL 1 (b := b4) rfl (.q 0 (.q 1 (.q 2 (.q 3 (.q 4 (.q 5 (.q 6 (.q 7 (.q 8 (.q 9 (.q 10 (.q 11 (.q 12 .nil))))))))))))) mixed (by decide +kernel) ?_; replace hL := hL.drew; conv => whnf) | (refine V.treeS ttOk hL 1 (b := b4) rfl (.q 0 (.q 1 (.q 2 (.q 3 (.q 4 (.q 5 (.q 6 (.q 7 (.q 8 (.q 9 (.q 10 (.q 11 (.q 12 (.q 13 (.q 14 (.q 15 (.q 16 .nil))))))))))))))))) mixed (by decide +kernel) ?_; replace hL := hL.drew; conv => whnf) | (refine V.treeS ttOk hL 1 (b := b4) rfl (.q 0 (.q 1 (.q 2 (.q 3 (.q 4 (.q 5 (.q 7 (.alt 6 (.q 8 (.alt 9 (.q 10 .nil) .stop)) .stop)))))))) mixed (by decide +kernel) ?_; replace hL := hL.drew; conv => whnf) | (refine V.treeS ttOk hL 2 (b := b4) rfl (.q 0 (.q 1 (.q 2 (.q 3 (.q 4 (.q 5 (.q 6 (.q 7 (.q 8 (.q 9 (.q 10 (.q 11 (.q 12 .nil))))))))))))) mixed (by decide +kernel) ?_; replace hL := hL.drew; conv => whnf) | (refine V.treeS ttOk hL 2 (b := b4) rfl (.q 0 (.q 1 (.q 2 (.q 3 (.q 4 (.q 5 (.q 6 (.q 7 (.q 8 (.q 9 (.q 10 (.q 11 (.q 12 (.q 13 (.q 14 (.q 15 (.q 16 .nil))))))))))))))))) mixed (by decide +kernel) ?_; replace hL := hL.drew; conv => whnf) | (refine V.treeS ttOk hL 2 (b := b4) rfl (.q 0 (.q 1 (.q 2 (.q 3 (.q 4 (.q 5 (.q 7 (.alt 6 (.q 8 (.alt 9 (.q 10 .nil) .stop)) .stop)))))))) mixed (by decide +kernel) ?_; replace hL := hL.drew; conv => whnf) | (refine V.treeS ttOk hL 3 (b := b4) rfl (.q 0 (.q 1 (.q 2 (.q 3 (.q 4 (.q 5 (.q 6 (.q 7 (.q 8 (.q 9 (.q 10 (.q 11 (.q 12 .nil))))))))))))) mixed (by decide +kernel) ?_; replace hL := hL.drew; conv => whnf) | (refine V.treeS ttOk hL 3 (b := b4) rfl (.q 0 (.q 1 (.q 2 (.q 3 (.q 4 (.q 5 (.q 6 (.q 7 (.q 8 (.q 9 (.q 10 (.q 11 (.q 12 (.q 13 (.q 14 (.q 15 (.q 16 .nil))))))))))))))))) mixed (by decide +kernel) ?_; replace hL := hL.drew; conv => whnf) | (refine V.treeS ttOk hL 3 (b := b4) rfl (.q 0 (.q 1 (.q 2 (.q 3 (.q 4 (.q 5 (.q 7 (.alt 6 (.q 8 (.alt 9 (.q 10 .nil) .stop)) .stop)))))))) mixed (by decide +kernel) ?_; replace hL := hL.drew; conv => whnf) | (refine V.treeS ttOk hL 4 (b := b4) rfl (.q 0 (.q 1 (.q 2 (.q 3 (.q 4 (.q 5 (.q 6 (.q 7 (.q 8 (.q 9 (.q 10 (.q 11 (.q 12 .nil))))))))))))) mixed (by decide +kernel) ?_; replace hL := hL.drew; conv => whnf) | (refine V.treeS ttOk hL 4 (b := b4) rfl (.q 0 (.q 1 (.q 2 (.q 3 (.q 4 (.q 5 (.q 6 (.q 7 (.q 8 (.q 9 (.q 10 (.q 11 (.q 12 (.q 13 (.q 14 (.q 15 (.q 16 .nil))))))))))))))))) mixed (by decide +kernel) ?_; replace hL := hL.drew; conv => whnf) | (refine V.treeS ttOk hL 4 (b := b4) rfl (.q 0 (.q 1 (.q 2 (.q 3 (.q 4 (.q 5 (.q 7 (.alt 6 (.q 8 (.alt 9 (.q 10 .nil) .stop)) .stop)))))))) mixed (by decide +kernel) ?_; replace hL := hL.drew; conv => whnf) | (refine V.tailA ttOk mixed (by decide +kernel) ?_; replace hL := hL.drew; conv => whnf) | (refine Both.mk ?_ ?_ <;> conv => whnf) | (intro w9 hw9; conv => whnf) | fail)
                refine (cloneR_fn _ p.ns _ (hns.below hL.below) (by omega)).mono fun r w hr => ?_
                obtain ⟨hown, hbl⟩ := hr
                replace hL := hL.addRow hB hbl hown
                replace hB := Nat.le_trans hB hbl.size
                obtain ⟨da, dc, rfl⟩ := (hL.rowN (i := 0) rfl).shape
                conv => whnf
                repeat (first | (refine RunH ?_; intro w hL hB; try clear w) | (refine Both.mk ?_ ?_ <;> conv => whnf) | fail)
                refine ⟨_, _, rfl, ?_⟩
                have h9 := hL.sub (L' := [.row 3 1 (.slice da p.ns.length dc) p.ns.length (numC p.ns), .row 3 1 (.slice (some ⟨cb, 0, none⟩) p.ns.length cc) p.ns.length (numC (p.ns.set o3 y))]) (.cons_cons _ (.cons_cons _ (List.nil_sublist _)))
                dsimp only
                rw [List.length_set]
                exact h9
              · have hzm : z < m := by
                  by_cases e : z = m
                  · subst e; rw [ha] at hx; injection hx with hx; exact absurd hx.symm heq
                  · omega
                repeat (first | (refine RunH ?_; intro w hL hB; try clear w) | (refine Both.mk ?_ ?_ <;> conv => whnf) | fail)
                refine ⟨z + 1, ⟨rfl, rfl, rfl, rfl, rfl, rfl, trivial⟩, ⟨by omega, hB, hL⟩, (by first | omega | (dsimp only; omega))⟩
    · have h0 : wholeB live p 0 = false := Bool.eq_false_iff.2 fun e => hwh (.inl e)
      have h1 : wholeB live p 1 = false := Bool.eq_false_iff.2 fun e => hwh (.inr e)
      have hnone := hno.snoc hpv (atRule_none fun hn => by
        have hc : (p.st ≠ 0 ∧ p.st ≠ 1) ∨ p.fz = true ∨ ¬ wholeS live p := Decidable.byContradiction fun e => by
          have hf : p.fz = false := by cases hz : p.fz; · rfl
                                       · exact absurd (.inr (.inl hz)) e
          have hw : wholeS live p := Decidable.byContradiction fun e' => e (.inr (.inr e'))
          by_cases hs : p.st = 0
          · exact hwh (.inl (wholeB_iff.2 ⟨hf, hs, hn, hw⟩))
          · by_cases hs1 : p.st = 1
            · exact hwh (.inr (wholeB_iff.2 ⟨hf, hs1, hn, hw⟩))
            · exact e (.inl ⟨hs, hs1⟩)
        refine hrl p none ?_
        split
        · rfl
        · rw [if_pos]
          rcases hc with hc | hc | hc
          · exact .inl hc
          · exact .inr (.inl hc)
          · exact .inr (.inr (.inl hc)))
      conv => whnf
      repeat (first | (refine RunH ?_; intro w hL hB; try clear w) | (refine Both.mk ?_ ?_ <;> conv => whnf) | (refine (wholeR_fn (p, .slice na p.ns.length nc) lv live 1 _ (hns.below hL.below) (by dsimp only; omega) (hl.below hL.below)).mono fun r w hr => ?_; obtain ⟨hr, hw⟩ := hr; subst hr; replace hL := hL.call hB (Turns.of_below hw); replace hB := Nat.le_trans hB hw.size; conv => whnf) | (dsimp only; refine Br.n ?_ h1; conv => whnf) | fail)
      refine ⟨k + 1, ⟨rfl, rfl, rfl, rfl, rfl, rfl, trivial⟩, ⟨hke, hB, hnone, hL.tl⟩, (by first | omega | (dsimp only; omega))⟩
  · obtain rfl : k = ps.length := by omega
    rw [PreS.none (by rw [pvs_len]; exact hno)]
    repeat (first | (refine RunH ?_; intro w hL hB; try clear w) | (refine Both.mk ?_ ?_ <;> conv => whnf) | fail)
    exact ⟨rfl, hL.below⟩
end Go.Proofs.Ythifnfoppamkiaa
