/- Plan: the code's Pick, Load; the law's ints, great, known. Nothing is claimed here. -/
import Derived.Test.YthifnfoppamkiaaIw
namespace Go.Proofs.Ythifnfoppamkiaa
open Go.RowKit
set_option linter.unusedVariables false
set_option linter.unusedSimpArgs false
set_option maxRecDepth 100000

def zeroPC : PC := ⟨0, 0, 0, 0, 0, 0, 0⟩
set_option maxHeartbeats 8000000 in
theorem pick_fn (v lv : Value) (ps : List (PV × Value)) (live : List Bool) (n : Int) (w0 : World) (h : VolS w0 v ps) (hl : SlE w0 lv (boolC live)) :
    Fn Try.prog 14 #[v, lv, .int .i64 n] w0 fun r w' => (∃ u, r = .tuple #[u, .int .i64 (pickS (pvs ps) live n).1] ∧ SlN w' 1 u (pickS (pvs ps) live n).2.length (numC (pickS (pvs ps) live n).2)) ∧ Below w0.heap.size w0 w' := by
  obtain ⟨la, lc, rfl⟩ := hl.shape
  have hL := Sep.start Try.prog w0
  have hB := Nat.le_refl w0.heap.size
  have hfl := freeS_le (pvs ps) live []
  unfold pickS
  refine Fn.mk Try.func14 rfl (by kernel_rfl) Try.ntmps14 rfl (by rw [Try.results14]) ?_
  by_cases h1 : n < 1
  · rw [if_pos h1]
    repeat (first | (refine RunH ?_; intro w hL hB; try clear w) | (refine Both.mk ?_ ?_ <;> conv => whnf) | fail)
    exact ⟨⟨_, rfl, SlN.nil _ 1⟩, hL.below⟩
  · rw [if_neg h1]
    repeat (first | (refine RunH ?_; intro w hL hB; try clear w) | (refine Both.mk ?_ ?_ <;> conv => whnf) | fail)
    refine (loadsOf_fn _ ps _ (h.below hL.below)).mono fun r w hr => ?_
    obtain ⟨rfl, hbl⟩ := hr
    replace hL := hL.call hB (Turns.of_below hbl)
    replace hB := Nat.le_trans hB hbl.size
    conv => whnf
    repeat (first | (refine RunH ?_; intro w hL hB; try clear w) | (refine Both.mk ?_ ?_ <;> conv => whnf) | fail)
    (refine Nw.sep hL hB (fun bw w hL hB hbw => ?_); conv => whnf)
    replace hL : Sep Try.prog w0.heap.size w0 w [.blk bw (wdC (.slice none 0 0) (.slice la (boolC live).length lc) (loadS (pvs ps)) (.slice none 0 0) zeroPC) 55] := hL
    repeat (first | (refine RunH ?_; intro w hL hB; try clear w) | (refine Both.mk ?_ ?_ <;> conv => whnf) | fail)
    refine (free_fn bw _ _ _ (.slice none 0 0) (pvs ps) zeroPC live [] _ (hL.blk (i := 0) rfl) (hl.below hL.below) (SlE.nil _)).mono fun r w hr => ?_
    obtain ⟨hown, hbl⟩ := hr
    generalize freeS (pvs ps) live [] = f at *
    replace hL := hL.addRow hB hbl hown
    replace hB := Nat.le_trans hB hbl.size
    obtain ⟨fa, fc, rfl⟩ := (hL.rowN (i := 0) rfl).shape
    by_cases h2 : (f.length : Int) < n
    · rw [if_pos h2]
      conv => whnf
      repeat (first | (refine RunH ?_; intro w hL hB; try clear w) | (refine Both.mk ?_ ?_ <;> conv => whnf) | fail)
      exact ⟨⟨_, rfl, SlN.nil _ 1⟩, hL.below⟩
    · rw [if_neg h2]
      obtain ⟨k, rfl⟩ := Int.eq_ofNat_of_zero_le (show 0 ≤ n by omega)
      obtain ⟨⟨ob, rfl⟩, hfc⟩ := own_addr (hL.at (i := 0) rfl) (by omega)
      have hfm : fc ≤ maxLen := by
        rcases own_shape (hL.at (i := 0) rfl) with ⟨e, h0⟩ | ⟨g, c9, e, h1, h2⟩
        · omega
        · injection e with e1 e2 e3; omega
      conv => whnf
      repeat (first | (refine RunH ?_; intro w hL hB; try clear w) | (refine Both.mk ?_ ?_ <;> conv => whnf) | fail)
      intro n' c' q1 q2
      obtain rfl : k = n' := by omega
      conv => whnf
      repeat (first | (refine RunH ?_; intro w hL hB; try clear w) | (refine Both.mk ?_ ?_ <;> conv => whnf) | fail)
      refine ⟨⟨_, rfl, ?_⟩, hL.below⟩
      have h9 := (hL.rowN (i := 0) rfl).preN (k := k) (c' := c') (by omega) (by omega) (by omega)
      simp only [Int.toNat_natCast, List.length_take]
      rw [Nat.min_eq_left (by omega)]
      exact h9
set_option maxHeartbeats 8000000 in
theorem load_fn (v : Value) (ps : List (PV × Value)) (n : Int) (w0 : World) (h : VolS w0 v ps) : Fn Try.prog 16 #[v, .int .i64 n] w0 fun r w' => OwnN w0 r ((numS (min 64 n.toNat)).map fun s => (loadS (pvs ps) s : Int)) w' := by
  have hL := Sep.start Try.prog w0
  have hB := Nat.le_refl w0.heap.size
  have hnum : ∀ k : Nat, (numS (k + 1)).map (fun s => (loadS (pvs ps) s : Int)) = (numS k).map (fun s => (loadS (pvs ps) s : Int)) ++ [(loadS (pvs ps) (k : Int) : Int)] := fun k => by
    simp [numS, List.range_succ]
  obtain ⟨m, hm⟩ : ∃ m : Nat, m = min 64 n.toNat := ⟨_, rfl⟩
  rw [← hm]
  refine Fn.mk Try.func16 rfl (by kernel_rfl) Try.ntmps16 rfl (by rw [Try.results16]) ?_
  repeat (first | (refine RunH ?_; intro w hL hB; try clear w) | (refine Both.mk ?_ ?_ <;> conv => whnf) | fail)
  refine (loadsOf_fn _ ps _ (h.below hL.below)).mono fun r w hr => ?_
  obtain ⟨rfl, hbl⟩ := hr
  replace hL := hL.call hB (Turns.of_below hbl)
  replace hB := Nat.le_trans hB hbl.size
  generalize loadS (pvs ps) = ld at *
  conv => whnf
  (refine Nw.sep hL hB (fun b6 w hL hB hb6 => ?_); conv => whnf)
  refine St.blkW ttOk hL 0 rfl (loadC_len _) (loadC_one _) rfl (by rw [loadC_len]; rfl) hB (fun w hL hB => ?_)
  dsimp only [List.set] at hL
  conv => whnf
  repeat (first | (refine RunH ?_; intro w hL hB; try clear w) | (refine Both.mk ?_ ?_ <;> conv => whnf) | fail)
  refine V.loop (α := Nat × Value) (fun z => [(4, .slice none 0 0), (5, z.2), (6, .pointer (some ⟨b6, 0, none⟩)), (12, .int .i64 m), (13, .int .i64 z.1)])
    (fun z w' => z.1 ≤ m ∧ w0.heap.size ≤ w'.heap.size ∧ Sep Try.prog w0.heap.size w0 w' [.row 3 1 z.2 z.1 (numC ((numS z.1).map fun s => (ld s : Int))), .blk b6 (loadC ld) 52]) (fun z => m - z.1) (0, .slice none 0 0) ⟨rfl, rfl, rfl, ?_, rfl, trivial⟩ ⟨Nat.zero_le _, hB, hL.nilRow 3 1⟩ ?_
  · exact vint (by omega)
  clear hL hB
  rintro ⟨i, out⟩ w ⟨hi, hB, hL⟩
  dsimp only at *
  repeat (first | (refine RunH ?_; intro w hL hB; try clear w) | (refine Both.mk ?_ ?_ <;> conv => whnf) | fail)
  refine Br.dec (fun hlt => ?_) (fun hlt => ?_)
  · have hg := loadC_get ld (x := (i : Int)) (by omega) (by omega)
    repeat (first | (refine RunH ?_; intro w hL hB; try clear w) | (refine Both.mk ?_ ?_ <;> conv => whnf) | fail)
    intro o1 ho1
    obtain rfl : o1 = i := by omega
    conv => whnf
    refine Ld.blk ttOk rfl rfl (hL.blk (i := 1) rfl) (by simpa using hg) ?_
    conv => whnf
    repeat (first | (refine RunH ?_; intro w hL hB; try clear w) | (refine Both.mk ?_ ?_ <;> conv => whnf) | fail)
    refine Rv.buildS ttOk hL tl24 tl3 rfl rfl (by intro u hu; simp only [List.mem_singleton] at hu; subst hu; rfl) (by decide) (by decide) hB fun bo w hL hB => ?_
    conv => whnf
    refine Rv.appendS ttOk hL tl24 tl3 rfl (by decide) 1 rfl (hL.rowN (i := 0) rfl) (allOne_mem rfl) (by simp only [maxLen]; omega) (by omega) hB fun vo w hL hB => ?_
    dsimp only [List.set] at hL
    conv => whnf
    repeat (first | (refine RunH ?_; intro w hL hB; try clear w) | (refine Both.mk ?_ ?_ <;> conv => whnf) | fail)
    refine ⟨(o1 + 1, vo), ⟨rfl, rfl, rfl, rfl, rfl, trivial⟩, ⟨by omega, hB, ?_⟩, (by first | omega | (dsimp only; omega))⟩
    rw [hnum, numC_snoc]
    exact hL.tl
  · obtain rfl : i = m := by omega
    repeat (first | (refine RunH ?_; intro w hL hB; try clear w) | (refine Both.mk ?_ ?_ <;> conv => whnf) | fail)
    refine ⟨?_, hL.below⟩
    rw [List.length_map, numS_len]
    exact hL.ownR (i := 0) rfl
theorem ints_fn (u v : Value) (a b : List Int) (w0 : World) (ha : SlE w0 u (numC a)) (hb : SlE w0 v (numC b)) : Fn Try.prog 12 #[u, v] w0 fun r w' => r = .bool (decide (a = b)) ∧ Below w0.heap.size w0 w' := by
  obtain ⟨ua, uc, rfl⟩ := ha.shape
  obtain ⟨va, vc, rfl⟩ := hb.shape
  have hle := ha.le
  rw [numC_len] at ha hb hle
  rw [numC_len, numC_len]
  have hL := Sep.start Try.prog w0
  have hB := Nat.le_refl w0.heap.size
  refine Fn.mk Try.func12 rfl (by kernel_rfl) Try.ntmps12 rfl (by rw [Try.results12]) ?_
  by_cases hl : a.length = b.length
  · repeat (first | (refine RunH ?_; intro w hL hB; try clear w) | (refine Both.mk ?_ ?_ <;> conv => whnf) | fail)
    refine V.loop (α := Nat) (fun z => [(0, .slice ua a.length uc), (1, .slice va b.length vc), (5, .int .i64 z)])
      (fun z w' => z ≤ a.length ∧ a.take z = b.take z ∧ w0.heap.size ≤ w'.heap.size ∧ Sep Try.prog w0.heap.size w0 w' []) (fun z => a.length - z) 0 ⟨rfl, rfl, rfl, trivial⟩ ⟨Nat.zero_le _, rfl, hB, hL⟩ ?_
    clear hL hB
    rintro i w ⟨hi, hpre, hB, hL⟩
    repeat (first | (refine RunH ?_; intro w hL hB; try clear w) | (refine Both.mk ?_ ?_ <;> conv => whnf) | fail)
    refine Br.dec (fun hlt => ?_) (fun hlt => ?_)
    · have hia : i < a.length := by omega
      have hib : i < b.length := by omega
      have hga : a[i]? = some a[i] := List.getElem?_eq_getElem hia
      have hgb : b[i]? = some b[i] := List.getElem?_eq_getElem hib
      have hta := List.take_succ_eq_append_getElem hia
      have htb := List.take_succ_eq_append_getElem hib
      generalize a[i] = x at *
      generalize b[i] = y at *
      obtain ⟨ba, oa, rfl, _⟩ := ha.sl.toN.addr (by omega)
      obtain ⟨bb, ob, rfl, _⟩ := hb.sl.toN.addr (by omega)
      repeat (first | (refine RunK ?_; intro w hL hB; try clear w) | (refine V.quiet ttOk (fun x => x = World.drew _) mixed (by kernel_rfl) rfl ?_; replace hL := hL.drew; conv => whnf) | (refine V.tailA ttOk mixed (by decide +kernel) ?_; replace hL := hL.drew; conv => whnf) | (refine Both.mk ?_ ?_ <;> conv => whnf) | (intro w9 hw9; subst hw9; conv => whnf) | (intro o9 ho9; conv => whnf) | (refine Lq.of_row (Ld.row1 ttOk (ha.below hL.below).sl.toN.rowOf rfl rfl (k := i) (v := .int .i64 x) (numC_get hga) (by omega) rfl) ?_; conv => whnf) | (refine Lq.of_row (Ld.row1 ttOk (hb.below hL.below).sl.toN.rowOf rfl rfl (k := i) (v := .int .i64 y) (numC_get hgb) (by omega) rfl) ?_; conv => whnf) | fail)
      refine Br.dec (fun he => ?_) (fun he => ?_)
      · repeat (first | (refine RunH ?_; intro w hL hB; try clear w) | (refine Both.mk ?_ ?_ <;> conv => whnf) | fail)
        exact ⟨i + 1, ⟨rfl, rfl, rfl, trivial⟩, ⟨by omega, by rw [hta, htb, hpre, he], hB, hL⟩, (by first | omega | (dsimp only; omega))⟩
      · repeat (first | (refine RunH ?_; intro w hL hB; try clear w) | (refine Both.mk ?_ ?_ <;> conv => whnf) | fail)
        refine ⟨?_, hL.below⟩
        rw [decide_eq_false]
        rintro rfl
        rw [hga] at hgb
        exact he (Option.some.inj hgb)
    · obtain rfl : i = a.length := by omega
      repeat (first | (refine RunH ?_; intro w hL hB; try clear w) | (refine Both.mk ?_ ?_ <;> conv => whnf) | fail)
      refine ⟨?_, hL.below⟩
      rw [decide_eq_true]
      rw [List.take_length, hl, List.take_length] at hpre
      exact hpre
  · repeat (first | (refine RunH ?_; intro w hL hB; try clear w) | (refine Both.mk ?_ ?_ <;> conv => whnf) | fail)
    refine ⟨?_, hL.below⟩
    rw [decide_eq_false]
    rintro rfl
    exact hl rfl
/-- two actions that say the same -/
theorem actions_fn (a : PA) (u1 v1 u2 v2 : Value) (w0 : World) (h1 : SlE w0 u1 (numC a.keep)) (h2 : SlE w0 v1 (numC a.ns)) (h3 : SlE w0 u2 (numC a.keep)) (h4 : SlE w0 v2 (numC a.ns)) :
    Fn Try.prog 11 #[actV a u1 v1, actV a u2 v2] w0 fun r w' => r = .bool true ∧ Below w0.heap.size w0 w' := by
  obtain ⟨ua, uc, rfl⟩ := h1.shape
  obtain ⟨va, vc, rfl⟩ := h2.shape
  obtain ⟨xa, xc, rfl⟩ := h3.shape
  obtain ⟨ya, yc, rfl⟩ := h4.shape
  have hL := Sep.start Try.prog w0
  have hB := Nat.le_refl w0.heap.size
  unfold actV
  refine Fn.mk Try.func11 rfl (by kernel_rfl) Try.ntmps11 rfl (by rw [Try.results11]) ?_
  repeat (first | (refine RunH ?_; intro w hL hB; try clear w) | (refine Both.mk ?_ ?_ <;> conv => whnf) | fail)
  (refine Nw.sep hL hB (fun b2 w hL hB hb2 => ?_); conv => whnf)
  repeat (first | (refine RunH ?_; intro w hL hB; try clear w) | (refine Both.mk ?_ ?_ <;> conv => whnf) | fail)
  (refine Nw.sep hL hB (fun b3 w hL hB hb3 => ?_); conv => whnf)
  repeat (first | (refine RunH ?_; intro w hL hB; try clear w) | (refine Both.mk ?_ ?_ <;> conv => whnf) | (refine (ints_fn _ _ a.keep a.keep _ (h1.below hL.below) (h3.below hL.below)).mono fun r w hr => ?_; obtain ⟨hr, hw⟩ := hr; subst hr; replace hL := hL.call hB (Turns.of_below hw); replace hB := Nat.le_trans hB hw.size; conv => whnf) | (refine (ints_fn _ _ a.ns a.ns _ (h2.below hL.below) (h4.below hL.below)).mono fun r w hr => ?_; obtain ⟨hr, hw⟩ := hr; subst hr; replace hL := hL.call hB (Turns.of_below hw); replace hB := Nat.le_trans hB hw.size; conv => whnf) | (refine Br.dec_t rfl ?_; conv => whnf) | fail)
  exact ⟨by simp, hL.below⟩
/-- volumes and who lives, small enough -/
def greatB (l : List PV) (live : List Bool) : Bool := decide (60 < l.length) || decide (100 < live.length) || l.any fun v => decide (40 < v.ns.length)
theorem great_fn (v lv : Value) (ps : List (PV × Value)) (live : List Bool) (w0 : World) (h : SlN w0 6 v ps.length (ps.flatMap pvC)) (hn : ∀ p ∈ ps, SlE w0 p.2 (numC p.1.ns)) (hl : SlE w0 lv (boolC live)) :
    Fn Try.prog 7 #[v, lv] w0 fun r w' => r = .bool (greatB (pvs ps) live) ∧ Below w0.heap.size w0 w' := by
  obtain ⟨va, vc, rfl⟩ := h.shape
  obtain ⟨la, lc, rfl⟩ := hl.shape
  rw [boolC_len]
  have hle := h.le
  have hL := Sep.start Try.prog w0
  have hB := Nat.le_refl w0.heap.size
  unfold greatB
  rw [pvs_len]
  refine Fn.mk Try.func7 rfl (by kernel_rfl) Try.ntmps7 rfl (by rw [Try.results7]) ?_
  by_cases h1 : 60 < ps.length
  · repeat (first | (refine RunH ?_; intro w hL hB; try clear w) | (refine Both.mk ?_ ?_ <;> conv => whnf) | fail)
    exact ⟨by simp [h1], hL.below⟩
  · by_cases h2 : 100 < live.length
    · repeat (first | (refine RunH ?_; intro w hL hB; try clear w) | (refine Both.mk ?_ ?_ <;> conv => whnf) | fail)
      exact ⟨by simp [h2], hL.below⟩
    · simp only [h1, h2, decide_false, Bool.false_or]
      repeat (first | (refine RunH ?_; intro w hL hB; try clear w) | (refine Both.mk ?_ ?_ <;> conv => whnf) | fail)
      refine V.loop (α := Nat) (fun z => [(0, .slice va ps.length vc), (5, .int .i64 z)])
        (fun z w' => z ≤ ps.length ∧ ((pvs ps).take z).any (fun v => decide (40 < v.ns.length)) = false ∧ w' = w0) (fun z => ps.length - z) 0 ⟨rfl, rfl, trivial⟩ ⟨Nat.zero_le _, rfl, rfl⟩ ?_
      rintro i w ⟨hi, hpre, rfl⟩
      repeat (first | (refine RunH ?_; intro w hL hB; try clear w) | (refine Both.mk ?_ ?_ <;> conv => whnf) | fail)
      refine Br.dec (fun hlt => ?_) (fun hlt => ?_)
      · have hke : i < ps.length := by omega
        have hge : ps[i]? = some ps[i] := List.getElem?_eq_getElem hke
        have hmem := List.getElem_mem hke
        have hsn := pvs_take ps hge
        have hpt : ∀ z, pvs (ps.take z) = (pvs ps).take z := fun z => by simp [pvs, List.map_take]
        rw [hpt, hpt] at hsn
        have hpm : (ps[i]).1 ∈ pvs ps := List.mem_map_of_mem hmem
        generalize ps[i] = pv at *
        obtain ⟨p, nv⟩ := pv
        have hns := hn _ hmem
        dsimp only at hns hsn hpm
        obtain ⟨na, nc, hnv⟩ := hns.shape
        rw [numC_len] at hnv
        subst hnv
        obtain ⟨b, o, rfl, hr⟩ := h.addr (by omega)
        repeat (first | (refine RunH ?_; intro w hL hB; try clear w) | (refine Both.mk ?_ ?_ <;> conv => whnf) | fail)
        intro o' ho'
        conv => whnf
        refine Ld.rowF ttOk pvC_len 3 hr rfl rfl hge rfl (by omega) ?_
        conv => whnf
        repeat (first | (refine RunH ?_; intro w hL hB; try clear w) | (refine Both.mk ?_ ?_ <;> conv => whnf) | fail)
        refine Br.dec (fun hbr => ?_) (fun hbr => ?_)
        · repeat (first | (refine RunH ?_; intro w hL hB; try clear w) | (refine Both.mk ?_ ?_ <;> conv => whnf) | fail)
          refine ⟨?_, hL.below⟩
          rw [List.any_eq_true.2 ⟨p, hpm, by simp; omega⟩]
        · repeat (first | (refine RunH ?_; intro w hL hB; try clear w) | (refine Both.mk ?_ ?_ <;> conv => whnf) | fail)
          refine ⟨i + 1, ⟨rfl, rfl, trivial⟩, ⟨by omega, ?_, rfl⟩, (by first | omega | (dsimp only; omega))⟩
          rw [hsn, List.any_append, hpre]
          simp; omega
      · obtain rfl : i = ps.length := by omega
        repeat (first | (refine RunH ?_; intro w hL hB; try clear w) | (refine Both.mk ?_ ?_ <;> conv => whnf) | fail)
        refine ⟨?_, hL.below⟩
        rw [← pvs_len, List.take_length] at hpre
        rw [hpre]
end Go.Proofs.Ythifnfoppamkiaa
