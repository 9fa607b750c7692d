/- Plan: PlanNexts. Nothing is claimed here. -/
import Derived.Test.YthifnfoppamkiaaIz
namespace Go.Proofs.Ythifnfoppamkiaa
open Go.RowKit
set_option linter.unusedVariables false
set_option linter.unusedSimpArgs false
set_option maxRecDepth 100000

/-- a volume whose nodes lie in a row of the law's own, one place longer -/
def gv (x : PV × Nat × Nat) : Value := .slice (some ⟨x.2.1, 0, none⟩) x.1.ns.length x.2.2
def gP (x : PV × Nat × Nat) : PV × Value := (x.1, gv x)
def gR (x : PV × Nat × Nat) : Res := .row 3 1 (.slice (some ⟨x.2.1, 0, none⟩) (x.1.ns.length + 1) x.2.2) (x.1.ns.length + 1) (numC (x.1.ns ++ [99]))
theorem gR_row {w : World} {x : PV × Nat × Nat} (h : (gR x).holds Try.prog w) : SlN w 1 (.slice (some ⟨x.2.1, 0, none⟩) (x.1.ns.length + 1) x.2.2) (x.1.ns ++ [99]).length (numC (x.1.ns ++ [99])) := by
  have h1 : SlN w 1 (.slice (some ⟨x.2.1, 0, none⟩) (x.1.ns.length + 1) x.2.2) (x.1.ns.length + 1) (numC (x.1.ns ++ [99])) := SlN.of_own h
  simpa using h1
theorem gR_cap {w : World} {x : PV × Nat × Nat} (h : (gR x).holds Try.prog w) : x.1.ns.length + 1 ≤ x.2.2 := by
  have h1 : w.ownsRow 0 3 1 (.slice (some ⟨x.2.1, 0, none⟩) (x.1.ns.length + 1) x.2.2) (x.1.ns.length + 1) (numC (x.1.ns ++ [99])) := h
  exact (own_addr h1 (by omega)).2
theorem gR_sl {w : World} {x : PV × Nat × Nat} (h : (gR x).holds Try.prog w) : SlE w (gv x) (numC x.1.ns) := by
  have h1 := gR_row h
  have h2 := gR_cap h
  have h3 := h1.preN (k := x.1.ns.length) (c' := x.2.2) (by simp) (by omega) (Nat.le_refl _)
  rw [List.take_left' rfl] at h3
  exact h3.to1.e
theorem gP_vols {w : World} {G : List (PV × Nat × Nat)} {v : Value} (h1 : SlN w 6 v G.length ((G.map gP).flatMap pvC)) (h2 : ∀ x ∈ G, (gR x).holds Try.prog w) (h3 : G.length ≤ 60) (h4 : ∀ x ∈ G, x.1.ns.length ≤ 40) : VolS w v (G.map gP) :=
  ⟨by simpa using h1, by
    intro p hp
    obtain ⟨x, hx, rfl⟩ := List.mem_map.1 hp
    exact gR_sl (h2 x hx), by simpa using h3, by
    intro p hp
    obtain ⟨x, hx, rfl⟩ := List.mem_map.1 hp
    exact h4 x hx⟩
theorem gP_pvs (G : List (PV × Nat × Nat)) : pvs (G.map gP) = G.map (·.1) := by simp [pvs, gP, Function.comp_def]
/-- what came back, action or none -/
theorem ActS.any {w0 w : World} {o : Option PA} {r : Value} (h : ActS w0 o r w) : ∃ (a : PA) (b : Bool) (ka : Option Addr) (kc : Nat) (na : Option Addr) (nc : Nat), r = .tuple #[actV a (.slice ka a.keep.length kc) (.slice na a.ns.length nc), .bool b] ∧ (o = if b then some a else none) ∧ (b = false → a = ⟨0, 0, 0, [], []⟩) ∧
    Sep Try.prog w0.heap.size w0 w [.row 3 1 (.slice ka a.keep.length kc) a.keep.length (numC a.keep), .row 3 1 (.slice na a.ns.length nc) a.ns.length (numC a.ns)] := by
  rcases h.cases with ⟨rfl, rfl, hb⟩ | ⟨a, ka, kc, na, nc, rfl, rfl, hS⟩
  · refine ⟨⟨0, 0, 0, [], []⟩, false, none, 0, none, 0, rfl, rfl, fun _ => rfl, ?_⟩
    have h1 : Sep Try.prog w0.heap.size w0 w [] := ⟨hb, by simp, by simp, by simp⟩
    exact (h1.nilRow 3 1).nilRow 3 1
  · exact ⟨a, true, ka, kc, na, nc, rfl, rfl, fun e => by (cases e), hS⟩
set_option maxHeartbeats 16000000 in
theorem planNexts_fn (v lv sv : Value) (ps : List (PV × Value)) (live : List Bool) (ss : List Int) (c : PC) (w0 : World) (h : SlN w0 6 v ps.length (ps.flatMap pvC)) (hn : ∀ p ∈ ps, SlE w0 p.2 (numC p.1.ns)) (hl : SlE w0 lv (boolC live)) (hs : SlE w0 sv (numC ss)) (hcm : c.cp ≤ 9223372036854775807) :
    Fn Try.prog 3 #[v, lv, sv, cfV c] w0 fun r w' => r = .bool true ∧ Below w0.heap.size w0 w' := by
  obtain ⟨va, vc, rfl⟩ := h.shape
  have hL := Sep.start Try.prog w0
  have hB := Nat.le_refl w0.heap.size
  unfold cfV
  refine Fn.mk Try.func3 rfl (by kernel_rfl) Try.ntmps3 rfl (by rw [Try.results3]) ?_
  repeat (first | (refine RunH ?_; intro w hL hB; try clear w) | (refine Both.mk ?_ ?_ <;> conv => whnf) | fail)
  (refine Nw.sep hL hB (fun b7 w hL hB hb7 => ?_); conv => whnf)
  repeat (first | (refine RunH ?_; intro w hL hB; try clear w) | (refine Both.mk ?_ ?_ <;> conv => whnf) | fail)
  refine (great_fn _ lv ps live _ (h.below hL.below) (fun p hp => (hn p hp).below hL.below) (hl.below hL.below)).mono fun r w hr => ?_
  obtain ⟨rfl, hw⟩ := hr
  replace hL := hL.call hB (Turns.of_below hw)
  replace hB := Nat.le_trans hB hw.size
  cases hg : greatB (pvs ps) live
  case true =>
    conv => whnf
    repeat (first | (refine RunH ?_; intro w hL hB; try clear w) | (refine Both.mk ?_ ?_ <;> conv => whnf) | (refine (known_fn _).mono fun r w hr => ?_; obtain ⟨hr, hw⟩ := hr; subst hr; replace hL := hL.call hB (Turns.of_below hw); replace hB := Nat.le_trans hB hw.size; conv => whnf) | fail)
    exact ⟨rfl, hL.below⟩
  obtain ⟨hV, hll⟩ := VolS.of h hn hg
  have hfew := hV.few
  conv => whnf
  repeat (first | (refine RunH ?_; intro w hL hB; try clear w) | (refine Both.mk ?_ ?_ <;> conv => whnf) | fail)
  refine V.loop (α := Nat × Value × List (PV × Nat × Nat)) (fun z => [(0, .slice va ps.length vc), (1, lv), (2, sv), (7, .pointer (some ⟨b7, 0, none⟩)), (9, z.2.1), (10, .int .i64 z.1)])
    (fun z w' => z.1 ≤ ps.length ∧ w0.heap.size ≤ w'.heap.size ∧ z.2.2.map (·.1) = pvs (ps.take z.1) ∧ Sep Try.prog w0.heap.size w0 w' (.row 30 6 z.2.1 z.2.2.length ((z.2.2.map gP).flatMap pvC) :: .blk b7 (cfC c) 26 :: (z.2.2.map gR).reverse)) (fun z => ps.length - z.1) (0, .slice none 0 0, []) ⟨rfl, rfl, rfl, rfl, rfl, rfl, trivial⟩ ⟨Nat.zero_le _, hB, rfl, hL.nilRow 30 6⟩ ?_
  clear hL hB
  rintro ⟨z, out, G⟩ w ⟨hz, hB, hG, hL⟩
  dsimp only at *
  have hGl : G.length = z := by
    have := congrArg List.length hG
    simp only [List.length_map, pvs_len, List.length_take] at this
    omega
  repeat (first | (refine RunH ?_; intro w hL hB; try clear w) | (refine Both.mk ?_ ?_ <;> conv => whnf) | fail)
  refine Br.dec (fun hlt => ?_) (fun hlt => ?_)
  · have hke : z < ps.length := by omega
    have hge : ps[z]? = some ps[z] := List.getElem?_eq_getElem hke
    have hmem := List.getElem_mem hke
    have hsn := pvs_take ps hge
    generalize hev : ps[z] = pv at *
    obtain ⟨p, nv⟩ := pv
    have hns := hn _ hmem
    have hten := hV.ten _ hmem
    dsimp only at hns hten hsn
    obtain ⟨na, nc, hnv⟩ := hns.shape
    rw [numC_len] at hnv
    subst hnv
    obtain ⟨b, o, rfl, _⟩ := h.addr (by omega)
    repeat (first | (refine RunH ?_; intro w hL hB; try clear w) | (refine Both.mk ?_ ?_ <;> conv => whnf) | fail)
    intro o1 ho1
    conv => whnf
    refine Ld.rowN ttOk pvC_len (h.below hL.below).rowOf rfl rfl rfl hge (by omega) ?_
    conv => whnf
    (refine Nw.sep hL hB (fun b11 w hL hB hb11 => ?_); conv => whnf)
    repeat (first | (refine RunH ?_; intro w hL hB; try clear w) | (refine Both.mk ?_ ?_ <;> conv => whnf) | fail)
    dsimp only [pvC, cellsL, overL, splice] at hL
    refine V.join (α := Nat × Nat) (fun x => [(0, .slice (some ⟨b, o, none⟩) ps.length vc), (1, lv), (2, sv), (7, .pointer (some ⟨b7, 0, none⟩)), (9, out), (10, .int .i64 z), (11, .pointer (some ⟨b11, 0, none⟩))])
      (fun x w' => w0.heap.size ≤ w'.heap.size ∧ Sep Try.prog w0.heap.size w0 w' (gR (p, x) :: .blk b11 (pvC (gP (p, x))) 30 :: .row 30 6 out G.length ((G.map gP).flatMap pvC) :: .blk b7 (cfC c) 26 :: (G.map gR).reverse)) ?_ ?_
    · have fin : ∀ {w : World} {gb gc : Nat}, Sep Try.prog w0.heap.size w0 w (.row 3 1 (.slice (some ⟨gb, 0, none⟩) (0 + (numC p.ns).length + 1) gc) (0 + (numC p.ns).length + 1) (([] : List Value).flatMap cellsL ++ numC p.ns ++ [Value.int .i64 99].flatMap cellsL) :: .blk b11 (pvC (gP (p, gb, gc))) 30 :: .row 30 6 out G.length ((G.map gP).flatMap pvC) :: .blk b7 (cfC c) 26 :: (G.map gR).reverse) → Sep Try.prog w0.heap.size w0 w (gR (p, gb, gc) :: .blk b11 (pvC (gP (p, gb, gc))) 30 :: .row 30 6 out G.length ((G.map gP).flatMap pvC) :: .blk b7 (cfC c) 26 :: (G.map gR).reverse) := fun hL => by
        have e1 : 0 + (numC p.ns).length + 1 = p.ns.length + 1 := by rw [numC_len]; omega
        have e2 : ([] : List Value).flatMap cellsL ++ numC p.ns ++ [Value.int .i64 99].flatMap cellsL = numC (p.ns ++ [99]) := by simp [numC, cellsL]
        rw [e1, e2] at hL
        exact hL
      have hnl9 := numC_len p.ns
      have ones : ∀ u ∈ [Value.int .i64 99], (cellsL u).length = 1 := by intro u hu; simp only [List.mem_singleton] at hu; subst hu; rfl
      have hk1 : 0 + (numC p.ns).length ≤ maxLen := by rw [numC_len]; simp only [maxLen]; omega
      have hk2 : (0 + (numC p.ns).length) * 8 ≤ 140737488355328 := by rw [numC_len]; omega
      have hk3 : 0 + (numC p.ns).length + 1 ≤ maxLen := by rw [numC_len]; simp only [maxLen]; omega
      have hk4 : (0 + (numC p.ns).length + 1) * 8 ≤ 140737488355328 := by rw [numC_len]; omega
      refine V.treeP ttOk hL 0 (.q 1 (.q 6 (.alt 0 (.alt 2 (.alt 3 (.alt 4 (.alt 5 (.alt 7 (.q 8 (.q 9 (.q 10 (.alt 11 .nil .stop)))) .stop) (.alt 7 (.q 8 (.alt 5 (.q 9 (.q 10 (.alt 11 .nil .stop))) .stop)) .stop)) (.alt 7 (.q 8 (.alt 4 (.alt 5 (.q 9 (.q 10 (.alt 11 .nil .stop))) .stop) .stop)) .stop)) (.alt 4 (.alt 3 (.alt 5 (.alt 7 (.q 8 (.q 9 (.q 10 (.alt 11 .nil .stop)))) .stop) (.alt 7 (.q 8 (.alt 5 (.q 9 (.q 10 (.alt 11 .nil .stop))) .stop)) .stop)) (.alt 7 (.q 8 (.alt 3 (.alt 5 (.q 9 (.q 10 (.alt 11 .nil .stop))) .stop) .stop)) .stop)) (.alt 7 (.q 8 (.alt 3 (.alt 4 (.alt 5 (.q 9 (.q 10 (.alt 11 .nil .stop))) .stop) .stop) (.alt 4 (.alt 3 (.alt 5 (.q 9 (.q 10 (.alt 11 .nil .stop))) .stop) .stop) .stop))) .stop))) (.alt 4 (.alt 2 (.alt 3 (.alt 5 (.alt 7 (.q 8 (.q 9 (.q 10 (.alt 11 .nil .stop)))) .stop) (.alt 7 (.q 8 (.alt 5 (.q 9 (.q 10 (.alt 11 .nil .stop))) .stop)) .stop)) (.alt 7 (.q 8 (.alt 3 (.alt 5 (.q 9 (.q 10 (.alt 11 .nil .stop))) .stop) .stop)) .stop)) (.alt 7 (.q 8 (.alt 2 (.alt 3 (.alt 5 (.q 9 (.q 10 (.alt 11 .nil .stop))) .stop) .stop) .stop)) .stop)) (.alt 7 (.q 8 (.alt 2 (.alt 3 (.alt 4 (.alt 5 (.q 9 (.q 10 (.alt 11 .nil .stop))) .stop) .stop) (.alt 4 (.alt 3 (.alt 5 (.q 9 (.q 10 (.alt 11 .nil .stop))) .stop) .stop) .stop)) (.alt 4 (.alt 2 (.alt 3 (.alt 5 (.q 9 (.q 10 (.alt 11 .nil .stop))) .stop) .stop) .stop) .stop))) .stop))) (.alt 2 (.alt 0 (.alt 3 (.alt 4 (.alt 5 (.alt 7 (.q 8 (.q 9 (.q 10 (.alt 11 .nil .stop)))) .stop) (.alt 7 (.q 8 (.alt 5 (.q 9 (.q 10 (.alt 11 .nil .stop))) .stop)) .stop)) (.alt 7 (.q 8 (.alt 4 (.alt 5 (.q 9 (.q 10 (.alt 11 .nil .stop))) .stop) .stop)) .stop)) (.alt 4 (.alt 3 (.alt 5 (.alt 7 (.q 8 (.q 9 (.q 10 (.alt 11 .nil .stop)))) .stop) (.alt 7 (.q 8 (.alt 5 (.q 9 (.q 10 (.alt 11 .nil .stop))) .stop)) .stop)) (.alt 7 (.q 8 (.alt 3 (.alt 5 (.q 9 (.q 10 (.alt 11 .nil .stop))) .stop) .stop)) .stop)) (.alt 7 (.q 8 (.alt 3 (.alt 4 (.alt 5 (.q 9 (.q 10 (.alt 11 .nil .stop))) .stop) .stop) (.alt 4 (.alt 3 (.alt 5 (.q 9 (.q 10 (.alt 11 .nil .stop))) .stop) .stop) .stop))) .stop))) (.alt 4 (.alt 0 (.alt 3 (.alt 5 (.alt 7 (.q 8 (.q 9 (.q 10 (.alt 11 .nil .stop)))) .stop) (.alt 7 (.q 8 (.alt 5 (.q 9 (.q 10 (.alt 11 .nil .stop))) .stop)) .stop)) (.alt 7 (.q 8 (.alt 3 (.alt 5 (.q 9 (.q 10 (.alt 11 .nil .stop))) .stop) .stop)) .stop)) (.alt 7 (.q 8 (.alt 0 (.alt 3 (.alt 5 (.q 9 (.q 10 (.alt 11 .nil .stop))) .stop) .stop) .stop)) .stop)) (.alt 7 (.q 8 (.alt 0 (.alt 3 (.alt 4 (.alt 5 (.q 9 (.q 10 (.alt 11 .nil .stop))) .stop) .stop) (.alt 4 (.alt 3 (.alt 5 (.q 9 (.q 10 (.alt 11 .nil .stop))) .stop) .stop) .stop)) (.alt 4 (.alt 0 (.alt 3 (.alt 5 (.q 9 (.q 10 (.alt 11 .nil .stop))) .stop) .stop) .stop) .stop))) .stop))) (.alt 4 (.alt 0 (.alt 2 (.alt 3 (.alt 5 (.alt 7 (.q 8 (.q 9 (.q 10 (.alt 11 .nil .stop)))) .stop) (.alt 7 (.q 8 (.alt 5 (.q 9 (.q 10 (.alt 11 .nil .stop))) .stop)) .stop)) (.alt 7 (.q 8 (.alt 3 (.alt 5 (.q 9 (.q 10 (.alt 11 .nil .stop))) .stop) .stop)) .stop)) (.alt 7 (.q 8 (.alt 2 (.alt 3 (.alt 5 (.q 9 (.q 10 (.alt 11 .nil .stop))) .stop) .stop) .stop)) .stop)) (.alt 2 (.alt 0 (.alt 3 (.alt 5 (.alt 7 (.q 8 (.q 9 (.q 10 (.alt 11 .nil .stop)))) .stop) (.alt 7 (.q 8 (.alt 5 (.q 9 (.q 10 (.alt 11 .nil .stop))) .stop)) .stop)) (.alt 7 (.q 8 (.alt 3 (.alt 5 (.q 9 (.q 10 (.alt 11 .nil .stop))) .stop) .stop)) .stop)) (.alt 7 (.q 8 (.alt 0 (.alt 3 (.alt 5 (.q 9 (.q 10 (.alt 11 .nil .stop))) .stop) .stop) .stop)) .stop)) (.alt 7 (.q 8 (.alt 0 (.alt 2 (.alt 3 (.alt 5 (.q 9 (.q 10 (.alt 11 .nil .stop))) .stop) .stop) .stop) (.alt 2 (.alt 0 (.alt 3 (.alt 5 (.q 9 (.q 10 (.alt 11 .nil .stop))) .stop) .stop) .stop) .stop))) .stop))) (.alt 7 (.q 8 (.alt 0 (.alt 2 (.alt 3 (.alt 4 (.alt 5 (.q 9 (.q 10 (.alt 11 .nil .stop))) .stop) .stop) (.alt 4 (.alt 3 (.alt 5 (.q 9 (.q 10 (.alt 11 .nil .stop))) .stop) .stop) .stop)) (.alt 4 (.alt 2 (.alt 3 (.alt 5 (.q 9 (.q 10 (.alt 11 .nil .stop))) .stop) .stop) .stop) .stop)) (.alt 2 (.alt 0 (.alt 3 (.alt 4 (.alt 5 (.q 9 (.q 10 (.alt 11 .nil .stop))) .stop) .stop) (.alt 4 (.alt 3 (.alt 5 (.q 9 (.q 10 (.alt 11 .nil .stop))) .stop) .stop) .stop)) (.alt 4 (.alt 0 (.alt 3 (.alt 5 (.q 9 (.q 10 (.alt 11 .nil .stop))) .stop) .stop) .stop) .stop)) (.alt 4 (.alt 0 (.alt 2 (.alt 3 (.alt 5 (.q 9 (.q 10 (.alt 11 .nil .stop))) .stop) .stop) .stop) (.alt 2 (.alt 0 (.alt 3 (.alt 5 (.q 9 (.q 10 (.alt 11 .nil .stop))) .stop) .stop) .stop) .stop)) .stop)))) .stop)))))) mixed (by decide +kernel) ?_
      replace hL := hL.drew
      conv => whnf
      repeat (first | (refine RunH ?_; intro w hL hB; try clear w) | (refine Both.mk ?_ ?_ <;> conv => whnf) | fail)
      refine Rv.buildS (len := 0) ttOk hL tl24 tl3 rfl rfl (by simp [cellsL]) (by decide) (by decide) hB fun bz w hL hB => ?_
      conv => whnf
      repeat (first | (refine RunH ?_; intro w hL hB; try clear w) | (refine Both.mk ?_ ?_ <;> conv => whnf) | fail)
      refine Rv.appendS ttOk hL tl24 tl3 rfl (by decide) 0 rfl ((hns.below hL.below).sl.toN) (numC_one _) hk1 hk2 hB fun vo w hL hB => ?_
      dsimp only [List.set] at hL
      conv => whnf
      repeat (first | (refine RunH ?_; intro w hL hB; try clear w) | (refine Both.mk ?_ ?_ <;> conv => whnf) | fail)
      refine Rv.buildS (len := 1) ttOk hL tl24 tl3 rfl rfl ones (by decide) (by decide) hB fun b99 w hL hB => ?_
      conv => whnf
      repeat (first | (refine RunH ?_; intro w hL hB; try clear w) | (refine Both.mk ?_ ?_ <;> conv => whnf) | fail)
      refine Rv.appendS ttOk hL tl24 tl3 rfl (by decide) 1 rfl (hL.rowN (i := 0) rfl) (allOne_mem rfl) hk3 hk4 hB fun vo w hL hB => ?_
      dsimp only [List.set] at hL
      replace hL := hL.pop 0
      dsimp only [List.eraseIdx] at hL
      obtain ⟨ga, gc, rfl⟩ := (hL.rowN (i := 0) rfl).shape
      obtain ⟨⟨gb, rfl⟩, hgc⟩ := own_addr (hL.at (i := 0) rfl) (by omega)
      conv => whnf
      repeat (first | (refine RunH ?_; intro w hL hB; try clear w) | (refine Both.mk ?_ ?_ <;> conv => whnf) | fail)
      intro n' c' q1 q2
      obtain rfl : p.ns.length = n' := by omega
      obtain rfl : gc = c' := by omega
      conv => whnf
      repeat (first | (refine RunH ?_; intro w hL hB; try clear w) | (refine Both.mk ?_ ?_ <;> conv => whnf) | fail)
      exact ⟨(gb, gc), ⟨rfl, rfl, rfl, rfl, rfl, rfl, rfl, trivial⟩, hB, fin hL⟩
      repeat (first | (refine RunH ?_; intro w hL hB; try clear w) | (refine Both.mk ?_ ?_ <;> conv => whnf) | fail)
      refine Rv.appendS ttOk hL tl24 tl3 rfl (by decide) 1 rfl (hL.rowN (i := 0) rfl) (allOne_mem rfl) hk3 hk4 hB fun vo w hL hB => ?_
      dsimp only [List.set] at hL
      replace hL := hL.pop 0
      dsimp only [List.eraseIdx] at hL
      obtain ⟨ga, gc, rfl⟩ := (hL.rowN (i := 0) rfl).shape
      obtain ⟨⟨gb, rfl⟩, hgc⟩ := own_addr (hL.at (i := 0) rfl) (by omega)
      conv => whnf
      repeat (first | (refine RunH ?_; intro w hL hB; try clear w) | (refine Both.mk ?_ ?_ <;> conv => whnf) | fail)
      intro n' c' q1 q2
      obtain rfl : p.ns.length = n' := by omega
      obtain rfl : gc = c' := by omega
      conv => whnf
      repeat (first | (refine RunH ?_; intro w hL hB; try clear w) | (refine Both.mk ?_ ?_ <;> conv => whnf) | fail)
      exact ⟨(gb, gc), ⟨rfl, rfl, rfl, rfl, rfl, rfl, rfl, trivial⟩, hB, fin hL⟩
      repeat (first | (refine RunH ?_; intro w hL hB; try clear w) | (refine Both.mk ?_ ?_ <;> conv => whnf) | fail)
      refine Rv.buildS (len := 1) ttOk hL tl24 tl3 rfl rfl ones (by decide) (by decide) hB fun b99 w hL hB => ?_
      conv => whnf
      repeat (first | (refine RunH ?_; intro w hL hB; try clear w) | (refine Both.mk ?_ ?_ <;> conv => whnf) | fail)
      refine Rv.appendS ttOk hL tl24 tl3 rfl (by decide) 1 rfl (hL.rowN (i := 0) rfl) (allOne_mem rfl) hk3 hk4 hB fun vo w hL hB => ?_
      dsimp only [List.set] at hL
      replace hL := hL.pop 0
      dsimp only [List.eraseIdx] at hL
      obtain ⟨ga, gc, rfl⟩ := (hL.rowN (i := 0) rfl).shape
      obtain ⟨⟨gb, rfl⟩, hgc⟩ := own_addr (hL.at (i := 0) rfl) (by omega)
      conv => whnf
      repeat (first | (refine RunH ?_; intro w hL hB; try clear w) | (refine Both.mk ?_ ?_ <;> conv => whnf) | fail)
      intro n' c' q1 q2
      obtain rfl : p.ns.length = n' := by omega
      obtain rfl : gc = c' := by omega
      conv => whnf
      repeat (first | (refine RunH ?_; intro w hL hB; try clear w) | (refine Both.mk ?_ ?_ <;> conv => whnf) | fail)
      exact ⟨(gb, gc), ⟨rfl, rfl, rfl, rfl, rfl, rfl, rfl, trivial⟩, hB, fin hL⟩
      repeat (first | (refine RunH ?_; intro w hL hB; try clear w) | (refine Both.mk ?_ ?_ <;> conv => whnf) | fail)
      refine Rv.buildS (len := 1) ttOk hL tl24 tl3 rfl rfl ones (by decide) (by decide) hB fun b99 w hL hB => ?_
      conv => whnf
      repeat (first | (refine RunH ?_; intro w hL hB; try clear w) | (refine Both.mk ?_ ?_ <;> conv => whnf) | fail)
      refine Rv.appendS ttOk hL tl24 tl3 rfl (by decide) 1 rfl ((hns.below hL.below).sl.toN) (numC_one _) hk1 hk2 hB fun vo w hL hB => ?_
      dsimp only [List.set] at hL
      conv => whnf
      repeat (first | (refine RunH ?_; intro w hL hB; try clear w) | (refine Both.mk ?_ ?_ <;> conv => whnf) | fail)
      refine Rv.appendS ttOk hL tl24 tl3 rfl (by decide) 1 rfl (hL.rowN (i := 0) rfl) (allOne_mem rfl) hk3 hk4 hB fun vo w hL hB => ?_
      dsimp only [List.set] at hL
      replace hL := hL.pop 0
      dsimp only [List.eraseIdx] at hL
      obtain ⟨ga, gc, rfl⟩ := (hL.rowN (i := 0) rfl).shape
      obtain ⟨⟨gb, rfl⟩, hgc⟩ := own_addr (hL.at (i := 0) rfl) (by omega)
      conv => whnf
      repeat (first | (refine RunH ?_; intro w hL hB; try clear w) | (refine Both.mk ?_ ?_ <;> conv => whnf) | fail)
      intro n' c' q1 q2
      obtain rfl : p.ns.length = n' := by omega
      obtain rfl : gc = c' := by omega
      conv => whnf
      repeat (first | (refine RunH ?_; intro w hL hB; try clear w) | (refine Both.mk ?_ ?_ <;> conv => whnf) | fail)
      exact ⟨(gb, gc), ⟨rfl, rfl, rfl, rfl, rfl, rfl, rfl, trivial⟩, hB, fin hL⟩
      repeat (first | (refine RunH ?_; intro w hL hB; try clear w) | (refine Both.mk ?_ ?_ <;> conv => whnf) | fail)
      refine Rv.appendS ttOk hL tl24 tl3 rfl (by decide) 1 rfl (hL.rowN (i := 0) rfl) (allOne_mem rfl) hk3 hk4 hB fun vo w hL hB => ?_
      dsimp only [List.set] at hL
      replace hL := hL.pop 0
      dsimp only [List.eraseIdx] at hL
      obtain ⟨ga, gc, rfl⟩ := (hL.rowN (i := 0) rfl).shape
      obtain ⟨⟨gb, rfl⟩, hgc⟩ := own_addr (hL.at (i := 0) rfl) (by omega)
      conv => whnf
      repeat (first | (refine RunH ?_; intro w hL hB; try clear w) | (refine Both.mk ?_ ?_ <;> conv => whnf) | fail)
      intro n' c' q1 q2
      obtain rfl : p.ns.length = n' := by omega
      obtain rfl : gc = c' := by omega
      conv => whnf
      repeat (first | (refine RunH ?_; intro w hL hB; try clear w) | (refine Both.mk ?_ ?_ <;> conv => whnf) | fail)
      exact ⟨(gb, gc), ⟨rfl, rfl, rfl, rfl, rfl, rfl, rfl, trivial⟩, hB, fin hL⟩
      repeat (first | (refine RunH ?_; intro w hL hB; try clear w) | (refine Both.mk ?_ ?_ <;> conv => whnf) | fail)
      refine Rv.appendS ttOk hL tl24 tl3 rfl (by decide) 1 rfl ((hns.below hL.below).sl.toN) (numC_one _) hk1 hk2 hB fun vo w hL hB => ?_
      dsimp only [List.set] at hL
      conv => whnf
      repeat (first | (refine RunH ?_; intro w hL hB; try clear w) | (refine Both.mk ?_ ?_ <;> conv => whnf) | fail)
      refine Rv.appendS ttOk hL tl24 tl3 rfl (by decide) 1 rfl (hL.rowN (i := 0) rfl) (allOne_mem rfl) hk3 hk4 hB fun vo w hL hB => ?_
      dsimp only [List.set] at hL
      replace hL := hL.pop 0
      dsimp only [List.eraseIdx] at hL
      obtain ⟨ga, gc, rfl⟩ := (hL.rowN (i := 0) rfl).shape
      obtain ⟨⟨gb, rfl⟩, hgc⟩ := own_addr (hL.at (i := 0) rfl) (by omega)
      conv => whnf
      repeat (first | (refine RunH ?_; intro w hL hB; try clear w) | (refine Both.mk ?_ ?_ <;> conv => whnf) | fail)
      intro n' c' q1 q2
      obtain rfl : p.ns.length = n' := by omega
      obtain rfl : gc = c' := by omega
      conv => whnf
      repeat (first | (refine RunH ?_; intro w hL hB; try clear w) | (refine Both.mk ?_ ?_ <;> conv => whnf) | fail)
      exact ⟨(gb, gc), ⟨rfl, rfl, rfl, rfl, rfl, rfl, rfl, trivial⟩, hB, fin hL⟩
      repeat (first | (refine RunH ?_; intro w hL hB; try clear w) | (refine Both.mk ?_ ?_ <;> conv => whnf) | fail)
      refine Rv.appendS ttOk hL tl24 tl3 rfl (by decide) 0 rfl ((hns.below hL.below).sl.toN) (numC_one _) hk1 hk2 hB fun vo w hL hB => ?_
      dsimp only [List.set] at hL
      conv => whnf
      repeat (first | (refine RunH ?_; intro w hL hB; try clear w) | (refine Both.mk ?_ ?_ <;> conv => whnf) | fail)
      refine Rv.buildS (len := 1) ttOk hL tl24 tl3 rfl rfl ones (by decide) (by decide) hB fun b99 w hL hB => ?_
      conv => whnf
      repeat (first | (refine RunH ?_; intro w hL hB; try clear w) | (refine Both.mk ?_ ?_ <;> conv => whnf) | fail)
      refine Rv.appendS ttOk hL tl24 tl3 rfl (by decide) 1 rfl (hL.rowN (i := 0) rfl) (allOne_mem rfl) hk3 hk4 hB fun vo w hL hB => ?_
      dsimp only [List.set] at hL
      replace hL := hL.pop 0
      dsimp only [List.eraseIdx] at hL
      obtain ⟨ga, gc, rfl⟩ := (hL.rowN (i := 0) rfl).shape
      obtain ⟨⟨gb, rfl⟩, hgc⟩ := own_addr (hL.at (i := 0) rfl) (by omega)
      conv => whnf
      repeat (first | (refine RunH ?_; intro w hL hB; try clear w) | (refine Both.mk ?_ ?_ <;> conv => whnf) | fail)
      intro n' c' q1 q2
      obtain rfl : p.ns.length = n' := by omega
      obtain rfl : gc = c' := by omega
      conv => whnf
      repeat (first | (refine RunH ?_; intro w hL hB; try clear w) | (refine Both.mk ?_ ?_ <;> conv => whnf) | fail)
      exact ⟨(gb, gc), ⟨rfl, rfl, rfl, rfl, rfl, rfl, rfl, trivial⟩, hB, fin hL⟩
      repeat (first | (refine RunH ?_; intro w hL hB; try clear w) | (refine Both.mk ?_ ?_ <;> conv => whnf) | fail)
      refine Rv.buildS (len := 1) ttOk hL tl24 tl3 rfl rfl ones (by decide) (by decide) hB fun b99 w hL hB => ?_
      conv => whnf
      repeat (first | (refine RunH ?_; intro w hL hB; try clear w) | (refine Both.mk ?_ ?_ <;> conv => whnf) | fail)
      refine Rv.appendS ttOk hL tl24 tl3 rfl (by decide) 1 rfl ((hns.below hL.below).sl.toN) (numC_one _) hk1 hk2 hB fun vo w hL hB => ?_
      dsimp only [List.set] at hL
      conv => whnf
      repeat (first | (refine RunH ?_; intro w hL hB; try clear w) | (refine Both.mk ?_ ?_ <;> conv => whnf) | fail)
      refine Rv.appendS ttOk hL tl24 tl3 rfl (by decide) 1 rfl (hL.rowN (i := 0) rfl) (allOne_mem rfl) hk3 hk4 hB fun vo w hL hB => ?_
      dsimp only [List.set] at hL
      replace hL := hL.pop 0
      dsimp only [List.eraseIdx] at hL
      obtain ⟨ga, gc, rfl⟩ := (hL.rowN (i := 0) rfl).shape
      obtain ⟨⟨gb, rfl⟩, hgc⟩ := own_addr (hL.at (i := 0) rfl) (by omega)
      conv => whnf
      repeat (first | (refine RunH ?_; intro w hL hB; try clear w) | (refine Both.mk ?_ ?_ <;> conv => whnf) | fail)
      intro n' c' q1 q2
      obtain rfl : p.ns.length = n' := by omega
      obtain rfl : gc = c' := by omega
      conv => whnf
      repeat (first | (refine RunH ?_; intro w hL hB; try clear w) | (refine Both.mk ?_ ?_ <;> conv => whnf) | fail)
      exact ⟨(gb, gc), ⟨rfl, rfl, rfl, rfl, rfl, rfl, rfl, trivial⟩, hB, fin hL⟩
      repeat (first | (refine RunH ?_; intro w hL hB; try clear w) | (refine Both.mk ?_ ?_ <;> conv => whnf) | fail)
      refine Rv.buildS (len := 1) ttOk hL tl24 tl3 rfl rfl ones (by decide) (by decide) hB fun b99 w hL hB => ?_
      conv => whnf
      repeat (first | (refine RunH ?_; intro w hL hB; try clear w) | (refine Both.mk ?_ ?_ <;> conv => whnf) | fail)
      refine Rv.appendS ttOk hL tl24 tl3 rfl (by decide) 1 rfl ((hns.below hL.below).sl.toN) (numC_one _) hk1 hk2 hB fun vo w hL hB => ?_
      dsimp only [List.set] at hL
      conv => whnf
      repeat (first | (refine RunH ?_; intro w hL hB; try clear w) | (refine Both.mk ?_ ?_ <;> conv => whnf) | fail)
      refine Rv.appendS ttOk hL tl24 tl3 rfl (by decide) 1 rfl (hL.rowN (i := 0) rfl) (allOne_mem rfl) hk3 hk4 hB fun vo w hL hB => ?_
      dsimp only [List.set] at hL
      replace hL := hL.pop 0
      dsimp only [List.eraseIdx] at hL
      obtain ⟨ga, gc, rfl⟩ := (hL.rowN (i := 0) rfl).shape
      obtain ⟨⟨gb, rfl⟩, hgc⟩ := own_addr (hL.at (i := 0) rfl) (by omega)
      conv => whnf
      repeat (first | (refine RunH ?_; intro w hL hB; try clear w) | (refine Both.mk ?_ ?_ <;> conv => whnf) | fail)
      intro n' c' q1 q2
      obtain rfl : p.ns.length = n' := by omega
      obtain rfl : gc = c' := by omega
      conv => whnf
      repeat (first | (refine RunH ?_; intro w hL hB; try clear w) | (refine Both.mk ?_ ?_ <;> conv => whnf) | fail)
      exact ⟨(gb, gc), ⟨rfl, rfl, rfl, rfl, rfl, rfl, rfl, trivial⟩, hB, fin hL⟩
      repeat (first | (refine RunH ?_; intro w hL hB; try clear w) | (refine Both.mk ?_ ?_ <;> conv => whnf) | fail)
      refine Rv.appendS ttOk hL tl24 tl3 rfl (by decide) 1 rfl (hL.rowN (i := 0) rfl) (allOne_mem rfl) hk3 hk4 hB fun vo w hL hB => ?_
      dsimp only [List.set] at hL
      replace hL := hL.pop 0
      dsimp only [List.eraseIdx] at hL
      obtain ⟨ga, gc, rfl⟩ := (hL.rowN (i := 0) rfl).shape
      obtain ⟨⟨gb, rfl⟩, hgc⟩ := own_addr (hL.at (i := 0) rfl) (by omega)
      conv => whnf
      repeat (first | (refine RunH ?_; intro w hL hB; try clear w) | (refine Both.mk ?_ ?_ <;> conv => whnf) | fail)
      intro n' c' q1 q2
      obtain rfl : p.ns.length = n' := by omega
      obtain rfl : gc = c' := by omega
      conv => whnf
      repeat (first | (refine RunH ?_; intro w hL hB; try clear w) | (refine Both.mk ?_ ?_ <;> conv => whnf) | fail)
      exact ⟨(gb, gc), ⟨rfl, rfl, rfl, rfl, rfl, rfl, rfl, trivial⟩, hB, fin hL⟩
      repeat (first | (refine RunH ?_; intro w hL hB; try clear w) | (refine Both.mk ?_ ?_ <;> conv => whnf) | fail)
      refine Rv.appendS ttOk hL tl24 tl3 rfl (by decide) 1 rfl ((hns.below hL.below).sl.toN) (numC_one _) hk1 hk2 hB fun vo w hL hB => ?_
      dsimp only [List.set] at hL
      conv => whnf
      repeat (first | (refine RunH ?_; intro w hL hB; try clear w) | (refine Both.mk ?_ ?_ <;> conv => whnf) | fail)
      refine Rv.appendS ttOk hL tl24 tl3 rfl (by decide) 1 rfl (hL.rowN (i := 0) rfl) (allOne_mem rfl) hk3 hk4 hB fun vo w hL hB => ?_
      dsimp only [List.set] at hL
      replace hL := hL.pop 0
      dsimp only [List.eraseIdx] at hL
      obtain ⟨ga, gc, rfl⟩ := (hL.rowN (i := 0) rfl).shape
      obtain ⟨⟨gb, rfl⟩, hgc⟩ := own_addr (hL.at (i := 0) rfl) (by omega)
      conv => whnf
      repeat (first | (refine RunH ?_; intro w hL hB; try clear w) | (refine Both.mk ?_ ?_ <;> conv => whnf) | fail)
      intro n' c' q1 q2
      obtain rfl : p.ns.length = n' := by omega
      obtain rfl : gc = c' := by omega
      conv => whnf
      repeat (first | (refine RunH ?_; intro w hL hB; try clear w) | (refine Both.mk ?_ ?_ <;> conv => whnf) | fail)
      exact ⟨(gb, gc), ⟨rfl, rfl, rfl, rfl, rfl, rfl, rfl, trivial⟩, hB, fin hL⟩
      repeat (first | (refine RunH ?_; intro w hL hB; try clear w) | (refine Both.mk ?_ ?_ <;> conv => whnf) | fail)
      refine Rv.appendS ttOk hL tl24 tl3 rfl (by decide) 1 rfl ((hns.below hL.below).sl.toN) (numC_one _) hk1 hk2 hB fun vo w hL hB => ?_
      dsimp only [List.set] at hL
      conv => whnf
      repeat (first | (refine RunH ?_; intro w hL hB; try clear w) | (refine Both.mk ?_ ?_ <;> conv => whnf) | fail)
      refine Rv.appendS ttOk hL tl24 tl3 rfl (by decide) 1 rfl (hL.rowN (i := 0) rfl) (allOne_mem rfl) hk3 hk4 hB fun vo w hL hB => ?_
      dsimp only [List.set] at hL
      replace hL := hL.pop 0
      dsimp only [List.eraseIdx] at hL
      obtain ⟨ga, gc, rfl⟩ := (hL.rowN (i := 0) rfl).shape
      obtain ⟨⟨gb, rfl⟩, hgc⟩ := own_addr (hL.at (i := 0) rfl) (by omega)
      conv => whnf
      repeat (first | (refine RunH ?_; intro w hL hB; try clear w) | (refine Both.mk ?_ ?_ <;> conv => whnf) | fail)
      intro n' c' q1 q2
      obtain rfl : p.ns.length = n' := by omega
      obtain rfl : gc = c' := by omega
      conv => whnf
      repeat (first | (refine RunH ?_; intro w hL hB; try clear w) | (refine Both.mk ?_ ?_ <;> conv => whnf) | fail)
      exact ⟨(gb, gc), ⟨rfl, rfl, rfl, rfl, rfl, rfl, rfl, trivial⟩, hB, fin hL⟩
      repeat (first | (refine RunH ?_; intro w hL hB; try clear w) | (refine Both.mk ?_ ?_ <;> conv => whnf) | fail)
      refine Rv.appendS ttOk hL tl24 tl3 rfl (by decide) 0 rfl ((hns.below hL.below).sl.toN) (numC_one _) hk1 hk2 hB fun vo w hL hB => ?_
      dsimp only [List.set] at hL
      conv => whnf
      repeat (first | (refine RunH ?_; intro w hL hB; try clear w) | (refine Both.mk ?_ ?_ <;> conv => whnf) | fail)
      refine Rv.buildS (len := 1) ttOk hL tl24 tl3 rfl rfl ones (by decide) (by decide) hB fun b99 w hL hB => ?_
      conv => whnf
      repeat (first | (refine RunH ?_; intro w hL hB; try clear w) | (refine Both.mk ?_ ?_ <;> conv => whnf) | fail)
      refine Rv.appendS ttOk hL tl24 tl3 rfl (by decide) 1 rfl (hL.rowN (i := 0) rfl) (allOne_mem rfl) hk3 hk4 hB fun vo w hL hB => ?_
      dsimp only [List.set] at hL
      replace hL := hL.pop 0
      dsimp only [List.eraseIdx] at hL
      obtain ⟨ga, gc, rfl⟩ := (hL.rowN (i := 0) rfl).shape
      obtain ⟨⟨gb, rfl⟩, hgc⟩ := own_addr (hL.at (i := 0) rfl) (by omega)
      conv => whnf
      repeat (first | (refine RunH ?_; intro w hL hB; try clear w) | (refine Both.mk ?_ ?_ <;> conv => whnf) | fail)
      intro n' c' q1 q2
      obtain rfl : p.ns.length = n' := by omega
      obtain rfl : gc = c' := by omega
      conv => whnf
      repeat (first | (refine RunH ?_; intro w hL hB; try clear w) | (refine Both.mk ?_ ?_ <;> conv => whnf) | fail)
      exact ⟨(gb, gc), ⟨rfl, rfl, rfl, rfl, rfl, rfl, rfl, trivial⟩, hB, fin hL⟩
      repeat (first | (refine RunH ?_; intro w hL hB; try clear w) | (refine Both.mk ?_ ?_ <;> conv => whnf) | fail)
      refine Rv.buildS (len := 1) ttOk hL tl24 tl3 rfl rfl ones (by decide) (by decide) hB fun b99 w hL hB => ?_
      conv => whnf
      repeat (first | (refine RunH ?_; intro w hL hB; try clear w) | (refine Both.mk ?_ ?_ <;> conv => whnf) | fail)
      refine Rv.appendS ttOk hL tl24 tl3 rfl (by decide) 1 rfl ((hns.below hL.below).sl.toN) (numC_one _) hk1 hk2 hB fun vo w hL hB => ?_
      dsimp only [List.set] at hL
      conv => whnf
      repeat (first | (refine RunH ?_; intro w hL hB; try clear w) | (refine Both.mk ?_ ?_ <;> conv => whnf) | fail)
      refine Rv.appendS ttOk hL tl24 tl3 rfl (by decide) 1 rfl (hL.rowN (i := 0) rfl) (allOne_mem rfl) hk3 hk4 hB fun vo w hL hB => ?_
      dsimp only [List.set] at hL
      replace hL := hL.pop 0
      dsimp only [List.eraseIdx] at hL
      obtain ⟨ga, gc, rfl⟩ := (hL.rowN (i := 0) rfl).shape
      obtain ⟨⟨gb, rfl⟩, hgc⟩ := own_addr (hL.at (i := 0) rfl) (by omega)
      conv => whnf
      repeat (first | (refine RunH ?_; intro w hL hB; try clear w) | (refine Both.mk ?_ ?_ <;> conv => whnf) | fail)
      intro n' c' q1 q2
      obtain rfl : p.ns.length = n' := by omega
      obtain rfl : gc = c' := by omega
      conv => whnf
      repeat (first | (refine RunH ?_; intro w hL hB; try clear w) | (refine Both.mk ?_ ?_ <;> conv => whnf) | fail)
      exact ⟨(gb, gc), ⟨rfl, rfl, rfl, rfl, rfl, rfl, rfl, trivial⟩, hB, fin hL⟩
      repeat (first | (refine RunH ?_; intro w hL hB; try clear w) | (refine Both.mk ?_ ?_ <;> conv => whnf) | fail)
      refine Rv.buildS (len := 1) ttOk hL tl24 tl3 rfl rfl ones (by decide) (by decide) hB fun b99 w hL hB => ?_
      conv => whnf
      repeat (first | (refine RunH ?_; intro w hL hB; try clear w) | (refine Both.mk ?_ ?_ <;> conv => whnf) | fail)
      refine Rv.appendS ttOk hL tl24 tl3 rfl (by decide) 1 rfl ((hns.below hL.below).sl.toN) (numC_one _) hk1 hk2 hB fun vo w hL hB => ?_
      dsimp only [List.set] at hL
      conv => whnf
      repeat (first | (refine RunH ?_; intro w hL hB; try clear w) | (refine Both.mk ?_ ?_ <;> conv => whnf) | fail)
      refine Rv.appendS ttOk hL tl24 tl3 rfl (by decide) 1 rfl (hL.rowN (i := 0) rfl) (allOne_mem rfl) hk3 hk4 hB fun vo w hL hB => ?_
      dsimp only [List.set] at hL
      replace hL := hL.pop 0
      dsimp only [List.eraseIdx] at hL
      obtain ⟨ga, gc, rfl⟩ := (hL.rowN (i := 0) rfl).shape
      obtain ⟨⟨gb, rfl⟩, hgc⟩ := own_addr (hL.at (i := 0) rfl) (by omega)
      conv => whnf
      repeat (first | (refine RunH ?_; intro w hL hB; try clear w) | (refine Both.mk ?_ ?_ <;> conv => whnf) | fail)
      intro n' c' q1 q2
      obtain rfl : p.ns.length = n' := by omega
      obtain rfl : gc = c' := by omega
      conv => whnf
      repeat (first | (refine RunH ?_; intro w hL hB; try clear w) | (refine Both.mk ?_ ?_ <;> conv => whnf) | fail)
      exact ⟨(gb, gc), ⟨rfl, rfl, rfl, rfl, rfl, rfl, rfl, trivial⟩, hB, fin hL⟩
      repeat (first | (refine RunH ?_; intro w hL hB; try clear w) | (refine Both.mk ?_ ?_ <;> conv => whnf) | fail)
      refine Rv.buildS (len := 0) ttOk hL tl24 tl3 rfl rfl (by simp [cellsL]) (by decide) (by decide) hB fun bz w hL hB => ?_
      conv => whnf
      repeat (first | (refine RunH ?_; intro w hL hB; try clear w) | (refine Both.mk ?_ ?_ <;> conv => whnf) | fail)
      refine Rv.appendS ttOk hL tl24 tl3 rfl (by decide) 0 rfl ((hns.below hL.below).sl.toN) (numC_one _) hk1 hk2 hB fun vo w hL hB => ?_
      dsimp only [List.set] at hL
      conv => whnf
      repeat (first | (refine RunH ?_; intro w hL hB; try clear w) | (refine Both.mk ?_ ?_ <;> conv => whnf) | fail)
      refine Rv.buildS (len := 1) ttOk hL tl24 tl3 rfl rfl ones (by decide) (by decide) hB fun b99 w hL hB => ?_
      conv => whnf
      repeat (first | (refine RunH ?_; intro w hL hB; try clear w) | (refine Both.mk ?_ ?_ <;> conv => whnf) | fail)
      refine Rv.appendS ttOk hL tl24 tl3 rfl (by decide) 1 rfl (hL.rowN (i := 0) rfl) (allOne_mem rfl) hk3 hk4 hB fun vo w hL hB => ?_
      dsimp only [List.set] at hL
      replace hL := hL.pop 0
      dsimp only [List.eraseIdx] at hL
      obtain ⟨ga, gc, rfl⟩ := (hL.rowN (i := 0) rfl).shape
      obtain ⟨⟨gb, rfl⟩, hgc⟩ := own_addr (hL.at (i := 0) rfl) (by omega)
      conv => whnf
      repeat (first | (refine RunH ?_; intro w hL hB; try clear w) | (refine Both.mk ?_ ?_ <;> conv => whnf) | fail)
      intro n' c' q1 q2
      obtain rfl : p.ns.length = n' := by omega
      obtain rfl : gc = c' := by omega
      conv => whnf
      repeat (first | (refine RunH ?_; intro w hL hB; try clear w) | (refine Both.mk ?_ ?_ <;> conv => whnf) | fail)
      exact ⟨(gb, gc), ⟨rfl, rfl, rfl, rfl, rfl, rfl, rfl, trivial⟩, hB, fin hL⟩
      repeat (first | (refine RunH ?_; intro w hL hB; try clear w) | (refine Both.mk ?_ ?_ <;> conv => whnf) | fail)
      refine Rv.appendS ttOk hL tl24 tl3 rfl (by decide) 1 rfl (hL.rowN (i := 0) rfl) (allOne_mem rfl) hk3 hk4 hB fun vo w hL hB => ?_
      dsimp only [List.set] at hL
      replace hL := hL.pop 0
      dsimp only [List.eraseIdx] at hL
      obtain ⟨ga, gc, rfl⟩ := (hL.rowN (i := 0) rfl).shape
      obtain ⟨⟨gb, rfl⟩, hgc⟩ := own_addr (hL.at (i := 0) rfl) (by omega)
      conv => whnf
      repeat (first | (refine RunH ?_; intro w hL hB; try clear w) | (refine Both.mk ?_ ?_ <;> conv => whnf) | fail)
      intro n' c' q1 q2
      obtain rfl : p.ns.length = n' := by omega
      obtain rfl : gc = c' := by omega
      conv => whnf
      repeat (first | (refine RunH ?_; intro w hL hB; try clear w) | (refine Both.mk ?_ ?_ <;> conv => whnf) | fail)
      exact ⟨(gb, gc), ⟨rfl, rfl, rfl, rfl, rfl, rfl, rfl, trivial⟩, hB, fin hL⟩
      repeat (first | (refine RunH ?_; intro w hL hB; try clear w) | (refine Both.mk ?_ ?_ <;> conv => whnf) | fail)
      refine Rv.buildS (len := 1) ttOk hL tl24 tl3 rfl rfl ones (by decide) (by decide) hB fun b99 w hL hB => ?_
      conv => whnf
      repeat (first | (refine RunH ?_; intro w hL hB; try clear w) | (refine Both.mk ?_ ?_ <;> conv => whnf) | fail)
      refine Rv.appendS ttOk hL tl24 tl3 rfl (by decide) 1 rfl (hL.rowN (i := 0) rfl) (allOne_mem rfl) hk3 hk4 hB fun vo w hL hB => ?_
      dsimp only [List.set] at hL
      replace hL := hL.pop 0
      dsimp only [List.eraseIdx] at hL
      obtain ⟨ga, gc, rfl⟩ := (hL.rowN (i := 0) rfl).shape
      obtain ⟨⟨gb, rfl⟩, hgc⟩ := own_addr (hL.at (i := 0) rfl) (by omega)
      conv => whnf
      repeat (first | (refine RunH ?_; intro w hL hB; try clear w) | (refine Both.mk ?_ ?_ <;> conv => whnf) | fail)
      intro n' c' q1 q2
      obtain rfl : p.ns.length = n' := by omega
      obtain rfl : gc = c' := by omega
      conv => whnf
      repeat (first | (refine RunH ?_; intro w hL hB; try clear w) | (refine Both.mk ?_ ?_ <;> conv => whnf) | fail)
      exact ⟨(gb, gc), ⟨rfl, rfl, rfl, rfl, rfl, rfl, rfl, trivial⟩, hB, fin hL⟩
      repeat (first | (refine RunH ?_; intro w hL hB; try clear w) | (refine Both.mk ?_ ?_ <;> conv => whnf) | fail)
      refine Rv.buildS (len := 1) ttOk hL tl24 tl3 rfl rfl ones (by decide) (by decide) hB fun b99 w hL hB => ?_
      conv => whnf
      repeat (first | (refine RunH ?_; intro w hL hB; try clear w) | (refine Both.mk ?_ ?_ <;> conv => whnf) | fail)
      refine Rv.appendS ttOk hL tl24 tl3 rfl (by decide) 1 rfl ((hns.below hL.below).sl.toN) (numC_one _) hk1 hk2 hB fun vo w hL hB => ?_
      dsimp only [List.set] at hL
      conv => whnf
      repeat (first | (refine RunH ?_; intro w hL hB; try clear w) | (refine Both.mk ?_ ?_ <;> conv => whnf) | fail)
      refine Rv.appendS ttOk hL tl24 tl3 rfl (by decide) 1 rfl (hL.rowN (i := 0) rfl) (allOne_mem rfl) hk3 hk4 hB fun vo w hL hB => ?_
      dsimp only [List.set] at hL
      replace hL := hL.pop 0
      dsimp only [List.eraseIdx] at hL
      obtain ⟨ga, gc, rfl⟩ := (hL.rowN (i := 0) rfl).shape
      obtain ⟨⟨gb, rfl⟩, hgc⟩ := own_addr (hL.at (i := 0) rfl) (by omega)
      conv => whnf
      repeat (first | (refine RunH ?_; intro w hL hB; try clear w) | (refine Both.mk ?_ ?_ <;> conv => whnf) | fail)
      intro n' c' q1 q2
      obtain rfl : p.ns.length = n' := by omega
      obtain rfl : gc = c' := by omega
      conv => whnf
      repeat (first | (refine RunH ?_; intro w hL hB; try clear w) | (refine Both.mk ?_ ?_ <;> conv => whnf) | fail)
      exact ⟨(gb, gc), ⟨rfl, rfl, rfl, rfl, rfl, rfl, rfl, trivial⟩, hB, fin hL⟩
      repeat (first | (refine RunH ?_; intro w hL hB; try clear w) | (refine Both.mk ?_ ?_ <;> conv => whnf) | fail)
      refine Rv.appendS ttOk hL tl24 tl3 rfl (by decide) 1 rfl (hL.rowN (i := 0) rfl) (allOne_mem rfl) hk3 hk4 hB fun vo w hL hB => ?_
      dsimp only [List.set] at hL
      replace hL := hL.pop 0
      dsimp only [List.eraseIdx] at hL
      obtain ⟨ga, gc, rfl⟩ := (hL.rowN (i := 0) rfl).shape
      obtain ⟨⟨gb, rfl⟩, hgc⟩ := own_addr (hL.at (i := 0) rfl) (by omega)
      conv => whnf
      repeat (first | (refine RunH ?_; intro w hL hB; try clear w) | (refine Both.mk ?_ ?_ <;> conv => whnf) | fail)
      intro n' c' q1 q2
      obtain rfl : p.ns.length = n' := by omega
      obtain rfl : gc = c' := by omega
      conv => whnf
      repeat (first | (refine RunH ?_; intro w hL hB; try clear w) | (refine Both.mk ?_ ?_ <;> conv => whnf) | fail)
      exact ⟨(gb, gc), ⟨rfl, rfl, rfl, rfl, rfl, rfl, rfl, trivial⟩, hB, fin hL⟩
      repeat (first | (refine RunH ?_; intro w hL hB; try clear w) | (refine Both.mk ?_ ?_ <;> conv => whnf) | fail)
      refine Rv.appendS ttOk hL tl24 tl3 rfl (by decide) 1 rfl ((hns.below hL.below).sl.toN) (numC_one _) hk1 hk2 hB fun vo w hL hB => ?_
      dsimp only [List.set] at hL
      conv => whnf
      repeat (first | (refine RunH ?_; intro w hL hB; try clear w) | (refine Both.mk ?_ ?_ <;> conv => whnf) | fail)
      refine Rv.appendS ttOk hL tl24 tl3 rfl (by decide) 1 rfl (hL.rowN (i := 0) rfl) (allOne_mem rfl) hk3 hk4 hB fun vo w hL hB => ?_
      dsimp only [List.set] at hL
      replace hL := hL.pop 0
      dsimp only [List.eraseIdx] at hL
      obtain ⟨ga, gc, rfl⟩ := (hL.rowN (i := 0) rfl).shape
      obtain ⟨⟨gb, rfl⟩, hgc⟩ := own_addr (hL.at (i := 0) rfl) (by omega)
      conv => whnf
      repeat (first | (refine RunH ?_; intro w hL hB; try clear w) | (refine Both.mk ?_ ?_ <;> conv => whnf) | fail)
      intro n' c' q1 q2
      obtain rfl : p.ns.length = n' := by omega
      obtain rfl : gc = c' := by omega
      conv => whnf
      repeat (first | (refine RunH ?_; intro w hL hB; try clear w) | (refine Both.mk ?_ ?_ <;> conv => whnf) | fail)
      exact ⟨(gb, gc), ⟨rfl, rfl, rfl, rfl, rfl, rfl, rfl, trivial⟩, hB, fin hL⟩
      repeat (first | (refine RunH ?_; intro w hL hB; try clear w) | (refine Both.mk ?_ ?_ <;> conv => whnf) | fail)
      refine Rv.appendS ttOk hL tl24 tl3 rfl (by decide) 0 rfl ((hns.below hL.below).sl.toN) (numC_one _) hk1 hk2 hB fun vo w hL hB => ?_
      dsimp only [List.set] at hL
      conv => whnf
      repeat (first | (refine RunH ?_; intro w hL hB; try clear w) | (refine Both.mk ?_ ?_ <;> conv => whnf) | fail)
      refine Rv.buildS (len := 1) ttOk hL tl24 tl3 rfl rfl ones (by decide) (by decide) hB fun b99 w hL hB => ?_
      conv => whnf
      repeat (first | (refine RunH ?_; intro w hL hB; try clear w) | (refine Both.mk ?_ ?_ <;> conv => whnf) | fail)
      refine Rv.appendS ttOk hL tl24 tl3 rfl (by decide) 1 rfl (hL.rowN (i := 0) rfl) (allOne_mem rfl) hk3 hk4 hB fun vo w hL hB => ?_
      dsimp only [List.set] at hL
      replace hL := hL.pop 0
      dsimp only [List.eraseIdx] at hL
      obtain ⟨ga, gc, rfl⟩ := (hL.rowN (i := 0) rfl).shape
      obtain ⟨⟨gb, rfl⟩, hgc⟩ := own_addr (hL.at (i := 0) rfl) (by omega)
      conv => whnf
      repeat (first | (refine RunH ?_; intro w hL hB; try clear w) | (refine Both.mk ?_ ?_ <;> conv => whnf) | fail)
      intro n' c' q1 q2
      obtain rfl : p.ns.length = n' := by omega
      obtain rfl : gc = c' := by omega
      conv => whnf
      repeat (first | (refine RunH ?_; intro w hL hB; try clear w) | (refine Both.mk ?_ ?_ <;> conv => whnf) | fail)
      exact ⟨(gb, gc), ⟨rfl, rfl, rfl, rfl, rfl, rfl, rfl, trivial⟩, hB, fin hL⟩
      repeat (first | (refine RunH ?_; intro w hL hB; try clear w) | (refine Both.mk ?_ ?_ <;> conv => whnf) | fail)
      refine Rv.buildS (len := 1) ttOk hL tl24 tl3 rfl rfl ones (by decide) (by decide) hB fun b99 w hL hB => ?_
      conv => whnf
      repeat (first | (refine RunH ?_; intro w hL hB; try clear w) | (refine Both.mk ?_ ?_ <;> conv => whnf) | fail)
      refine Rv.appendS ttOk hL tl24 tl3 rfl (by decide) 1 rfl ((hns.below hL.below).sl.toN) (numC_one _) hk1 hk2 hB fun vo w hL hB => ?_
      dsimp only [List.set] at hL
      conv => whnf
      repeat (first | (refine RunH ?_; intro w hL hB; try clear w) | (refine Both.mk ?_ ?_ <;> conv => whnf) | fail)
      refine Rv.appendS ttOk hL tl24 tl3 rfl (by decide) 1 rfl (hL.rowN (i := 0) rfl) (allOne_mem rfl) hk3 hk4 hB fun vo w hL hB => ?_
      dsimp only [List.set] at hL
      replace hL := hL.pop 0
      dsimp only [List.eraseIdx] at hL
      obtain ⟨ga, gc, rfl⟩ := (hL.rowN (i := 0) rfl).shape
      obtain ⟨⟨gb, rfl⟩, hgc⟩ := own_addr (hL.at (i := 0) rfl) (by omega)
      conv => whnf
      repeat (first | (refine RunH ?_; intro w hL hB; try clear w) | (refine Both.mk ?_ ?_ <;> conv => whnf) | fail)
      intro n' c' q1 q2
      obtain rfl : p.ns.length = n' := by omega
      obtain rfl : gc = c' := by omega
      conv => whnf
      repeat (first | (refine RunH ?_; intro w hL hB; try clear w) | (refine Both.mk ?_ ?_ <;> conv => whnf) | fail)
      exact ⟨(gb, gc), ⟨rfl, rfl, rfl, rfl, rfl, rfl, rfl, trivial⟩, hB, fin hL⟩
      repeat (first | (refine RunH ?_; intro w hL hB; try clear w) | (refine Both.mk ?_ ?_ <;> conv => whnf) | fail)
      refine Rv.buildS (len := 1) ttOk hL tl24 tl3 rfl rfl ones (by decide) (by decide) hB fun b99 w hL hB => ?_
      conv => whnf
      repeat (first | (refine RunH ?_; intro w hL hB; try clear w) | (refine Both.mk ?_ ?_ <;> conv => whnf) | fail)
      refine Rv.buildS (len := 0) ttOk hL tl24 tl3 rfl rfl (by simp [cellsL]) (by decide) (by decide) hB fun bz w hL hB => ?_
      conv => whnf
      repeat (first | (refine RunH ?_; intro w hL hB; try clear w) | (refine Both.mk ?_ ?_ <;> conv => whnf) | fail)
      refine Rv.appendS ttOk hL tl24 tl3 rfl (by decide) 0 rfl ((hns.below hL.below).sl.toN) (numC_one _) hk1 hk2 hB fun vo w hL hB => ?_
      dsimp only [List.set] at hL
      conv => whnf
      repeat (first | (refine RunH ?_; intro w hL hB; try clear w) | (refine Both.mk ?_ ?_ <;> conv => whnf) | fail)
      refine Rv.appendS ttOk hL tl24 tl3 rfl (by decide) 0 rfl (hL.rowN (i := 1) rfl) (allOne_mem rfl) hk3 hk4 hB fun vo w hL hB => ?_
      dsimp only [List.set] at hL
      replace hL := hL.pop 1
      dsimp only [List.eraseIdx] at hL
      obtain ⟨ga, gc, rfl⟩ := (hL.rowN (i := 0) rfl).shape
      obtain ⟨⟨gb, rfl⟩, hgc⟩ := own_addr (hL.at (i := 0) rfl) (by omega)
      conv => whnf
      repeat (first | (refine RunH ?_; intro w hL hB; try clear w) | (refine Both.mk ?_ ?_ <;> conv => whnf) | fail)
      intro n' c' q1 q2
      obtain rfl : p.ns.length = n' := by omega
      obtain rfl : gc = c' := by omega
      conv => whnf
      repeat (first | (refine RunH ?_; intro w hL hB; try clear w) | (refine Both.mk ?_ ?_ <;> conv => whnf) | fail)
      exact ⟨(gb, gc), ⟨rfl, rfl, rfl, rfl, rfl, rfl, rfl, trivial⟩, hB, fin hL⟩
      repeat (first | (refine RunH ?_; intro w hL hB; try clear w) | (refine Both.mk ?_ ?_ <;> conv => whnf) | fail)
      refine Rv.appendS ttOk hL tl24 tl3 rfl (by decide) 0 rfl (hL.rowN (i := 1) rfl) (allOne_mem rfl) hk3 hk4 hB fun vo w hL hB => ?_
      dsimp only [List.set] at hL
      replace hL := hL.pop 1
      dsimp only [List.eraseIdx] at hL
      obtain ⟨ga, gc, rfl⟩ := (hL.rowN (i := 0) rfl).shape
      obtain ⟨⟨gb, rfl⟩, hgc⟩ := own_addr (hL.at (i := 0) rfl) (by omega)
      conv => whnf
      repeat (first | (refine RunH ?_; intro w hL hB; try clear w) | (refine Both.mk ?_ ?_ <;> conv => whnf) | fail)
      intro n' c' q1 q2
      obtain rfl : p.ns.length = n' := by omega
      obtain rfl : gc = c' := by omega
      conv => whnf
      repeat (first | (refine RunH ?_; intro w hL hB; try clear w) | (refine Both.mk ?_ ?_ <;> conv => whnf) | fail)
      exact ⟨(gb, gc), ⟨rfl, rfl, rfl, rfl, rfl, rfl, rfl, trivial⟩, hB, fin hL⟩
      repeat (first | (refine RunH ?_; intro w hL hB; try clear w) | (refine Both.mk ?_ ?_ <;> conv => whnf) | fail)
      refine Rv.appendS ttOk hL tl24 tl3 rfl (by decide) 0 rfl ((hns.below hL.below).sl.toN) (numC_one _) hk1 hk2 hB fun vo w hL hB => ?_
      dsimp only [List.set] at hL
      conv => whnf
      repeat (first | (refine RunH ?_; intro w hL hB; try clear w) | (refine Both.mk ?_ ?_ <;> conv => whnf) | fail)
      refine Rv.appendS ttOk hL tl24 tl3 rfl (by decide) 0 rfl (hL.rowN (i := 1) rfl) (allOne_mem rfl) hk3 hk4 hB fun vo w hL hB => ?_
      dsimp only [List.set] at hL
      replace hL := hL.pop 1
      dsimp only [List.eraseIdx] at hL
      obtain ⟨ga, gc, rfl⟩ := (hL.rowN (i := 0) rfl).shape
      obtain ⟨⟨gb, rfl⟩, hgc⟩ := own_addr (hL.at (i := 0) rfl) (by omega)
      conv => whnf
      repeat (first | (refine RunH ?_; intro w hL hB; try clear w) | (refine Both.mk ?_ ?_ <;> conv => whnf) | fail)
      intro n' c' q1 q2
      obtain rfl : p.ns.length = n' := by omega
      obtain rfl : gc = c' := by omega
      conv => whnf
      repeat (first | (refine RunH ?_; intro w hL hB; try clear w) | (refine Both.mk ?_ ?_ <;> conv => whnf) | fail)
      exact ⟨(gb, gc), ⟨rfl, rfl, rfl, rfl, rfl, rfl, rfl, trivial⟩, hB, fin hL⟩
      repeat (first | (refine RunH ?_; intro w hL hB; try clear w) | (refine Both.mk ?_ ?_ <;> conv => whnf) | fail)
      refine Rv.buildS (len := 0) ttOk hL tl24 tl3 rfl rfl (by simp [cellsL]) (by decide) (by decide) hB fun bz w hL hB => ?_
      conv => whnf
      repeat (first | (refine RunH ?_; intro w hL hB; try clear w) | (refine Both.mk ?_ ?_ <;> conv => whnf) | fail)
      refine Rv.appendS ttOk hL tl24 tl3 rfl (by decide) 0 rfl ((hns.below hL.below).sl.toN) (numC_one _) hk1 hk2 hB fun vo w hL hB => ?_
      dsimp only [List.set] at hL
      conv => whnf
      repeat (first | (refine RunH ?_; intro w hL hB; try clear w) | (refine Both.mk ?_ ?_ <;> conv => whnf) | fail)
      refine Rv.appendS ttOk hL tl24 tl3 rfl (by decide) 0 rfl (hL.rowN (i := 1) rfl) (allOne_mem rfl) hk3 hk4 hB fun vo w hL hB => ?_
      dsimp only [List.set] at hL
      replace hL := hL.pop 1
      dsimp only [List.eraseIdx] at hL
      obtain ⟨ga, gc, rfl⟩ := (hL.rowN (i := 0) rfl).shape
      obtain ⟨⟨gb, rfl⟩, hgc⟩ := own_addr (hL.at (i := 0) rfl) (by omega)
      conv => whnf
      repeat (first | (refine RunH ?_; intro w hL hB; try clear w) | (refine Both.mk ?_ ?_ <;> conv => whnf) | fail)
      intro n' c' q1 q2
      obtain rfl : p.ns.length = n' := by omega
      obtain rfl : gc = c' := by omega
      conv => whnf
      repeat (first | (refine RunH ?_; intro w hL hB; try clear w) | (refine Both.mk ?_ ?_ <;> conv => whnf) | fail)
      exact ⟨(gb, gc), ⟨rfl, rfl, rfl, rfl, rfl, rfl, rfl, trivial⟩, hB, fin hL⟩
      repeat (first | (refine RunH ?_; intro w hL hB; try clear w) | (refine Both.mk ?_ ?_ <;> conv => whnf) | fail)
      refine Rv.buildS (len := 0) ttOk hL tl24 tl3 rfl rfl (by simp [cellsL]) (by decide) (by decide) hB fun bz w hL hB => ?_
      conv => whnf
      repeat (first | (refine RunH ?_; intro w hL hB; try clear w) | (refine Both.mk ?_ ?_ <;> conv => whnf) | fail)
      refine Rv.appendS ttOk hL tl24 tl3 rfl (by decide) 0 rfl ((hns.below hL.below).sl.toN) (numC_one _) hk1 hk2 hB fun vo w hL hB => ?_
      dsimp only [List.set] at hL
      conv => whnf
      repeat (first | (refine RunH ?_; intro w hL hB; try clear w) | (refine Both.mk ?_ ?_ <;> conv => whnf) | fail)
      refine Rv.buildS (len := 1) ttOk hL tl24 tl3 rfl rfl ones (by decide) (by decide) hB fun b99 w hL hB => ?_
      conv => whnf
      repeat (first | (refine RunH ?_; intro w hL hB; try clear w) | (refine Both.mk ?_ ?_ <;> conv => whnf) | fail)
      refine Rv.appendS ttOk hL tl24 tl3 rfl (by decide) 1 rfl (hL.rowN (i := 0) rfl) (allOne_mem rfl) hk3 hk4 hB fun vo w hL hB => ?_
      dsimp only [List.set] at hL
      replace hL := hL.pop 0
      dsimp only [List.eraseIdx] at hL
      obtain ⟨ga, gc, rfl⟩ := (hL.rowN (i := 0) rfl).shape
      obtain ⟨⟨gb, rfl⟩, hgc⟩ := own_addr (hL.at (i := 0) rfl) (by omega)
      conv => whnf
      repeat (first | (refine RunH ?_; intro w hL hB; try clear w) | (refine Both.mk ?_ ?_ <;> conv => whnf) | fail)
      intro n' c' q1 q2
      obtain rfl : p.ns.length = n' := by omega
      obtain rfl : gc = c' := by omega
      conv => whnf
      repeat (first | (refine RunH ?_; intro w hL hB; try clear w) | (refine Both.mk ?_ ?_ <;> conv => whnf) | fail)
      exact ⟨(gb, gc), ⟨rfl, rfl, rfl, rfl, rfl, rfl, rfl, trivial⟩, hB, fin hL⟩
      repeat (first | (refine RunH ?_; intro w hL hB; try clear w) | (refine Both.mk ?_ ?_ <;> conv => whnf) | fail)
      refine Rv.buildS (len := 1) ttOk hL tl24 tl3 rfl rfl ones (by decide) (by decide) hB fun b99 w hL hB => ?_
      conv => whnf
      repeat (first | (refine RunH ?_; intro w hL hB; try clear w) | (refine Both.mk ?_ ?_ <;> conv => whnf) | fail)
      refine Rv.appendS ttOk hL tl24 tl3 rfl (by decide) 1 rfl ((hns.below hL.below).sl.toN) (numC_one _) hk1 hk2 hB fun vo w hL hB => ?_
      dsimp only [List.set] at hL
      conv => whnf
      repeat (first | (refine RunH ?_; intro w hL hB; try clear w) | (refine Both.mk ?_ ?_ <;> conv => whnf) | fail)
      refine Rv.appendS ttOk hL tl24 tl3 rfl (by decide) 1 rfl (hL.rowN (i := 0) rfl) (allOne_mem rfl) hk3 hk4 hB fun vo w hL hB => ?_
      dsimp only [List.set] at hL
      replace hL := hL.pop 0
      dsimp only [List.eraseIdx] at hL
      obtain ⟨ga, gc, rfl⟩ := (hL.rowN (i := 0) rfl).shape
      obtain ⟨⟨gb, rfl⟩, hgc⟩ := own_addr (hL.at (i := 0) rfl) (by omega)
      conv => whnf
      repeat (first | (refine RunH ?_; intro w hL hB; try clear w) | (refine Both.mk ?_ ?_ <;> conv => whnf) | fail)
      intro n' c' q1 q2
      obtain rfl : p.ns.length = n' := by omega
      obtain rfl : gc = c' := by omega
      conv => whnf
      repeat (first | (refine RunH ?_; intro w hL hB; try clear w) | (refine Both.mk ?_ ?_ <;> conv => whnf) | fail)
      exact ⟨(gb, gc), ⟨rfl, rfl, rfl, rfl, rfl, rfl, rfl, trivial⟩, hB, fin hL⟩
      repeat (first | (refine RunH ?_; intro w hL hB; try clear w) | (refine Both.mk ?_ ?_ <;> conv => whnf) | fail)
      refine Rv.buildS (len := 1) ttOk hL tl24 tl3 rfl rfl ones (by decide) (by decide) hB fun b99 w hL hB => ?_
      conv => whnf
      repeat (first | (refine RunH ?_; intro w hL hB; try clear w) | (refine Both.mk ?_ ?_ <;> conv => whnf) | fail)
      refine Rv.buildS (len := 0) ttOk hL tl24 tl3 rfl rfl (by simp [cellsL]) (by decide) (by decide) hB fun bz w hL hB => ?_
      conv => whnf
      repeat (first | (refine RunH ?_; intro w hL hB; try clear w) | (refine Both.mk ?_ ?_ <;> conv => whnf) | fail)
      refine Rv.appendS ttOk hL tl24 tl3 rfl (by decide) 0 rfl ((hns.below hL.below).sl.toN) (numC_one _) hk1 hk2 hB fun vo w hL hB => ?_
      dsimp only [List.set] at hL
      conv => whnf
      repeat (first | (refine RunH ?_; intro w hL hB; try clear w) | (refine Both.mk ?_ ?_ <;> conv => whnf) | fail)
      refine Rv.appendS ttOk hL tl24 tl3 rfl (by decide) 0 rfl (hL.rowN (i := 1) rfl) (allOne_mem rfl) hk3 hk4 hB fun vo w hL hB => ?_
      dsimp only [List.set] at hL
      replace hL := hL.pop 1
      dsimp only [List.eraseIdx] at hL
      obtain ⟨ga, gc, rfl⟩ := (hL.rowN (i := 0) rfl).shape
      obtain ⟨⟨gb, rfl⟩, hgc⟩ := own_addr (hL.at (i := 0) rfl) (by omega)
      conv => whnf
      repeat (first | (refine RunH ?_; intro w hL hB; try clear w) | (refine Both.mk ?_ ?_ <;> conv => whnf) | fail)
      intro n' c' q1 q2
      obtain rfl : p.ns.length = n' := by omega
      obtain rfl : gc = c' := by omega
      conv => whnf
      repeat (first | (refine RunH ?_; intro w hL hB; try clear w) | (refine Both.mk ?_ ?_ <;> conv => whnf) | fail)
      exact ⟨(gb, gc), ⟨rfl, rfl, rfl, rfl, rfl, rfl, rfl, trivial⟩, hB, fin hL⟩
      repeat (first | (refine RunH ?_; intro w hL hB; try clear w) | (refine Both.mk ?_ ?_ <;> conv => whnf) | fail)
      refine Rv.buildS (len := 1) ttOk hL tl24 tl3 rfl rfl ones (by decide) (by decide) hB fun b99 w hL hB => ?_
      conv => whnf
      repeat (first | (refine RunH ?_; intro w hL hB; try clear w) | (refine Both.mk ?_ ?_ <;> conv => whnf) | fail)
      refine Rv.buildS (len := 0) ttOk hL tl24 tl3 rfl rfl (by simp [cellsL]) (by decide) (by decide) hB fun bz w hL hB => ?_
      conv => whnf
      repeat (first | (refine RunH ?_; intro w hL hB; try clear w) | (refine Both.mk ?_ ?_ <;> conv => whnf) | fail)
      refine Rv.appendS ttOk hL tl24 tl3 rfl (by decide) 0 rfl ((hns.below hL.below).sl.toN) (numC_one _) hk1 hk2 hB fun vo w hL hB => ?_
      dsimp only [List.set] at hL
      conv => whnf
      repeat (first | (refine RunH ?_; intro w hL hB; try clear w) | (refine Both.mk ?_ ?_ <;> conv => whnf) | fail)
      refine Rv.appendS ttOk hL tl24 tl3 rfl (by decide) 0 rfl (hL.rowN (i := 1) rfl) (allOne_mem rfl) hk3 hk4 hB fun vo w hL hB => ?_
      dsimp only [List.set] at hL
      replace hL := hL.pop 1
      dsimp only [List.eraseIdx] at hL
      obtain ⟨ga, gc, rfl⟩ := (hL.rowN (i := 0) rfl).shape
      obtain ⟨⟨gb, rfl⟩, hgc⟩ := own_addr (hL.at (i := 0) rfl) (by omega)
      conv => whnf
      repeat (first | (refine RunH ?_; intro w hL hB; try clear w) | (refine Both.mk ?_ ?_ <;> conv => whnf) | fail)
      intro n' c' q1 q2
      obtain rfl : p.ns.length = n' := by omega
      obtain rfl : gc = c' := by omega
      conv => whnf
      repeat (first | (refine RunH ?_; intro w hL hB; try clear w) | (refine Both.mk ?_ ?_ <;> conv => whnf) | fail)
      exact ⟨(gb, gc), ⟨rfl, rfl, rfl, rfl, rfl, rfl, rfl, trivial⟩, hB, fin hL⟩
      repeat (first | (refine RunH ?_; intro w hL hB; try clear w) | (refine Both.mk ?_ ?_ <;> conv => whnf) | fail)
      refine Rv.appendS ttOk hL tl24 tl3 rfl (by decide) 0 rfl (hL.rowN (i := 1) rfl) (allOne_mem rfl) hk3 hk4 hB fun vo w hL hB => ?_
      dsimp only [List.set] at hL
      replace hL := hL.pop 1
      dsimp only [List.eraseIdx] at hL
      obtain ⟨ga, gc, rfl⟩ := (hL.rowN (i := 0) rfl).shape
      obtain ⟨⟨gb, rfl⟩, hgc⟩ := own_addr (hL.at (i := 0) rfl) (by omega)
      conv => whnf
      repeat (first | (refine RunH ?_; intro w hL hB; try clear w) | (refine Both.mk ?_ ?_ <;> conv => whnf) | fail)
      intro n' c' q1 q2
      obtain rfl : p.ns.length = n' := by omega
      obtain rfl : gc = c' := by omega
      conv => whnf
      repeat (first | (refine RunH ?_; intro w hL hB; try clear w) | (refine Both.mk ?_ ?_ <;> conv => whnf) | fail)
      exact ⟨(gb, gc), ⟨rfl, rfl, rfl, rfl, rfl, rfl, rfl, trivial⟩, hB, fin hL⟩
      repeat (first | (refine RunH ?_; intro w hL hB; try clear w) | (refine Both.mk ?_ ?_ <;> conv => whnf) | fail)
      refine Rv.appendS ttOk hL tl24 tl3 rfl (by decide) 0 rfl ((hns.below hL.below).sl.toN) (numC_one _) hk1 hk2 hB fun vo w hL hB => ?_
      dsimp only [List.set] at hL
      conv => whnf
      repeat (first | (refine RunH ?_; intro w hL hB; try clear w) | (refine Both.mk ?_ ?_ <;> conv => whnf) | fail)
      refine Rv.appendS ttOk hL tl24 tl3 rfl (by decide) 0 rfl (hL.rowN (i := 1) rfl) (allOne_mem rfl) hk3 hk4 hB fun vo w hL hB => ?_
      dsimp only [List.set] at hL
      replace hL := hL.pop 1
      dsimp only [List.eraseIdx] at hL
      obtain ⟨ga, gc, rfl⟩ := (hL.rowN (i := 0) rfl).shape
      obtain ⟨⟨gb, rfl⟩, hgc⟩ := own_addr (hL.at (i := 0) rfl) (by omega)
      conv => whnf
      repeat (first | (refine RunH ?_; intro w hL hB; try clear w) | (refine Both.mk ?_ ?_ <;> conv => whnf) | fail)
      intro n' c' q1 q2
      obtain rfl : p.ns.length = n' := by omega
      obtain rfl : gc = c' := by omega
      conv => whnf
      repeat (first | (refine RunH ?_; intro w hL hB; try clear w) | (refine Both.mk ?_ ?_ <;> conv => whnf) | fail)
      exact ⟨(gb, gc), ⟨rfl, rfl, rfl, rfl, rfl, rfl, rfl, trivial⟩, hB, fin hL⟩
      repeat (first | (refine RunH ?_; intro w hL hB; try clear w) | (refine Both.mk ?_ ?_ <;> conv => whnf) | fail)
      refine Rv.appendS ttOk hL tl24 tl3 rfl (by decide) 0 rfl ((hns.below hL.below).sl.toN) (numC_one _) hk1 hk2 hB fun vo w hL hB => ?_
      dsimp only [List.set] at hL
      conv => whnf
      repeat (first | (refine RunH ?_; intro w hL hB; try clear w) | (refine Both.mk ?_ ?_ <;> conv => whnf) | fail)
      refine Rv.appendS ttOk hL tl24 tl3 rfl (by decide) 0 rfl (hL.rowN (i := 1) rfl) (allOne_mem rfl) hk3 hk4 hB fun vo w hL hB => ?_
      dsimp only [List.set] at hL
      replace hL := hL.pop 1
      dsimp only [List.eraseIdx] at hL
      obtain ⟨ga, gc, rfl⟩ := (hL.rowN (i := 0) rfl).shape
      obtain ⟨⟨gb, rfl⟩, hgc⟩ := own_addr (hL.at (i := 0) rfl) (by omega)
      conv => whnf
      repeat (first | (refine RunH ?_; intro w hL hB; try clear w) | (refine Both.mk ?_ ?_ <;> conv => whnf) | fail)
      intro n' c' q1 q2
      obtain rfl : p.ns.length = n' := by omega
      obtain rfl : gc = c' := by omega
      conv => whnf
      repeat (first | (refine RunH ?_; intro w hL hB; try clear w) | (refine Both.mk ?_ ?_ <;> conv => whnf) | fail)
      exact ⟨(gb, gc), ⟨rfl, rfl, rfl, rfl, rfl, rfl, rfl, trivial⟩, hB, fin hL⟩
      repeat (first | (refine RunH ?_; intro w hL hB; try clear w) | (refine Both.mk ?_ ?_ <;> conv => whnf) | fail)
      refine Rv.buildS (len := 0) ttOk hL tl24 tl3 rfl rfl (by simp [cellsL]) (by decide) (by decide) hB fun bz w hL hB => ?_
      conv => whnf
      repeat (first | (refine RunH ?_; intro w hL hB; try clear w) | (refine Both.mk ?_ ?_ <;> conv => whnf) | fail)
      refine Rv.appendS ttOk hL tl24 tl3 rfl (by decide) 0 rfl ((hns.below hL.below).sl.toN) (numC_one _) hk1 hk2 hB fun vo w hL hB => ?_
      dsimp only [List.set] at hL
      conv => whnf
      repeat (first | (refine RunH ?_; intro w hL hB; try clear w) | (refine Both.mk ?_ ?_ <;> conv => whnf) | fail)
      refine Rv.appendS ttOk hL tl24 tl3 rfl (by decide) 0 rfl (hL.rowN (i := 1) rfl) (allOne_mem rfl) hk3 hk4 hB fun vo w hL hB => ?_
      dsimp only [List.set] at hL
      replace hL := hL.pop 1
      dsimp only [List.eraseIdx] at hL
      obtain ⟨ga, gc, rfl⟩ := (hL.rowN (i := 0) rfl).shape
      obtain ⟨⟨gb, rfl⟩, hgc⟩ := own_addr (hL.at (i := 0) rfl) (by omega)
      conv => whnf
      repeat (first | (refine RunH ?_; intro w hL hB; try clear w) | (refine Both.mk ?_ ?_ <;> conv => whnf) | fail)
      intro n' c' q1 q2
      obtain rfl : p.ns.length = n' := by omega
      obtain rfl : gc = c' := by omega
      conv => whnf
      repeat (first | (refine RunH ?_; intro w hL hB; try clear w) | (refine Both.mk ?_ ?_ <;> conv => whnf) | fail)
      exact ⟨(gb, gc), ⟨rfl, rfl, rfl, rfl, rfl, rfl, rfl, trivial⟩, hB, fin hL⟩
      repeat (first | (refine RunH ?_; intro w hL hB; try clear w) | (refine Both.mk ?_ ?_ <;> conv => whnf) | fail)
      refine Rv.appendS ttOk hL tl24 tl3 rfl (by decide) 0 rfl (hL.rowN (i := 1) rfl) (allOne_mem rfl) hk3 hk4 hB fun vo w hL hB => ?_
      dsimp only [List.set] at hL
      replace hL := hL.pop 1
      dsimp only [List.eraseIdx] at hL
      obtain ⟨ga, gc, rfl⟩ := (hL.rowN (i := 0) rfl).shape
      obtain ⟨⟨gb, rfl⟩, hgc⟩ := own_addr (hL.at (i := 0) rfl) (by omega)
      conv => whnf
      repeat (first | (refine RunH ?_; intro w hL hB; try clear w) | (refine Both.mk ?_ ?_ <;> conv => whnf) | fail)
      intro n' c' q1 q2
      obtain rfl : p.ns.length = n' := by omega
      obtain rfl : gc = c' := by omega
      conv => whnf
      repeat (first | (refine RunH ?_; intro w hL hB; try clear w) | (refine Both.mk ?_ ?_ <;> conv => whnf) | fail)
      exact ⟨(gb, gc), ⟨rfl, rfl, rfl, rfl, rfl, rfl, rfl, trivial⟩, hB, fin hL⟩
      repeat (first | (refine RunH ?_; intro w hL hB; try clear w) | (refine Both.mk ?_ ?_ <;> conv => whnf) | fail)
      refine Rv.appendS ttOk hL tl24 tl3 rfl (by decide) 0 rfl ((hns.below hL.below).sl.toN) (numC_one _) hk1 hk2 hB fun vo w hL hB => ?_
      dsimp only [List.set] at hL
      conv => whnf
      repeat (first | (refine RunH ?_; intro w hL hB; try clear w) | (refine Both.mk ?_ ?_ <;> conv => whnf) | fail)
      refine Rv.appendS ttOk hL tl24 tl3 rfl (by decide) 0 rfl (hL.rowN (i := 1) rfl) (allOne_mem rfl) hk3 hk4 hB fun vo w hL hB => ?_
      dsimp only [List.set] at hL
      replace hL := hL.pop 1
      dsimp only [List.eraseIdx] at hL
      obtain ⟨ga, gc, rfl⟩ := (hL.rowN (i := 0) rfl).shape
      obtain ⟨⟨gb, rfl⟩, hgc⟩ := own_addr (hL.at (i := 0) rfl) (by omega)
      conv => whnf
      repeat (first | (refine RunH ?_; intro w hL hB; try clear w) | (refine Both.mk ?_ ?_ <;> conv => whnf) | fail)
      intro n' c' q1 q2
      obtain rfl : p.ns.length = n' := by omega
      obtain rfl : gc = c' := by omega
      conv => whnf
      repeat (first | (refine RunH ?_; intro w hL hB; try clear w) | (refine Both.mk ?_ ?_ <;> conv => whnf) | fail)
      exact ⟨(gb, gc), ⟨rfl, rfl, rfl, rfl, rfl, rfl, rfl, trivial⟩, hB, fin hL⟩
      repeat (first | (refine RunH ?_; intro w hL hB; try clear w) | (refine Both.mk ?_ ?_ <;> conv => whnf) | fail)
      refine Rv.buildS (len := 0) ttOk hL tl24 tl3 rfl rfl (by simp [cellsL]) (by decide) (by decide) hB fun bz w hL hB => ?_
      conv => whnf
      repeat (first | (refine RunH ?_; intro w hL hB; try clear w) | (refine Both.mk ?_ ?_ <;> conv => whnf) | fail)
      refine Rv.appendS ttOk hL tl24 tl3 rfl (by decide) 0 rfl ((hns.below hL.below).sl.toN) (numC_one _) hk1 hk2 hB fun vo w hL hB => ?_
      dsimp only [List.set] at hL
      conv => whnf
      repeat (first | (refine RunH ?_; intro w hL hB; try clear w) | (refine Both.mk ?_ ?_ <;> conv => whnf) | fail)
      refine Rv.appendS ttOk hL tl24 tl3 rfl (by decide) 0 rfl (hL.rowN (i := 1) rfl) (allOne_mem rfl) hk3 hk4 hB fun vo w hL hB => ?_
      dsimp only [List.set] at hL
      replace hL := hL.pop 1
      dsimp only [List.eraseIdx] at hL
      obtain ⟨ga, gc, rfl⟩ := (hL.rowN (i := 0) rfl).shape
      obtain ⟨⟨gb, rfl⟩, hgc⟩ := own_addr (hL.at (i := 0) rfl) (by omega)
      conv => whnf
      repeat (first | (refine RunH ?_; intro w hL hB; try clear w) | (refine Both.mk ?_ ?_ <;> conv => whnf) | fail)
      intro n' c' q1 q2
      obtain rfl : p.ns.length = n' := by omega
      obtain rfl : gc = c' := by omega
      conv => whnf
      repeat (first | (refine RunH ?_; intro w hL hB; try clear w) | (refine Both.mk ?_ ?_ <;> conv => whnf) | fail)
      exact ⟨(gb, gc), ⟨rfl, rfl, rfl, rfl, rfl, rfl, rfl, trivial⟩, hB, fin hL⟩
      repeat (first | (refine RunH ?_; intro w hL hB; try clear w) | (refine Both.mk ?_ ?_ <;> conv => whnf) | fail)
      refine Rv.buildS (len := 0) ttOk hL tl24 tl3 rfl rfl (by simp [cellsL]) (by decide) (by decide) hB fun bz w hL hB => ?_
      conv => whnf
      repeat (first | (refine RunH ?_; intro w hL hB; try clear w) | (refine Both.mk ?_ ?_ <;> conv => whnf) | fail)
      refine Rv.appendS ttOk hL tl24 tl3 rfl (by decide) 0 rfl ((hns.below hL.below).sl.toN) (numC_one _) hk1 hk2 hB fun vo w hL hB => ?_
      dsimp only [List.set] at hL
      conv => whnf
      repeat (first | (refine RunH ?_; intro w hL hB; try clear w) | (refine Both.mk ?_ ?_ <;> conv => whnf) | fail)
      refine Rv.appendS ttOk hL tl24 tl3 rfl (by decide) 0 rfl (hL.rowN (i := 1) rfl) (allOne_mem rfl) hk3 hk4 hB fun vo w hL hB => ?_
      dsimp only [List.set] at hL
      replace hL := hL.pop 1
      dsimp only [List.eraseIdx] at hL
      obtain ⟨ga, gc, rfl⟩ := (hL.rowN (i := 0) rfl).shape
      obtain ⟨⟨gb, rfl⟩, hgc⟩ := own_addr (hL.at (i := 0) rfl) (by omega)
      conv => whnf
      repeat (first | (refine RunH ?_; intro w hL hB; try clear w) | (refine Both.mk ?_ ?_ <;> conv => whnf) | fail)
      intro n' c' q1 q2
      obtain rfl : p.ns.length = n' := by omega
      obtain rfl : gc = c' := by omega
      conv => whnf
      repeat (first | (refine RunH ?_; intro w hL hB; try clear w) | (refine Both.mk ?_ ?_ <;> conv => whnf) | fail)
      exact ⟨(gb, gc), ⟨rfl, rfl, rfl, rfl, rfl, rfl, rfl, trivial⟩, hB, fin hL⟩
      repeat (first | (refine RunH ?_; intro w hL hB; try clear w) | (refine Both.mk ?_ ?_ <;> conv => whnf) | fail)
      refine Rv.buildS (len := 0) ttOk hL tl24 tl3 rfl rfl (by simp [cellsL]) (by decide) (by decide) hB fun bz w hL hB => ?_
      conv => whnf
      repeat (first | (refine RunH ?_; intro w hL hB; try clear w) | (refine Both.mk ?_ ?_ <;> conv => whnf) | fail)
      refine Rv.appendS ttOk hL tl24 tl3 rfl (by decide) 0 rfl ((hns.below hL.below).sl.toN) (numC_one _) hk1 hk2 hB fun vo w hL hB => ?_
      dsimp only [List.set] at hL
      conv => whnf
      repeat (first | (refine RunH ?_; intro w hL hB; try clear w) | (refine Both.mk ?_ ?_ <;> conv => whnf) | fail)
      refine Rv.appendS ttOk hL tl24 tl3 rfl (by decide) 0 rfl (hL.rowN (i := 1) rfl) (allOne_mem rfl) hk3 hk4 hB fun vo w hL hB => ?_
      dsimp only [List.set] at hL
      replace hL := hL.pop 1
      dsimp only [List.eraseIdx] at hL
      obtain ⟨ga, gc, rfl⟩ := (hL.rowN (i := 0) rfl).shape
      obtain ⟨⟨gb, rfl⟩, hgc⟩ := own_addr (hL.at (i := 0) rfl) (by omega)
      conv => whnf
      repeat (first | (refine RunH ?_; intro w hL hB; try clear w) | (refine Both.mk ?_ ?_ <;> conv => whnf) | fail)
      intro n' c' q1 q2
      obtain rfl : p.ns.length = n' := by omega
      obtain rfl : gc = c' := by omega
      conv => whnf
      repeat (first | (refine RunH ?_; intro w hL hB; try clear w) | (refine Both.mk ?_ ?_ <;> conv => whnf) | fail)
      exact ⟨(gb, gc), ⟨rfl, rfl, rfl, rfl, rfl, rfl, rfl, trivial⟩, hB, fin hL⟩
      repeat (first | (refine RunH ?_; intro w hL hB; try clear w) | (refine Both.mk ?_ ?_ <;> conv => whnf) | fail)
      refine Rv.buildS (len := 0) ttOk hL tl24 tl3 rfl rfl (by simp [cellsL]) (by decide) (by decide) hB fun bz w hL hB => ?_
      conv => whnf
      repeat (first | (refine RunH ?_; intro w hL hB; try clear w) | (refine Both.mk ?_ ?_ <;> conv => whnf) | fail)
      refine Rv.appendS ttOk hL tl24 tl3 rfl (by decide) 0 rfl ((hns.below hL.below).sl.toN) (numC_one _) hk1 hk2 hB fun vo w hL hB => ?_
      dsimp only [List.set] at hL
      conv => whnf
      repeat (first | (refine RunH ?_; intro w hL hB; try clear w) | (refine Both.mk ?_ ?_ <;> conv => whnf) | fail)
      refine Rv.buildS (len := 1) ttOk hL tl24 tl3 rfl rfl ones (by decide) (by decide) hB fun b99 w hL hB => ?_
      conv => whnf
      repeat (first | (refine RunH ?_; intro w hL hB; try clear w) | (refine Both.mk ?_ ?_ <;> conv => whnf) | fail)
      refine Rv.appendS ttOk hL tl24 tl3 rfl (by decide) 1 rfl (hL.rowN (i := 0) rfl) (allOne_mem rfl) hk3 hk4 hB fun vo w hL hB => ?_
      dsimp only [List.set] at hL
      replace hL := hL.pop 0
      dsimp only [List.eraseIdx] at hL
      obtain ⟨ga, gc, rfl⟩ := (hL.rowN (i := 0) rfl).shape
      obtain ⟨⟨gb, rfl⟩, hgc⟩ := own_addr (hL.at (i := 0) rfl) (by omega)
      conv => whnf
      repeat (first | (refine RunH ?_; intro w hL hB; try clear w) | (refine Both.mk ?_ ?_ <;> conv => whnf) | fail)
      intro n' c' q1 q2
      obtain rfl : p.ns.length = n' := by omega
      obtain rfl : gc = c' := by omega
      conv => whnf
      repeat (first | (refine RunH ?_; intro w hL hB; try clear w) | (refine Both.mk ?_ ?_ <;> conv => whnf) | fail)
      exact ⟨(gb, gc), ⟨rfl, rfl, rfl, rfl, rfl, rfl, rfl, trivial⟩, hB, fin hL⟩
      repeat (first | (refine RunH ?_; intro w hL hB; try clear w) | (refine Both.mk ?_ ?_ <;> conv => whnf) | fail)
      refine Rv.buildS (len := 1) ttOk hL tl24 tl3 rfl rfl ones (by decide) (by decide) hB fun b99 w hL hB => ?_
      conv => whnf
      repeat (first | (refine RunH ?_; intro w hL hB; try clear w) | (refine Both.mk ?_ ?_ <;> conv => whnf) | fail)
      refine Rv.appendS ttOk hL tl24 tl3 rfl (by decide) 1 rfl ((hns.below hL.below).sl.toN) (numC_one _) hk1 hk2 hB fun vo w hL hB => ?_
      dsimp only [List.set] at hL
      conv => whnf
      repeat (first | (refine RunH ?_; intro w hL hB; try clear w) | (refine Both.mk ?_ ?_ <;> conv => whnf) | fail)
      refine Rv.appendS ttOk hL tl24 tl3 rfl (by decide) 1 rfl (hL.rowN (i := 0) rfl) (allOne_mem rfl) hk3 hk4 hB fun vo w hL hB => ?_
      dsimp only [List.set] at hL
      replace hL := hL.pop 0
      dsimp only [List.eraseIdx] at hL
      obtain ⟨ga, gc, rfl⟩ := (hL.rowN (i := 0) rfl).shape
      obtain ⟨⟨gb, rfl⟩, hgc⟩ := own_addr (hL.at (i := 0) rfl) (by omega)
      conv => whnf
      repeat (first | (refine RunH ?_; intro w hL hB; try clear w) | (refine Both.mk ?_ ?_ <;> conv => whnf) | fail)
      intro n' c' q1 q2
      obtain rfl : p.ns.length = n' := by omega
      obtain rfl : gc = c' := by omega
      conv => whnf
      repeat (first | (refine RunH ?_; intro w hL hB; try clear w) | (refine Both.mk ?_ ?_ <;> conv => whnf) | fail)
      exact ⟨(gb, gc), ⟨rfl, rfl, rfl, rfl, rfl, rfl, rfl, trivial⟩, hB, fin hL⟩
      repeat (first | (refine RunH ?_; intro w hL hB; try clear w) | (refine Both.mk ?_ ?_ <;> conv => whnf) | fail)
      refine Rv.buildS (len := 1) ttOk hL tl24 tl3 rfl rfl ones (by decide) (by decide) hB fun b99 w hL hB => ?_
      conv => whnf
      repeat (first | (refine RunH ?_; intro w hL hB; try clear w) | (refine Both.mk ?_ ?_ <;> conv => whnf) | fail)
      refine Rv.appendS ttOk hL tl24 tl3 rfl (by decide) 1 rfl ((hns.below hL.below).sl.toN) (numC_one _) hk1 hk2 hB fun vo w hL hB => ?_
      dsimp only [List.set] at hL
      conv => whnf
      repeat (first | (refine RunH ?_; intro w hL hB; try clear w) | (refine Both.mk ?_ ?_ <;> conv => whnf) | fail)
      refine Rv.appendS ttOk hL tl24 tl3 rfl (by decide) 1 rfl (hL.rowN (i := 0) rfl) (allOne_mem rfl) hk3 hk4 hB fun vo w hL hB => ?_
      dsimp only [List.set] at hL
      replace hL := hL.pop 0
      dsimp only [List.eraseIdx] at hL
      obtain ⟨ga, gc, rfl⟩ := (hL.rowN (i := 0) rfl).shape
      obtain ⟨⟨gb, rfl⟩, hgc⟩ := own_addr (hL.at (i := 0) rfl) (by omega)
      conv => whnf
      repeat (first | (refine RunH ?_; intro w hL hB; try clear w) | (refine Both.mk ?_ ?_ <;> conv => whnf) | fail)
      intro n' c' q1 q2
      obtain rfl : p.ns.length = n' := by omega
      obtain rfl : gc = c' := by omega
      conv => whnf
      repeat (first | (refine RunH ?_; intro w hL hB; try clear w) | (refine Both.mk ?_ ?_ <;> conv => whnf) | fail)
      exact ⟨(gb, gc), ⟨rfl, rfl, rfl, rfl, rfl, rfl, rfl, trivial⟩, hB, fin hL⟩
      repeat (first | (refine RunH ?_; intro w hL hB; try clear w) | (refine Both.mk ?_ ?_ <;> conv => whnf) | fail)
      refine Rv.buildS (len := 0) ttOk hL tl24 tl3 rfl rfl (by simp [cellsL]) (by decide) (by decide) hB fun bz w hL hB => ?_
      conv => whnf
      repeat (first | (refine RunH ?_; intro w hL hB; try clear w) | (refine Both.mk ?_ ?_ <;> conv => whnf) | fail)
      refine Rv.appendS ttOk hL tl24 tl3 rfl (by decide) 0 rfl ((hns.below hL.below).sl.toN) (numC_one _) hk1 hk2 hB fun vo w hL hB => ?_
      dsimp only [List.set] at hL
      conv => whnf
      repeat (first | (refine RunH ?_; intro w hL hB; try clear w) | (refine Both.mk ?_ ?_ <;> conv => whnf) | fail)
      refine Rv.buildS (len := 1) ttOk hL tl24 tl3 rfl rfl ones (by decide) (by decide) hB fun b99 w hL hB => ?_
      conv => whnf
      repeat (first | (refine RunH ?_; intro w hL hB; try clear w) | (refine Both.mk ?_ ?_ <;> conv => whnf) | fail)
      refine Rv.appendS ttOk hL tl24 tl3 rfl (by decide) 1 rfl (hL.rowN (i := 0) rfl) (allOne_mem rfl) hk3 hk4 hB fun vo w hL hB => ?_
      dsimp only [List.set] at hL
      replace hL := hL.pop 0
      dsimp only [List.eraseIdx] at hL
      obtain ⟨ga, gc, rfl⟩ := (hL.rowN (i := 0) rfl).shape
      obtain ⟨⟨gb, rfl⟩, hgc⟩ := own_addr (hL.at (i := 0) rfl) (by omega)
      conv => whnf
      repeat (first | (refine RunH ?_; intro w hL hB; try clear w) | (refine Both.mk ?_ ?_ <;> conv => whnf) | fail)
      intro n' c' q1 q2
      obtain rfl : p.ns.length = n' := by omega
      obtain rfl : gc = c' := by omega
      conv => whnf
      repeat (first | (refine RunH ?_; intro w hL hB; try clear w) | (refine Both.mk ?_ ?_ <;> conv => whnf) | fail)
      exact ⟨(gb, gc), ⟨rfl, rfl, rfl, rfl, rfl, rfl, rfl, trivial⟩, hB, fin hL⟩
      repeat (first | (refine RunH ?_; intro w hL hB; try clear w) | (refine Both.mk ?_ ?_ <;> conv => whnf) | fail)
      refine Rv.buildS (len := 1) ttOk hL tl24 tl3 rfl rfl ones (by decide) (by decide) hB fun b99 w hL hB => ?_
      conv => whnf
      repeat (first | (refine RunH ?_; intro w hL hB; try clear w) | (refine Both.mk ?_ ?_ <;> conv => whnf) | fail)
      refine Rv.appendS ttOk hL tl24 tl3 rfl (by decide) 1 rfl ((hns.below hL.below).sl.toN) (numC_one _) hk1 hk2 hB fun vo w hL hB => ?_
      dsimp only [List.set] at hL
      conv => whnf
      repeat (first | (refine RunH ?_; intro w hL hB; try clear w) | (refine Both.mk ?_ ?_ <;> conv => whnf) | fail)
      refine Rv.appendS ttOk hL tl24 tl3 rfl (by decide) 1 rfl (hL.rowN (i := 0) rfl) (allOne_mem rfl) hk3 hk4 hB fun vo w hL hB => ?_
      dsimp only [List.set] at hL
      replace hL := hL.pop 0
      dsimp only [List.eraseIdx] at hL
      obtain ⟨ga, gc, rfl⟩ := (hL.rowN (i := 0) rfl).shape
      obtain ⟨⟨gb, rfl⟩, hgc⟩ := own_addr (hL.at (i := 0) rfl) (by omega)
      conv => whnf
      repeat (first | (refine RunH ?_; intro w hL hB; try clear w) | (refine Both.mk ?_ ?_ <;> conv => whnf) | fail)
      intro n' c' q1 q2
      obtain rfl : p.ns.length = n' := by omega
      obtain rfl : gc = c' := by omega
      conv => whnf
      repeat (first | (refine RunH ?_; intro w hL hB; try clear w) | (refine Both.mk ?_ ?_ <;> conv => whnf) | fail)
      exact ⟨(gb, gc), ⟨rfl, rfl, rfl, rfl, rfl, rfl, rfl, trivial⟩, hB, fin hL⟩
      repeat (first | (refine RunH ?_; intro w hL hB; try clear w) | (refine Both.mk ?_ ?_ <;> conv => whnf) | fail)
      refine Rv.buildS (len := 1) ttOk hL tl24 tl3 rfl rfl ones (by decide) (by decide) hB fun b99 w hL hB => ?_
      conv => whnf
      repeat (first | (refine RunH ?_; intro w hL hB; try clear w) | (refine Both.mk ?_ ?_ <;> conv => whnf) | fail)
      refine Rv.buildS (len := 0) ttOk hL tl24 tl3 rfl rfl (by simp [cellsL]) (by decide) (by decide) hB fun bz w hL hB => ?_
      conv => whnf
      repeat (first | (refine RunH ?_; intro w hL hB; try clear w) | (refine Both.mk ?_ ?_ <;> conv => whnf) | fail)
      refine Rv.appendS ttOk hL tl24 tl3 rfl (by decide) 0 rfl ((hns.below hL.below).sl.toN) (numC_one _) hk1 hk2 hB fun vo w hL hB => ?_
      dsimp only [List.set] at hL
      conv => whnf
      repeat (first | (refine RunH ?_; intro w hL hB; try clear w) | (refine Both.mk ?_ ?_ <;> conv => whnf) | fail)
      refine Rv.appendS ttOk hL tl24 tl3 rfl (by decide) 0 rfl (hL.rowN (i := 1) rfl) (allOne_mem rfl) hk3 hk4 hB fun vo w hL hB => ?_
      dsimp only [List.set] at hL
      replace hL := hL.pop 1
      dsimp only [List.eraseIdx] at hL
      obtain ⟨ga, gc, rfl⟩ := (hL.rowN (i := 0) rfl).shape
      obtain ⟨⟨gb, rfl⟩, hgc⟩ := own_addr (hL.at (i := 0) rfl) (by omega)
      conv => whnf
      repeat (first | (refine RunH ?_; intro w hL hB; try clear w) | (refine Both.mk ?_ ?_ <;> conv => whnf) | fail)
      intro n' c' q1 q2
      obtain rfl : p.ns.length = n' := by omega
      obtain rfl : gc = c' := by omega
      conv => whnf
      repeat (first | (refine RunH ?_; intro w hL hB; try clear w) | (refine Both.mk ?_ ?_ <;> conv => whnf) | fail)
      exact ⟨(gb, gc), ⟨rfl, rfl, rfl, rfl, rfl, rfl, rfl, trivial⟩, hB, fin hL⟩
      repeat (first | (refine RunH ?_; intro w hL hB; try clear w) | (refine Both.mk ?_ ?_ <;> conv => whnf) | fail)
      refine Rv.buildS (len := 1) ttOk hL tl24 tl3 rfl rfl ones (by decide) (by decide) hB fun b99 w hL hB => ?_
      conv => whnf
      repeat (first | (refine RunH ?_; intro w hL hB; try clear w) | (refine Both.mk ?_ ?_ <;> conv => whnf) | fail)
      refine Rv.buildS (len := 0) ttOk hL tl24 tl3 rfl rfl (by simp [cellsL]) (by decide) (by decide) hB fun bz w hL hB => ?_
      conv => whnf
      repeat (first | (refine RunH ?_; intro w hL hB; try clear w) | (refine Both.mk ?_ ?_ <;> conv => whnf) | fail)
      refine Rv.appendS ttOk hL tl24 tl3 rfl (by decide) 0 rfl ((hns.below hL.below).sl.toN) (numC_one _) hk1 hk2 hB fun vo w hL hB => ?_
      dsimp only [List.set] at hL
      conv => whnf
      repeat (first | (refine RunH ?_; intro w hL hB; try clear w) | (refine Both.mk ?_ ?_ <;> conv => whnf) | fail)
      refine Rv.appendS ttOk hL tl24 tl3 rfl (by decide) 0 rfl (hL.rowN (i := 1) rfl) (allOne_mem rfl) hk3 hk4 hB fun vo w hL hB => ?_
      dsimp only [List.set] at hL
      replace hL := hL.pop 1
      dsimp only [List.eraseIdx] at hL
      obtain ⟨ga, gc, rfl⟩ := (hL.rowN (i := 0) rfl).shape
      obtain ⟨⟨gb, rfl⟩, hgc⟩ := own_addr (hL.at (i := 0) rfl) (by omega)
      conv => whnf
      repeat (first | (refine RunH ?_; intro w hL hB; try clear w) | (refine Both.mk ?_ ?_ <;> conv => whnf) | fail)
      intro n' c' q1 q2
      obtain rfl : p.ns.length = n' := by omega
      obtain rfl : gc = c' := by omega
      conv => whnf
      repeat (first | (refine RunH ?_; intro w hL hB; try clear w) | (refine Both.mk ?_ ?_ <;> conv => whnf) | fail)
      exact ⟨(gb, gc), ⟨rfl, rfl, rfl, rfl, rfl, rfl, rfl, trivial⟩, hB, fin hL⟩
      repeat (first | (refine RunH ?_; intro w hL hB; try clear w) | (refine Both.mk ?_ ?_ <;> conv => whnf) | fail)
      refine Rv.buildS (len := 0) ttOk hL tl24 tl3 rfl rfl (by simp [cellsL]) (by decide) (by decide) hB fun bz w hL hB => ?_
      conv => whnf
      repeat (first | (refine RunH ?_; intro w hL hB; try clear w) | (refine Both.mk ?_ ?_ <;> conv => whnf) | fail)
      refine Rv.appendS ttOk hL tl24 tl3 rfl (by decide) 0 rfl ((hns.below hL.below).sl.toN) (numC_one _) hk1 hk2 hB fun vo w hL hB => ?_
      dsimp only [List.set] at hL
      conv => whnf
      repeat (first | (refine RunH ?_; intro w hL hB; try clear w) | (refine Both.mk ?_ ?_ <;> conv => whnf) | fail)
      refine Rv.appendS ttOk hL tl24 tl3 rfl (by decide) 0 rfl (hL.rowN (i := 1) rfl) (allOne_mem rfl) hk3 hk4 hB fun vo w hL hB => ?_
      dsimp only [List.set] at hL
      replace hL := hL.pop 1
      dsimp only [List.eraseIdx] at hL
      obtain ⟨ga, gc, rfl⟩ := (hL.rowN (i := 0) rfl).shape
      obtain ⟨⟨gb, rfl⟩, hgc⟩ := own_addr (hL.at (i := 0) rfl) (by omega)
      conv => whnf
      repeat (first | (refine RunH ?_; intro w hL hB; try clear w) | (refine Both.mk ?_ ?_ <;> conv => whnf) | fail)
      intro n' c' q1 q2
      obtain rfl : p.ns.length = n' := by omega
      obtain rfl : gc = c' := by omega
      conv => whnf
      repeat (first | (refine RunH ?_; intro w hL hB; try clear w) | (refine Both.mk ?_ ?_ <;> conv => whnf) | fail)
      exact ⟨(gb, gc), ⟨rfl, rfl, rfl, rfl, rfl, rfl, rfl, trivial⟩, hB, fin hL⟩
    · clear hL hB
      rintro x w ⟨hB, hL⟩
      obtain ⟨gb, gc⟩ := x
      have hpv : gP (p, gb, gc) = (p, .slice (some ⟨gb, 0, none⟩) p.ns.length gc) := rfl
      rw [hpv] at hL
      dsimp only [pvC] at hL
      repeat (first | (refine RunH ?_; intro w hL hB; try clear w) | (refine Both.mk ?_ ?_ <;> conv => whnf) | fail)
      refine Rv.buildS ttOk hL tl22 tl30 rfl rfl (by intro u hu; simp only [List.mem_singleton] at hu; subst hu; rfl) (by decide) (by decide) hB fun bo w hL hB => ?_
      conv => whnf
      refine Rv.appendS ttOk hL tl22 tl30 rfl (by decide) 3 rfl (hL.rowN (i := 0) rfl) (allOne_mem rfl) (by simp only [maxLen]; omega) (by omega) hB fun vo w hL hB => ?_
      dsimp only [List.set] at hL
      conv => whnf
      repeat (first | (refine RunH ?_; intro w hL hB; try clear w) | (refine Both.mk ?_ ?_ <;> conv => whnf) | fail)
      refine ⟨(z + 1, vo, G ++ [(p, gb, gc)]), ⟨rfl, rfl, rfl, rfl, rfl, rfl, trivial⟩, ⟨by omega, hB, by rw [hsn, List.map_append, hG]; rfl, ?_⟩, (by first | omega | (dsimp only; omega))⟩
      have h9 := (hL.pop 0).pop 1
      dsimp only [List.eraseIdx] at h9
      have h8 := h9.perm (List.Perm.trans (List.Perm.swap _ _ _) (List.Perm.cons _ (List.Perm.swap _ _ _)))
      rw [List.map_append, List.flatMap_append, List.map_append, List.reverse_append, List.length_append]
      exact h8
  · obtain rfl : z = ps.length := by omega
    rw [List.take_length] at hG
    repeat (first | (refine RunH ?_; intro w hL hB; try clear w) | (refine Both.mk ?_ ?_ <;> conv => whnf) | fail)
    have hG1 : ∀ x ∈ G, x.1.ns.length ≤ 40 := fun x hx => by
      have h1 : x.1 ∈ G.map (·.1) := List.mem_map_of_mem hx
      rw [hG] at h1
      obtain ⟨p, hp, e⟩ := List.mem_map.1 h1
      rw [← e]; exact hV.ten p hp
    have hmemR : ∀ {x}, x ∈ G → gR x ∈ (G.map gR).reverse := fun hx => List.mem_reverse.2 (List.mem_map_of_mem hx)
    have hgv := gP_vols (hL.rowN (i := 0) rfl) (fun x hx => hL.hold (gR x) (List.mem_cons_of_mem _ (List.mem_cons_of_mem _ (hmemR hx)))) (by omega) hG1
    obtain ⟨oa, oc, rfl⟩ := (hL.rowN (i := 0) rfl).shape
    have hcp := next_fn _ _ _ (G.map gP) live ss c w hgv (hl.below hL.below) (hs.below hL.below) hcm
    rw [gP_pvs, hG] at hcp
    refine hcp.mono fun r w' hx => ?_
    obtain ⟨a, fl, ka, kc, na, nc, rfl, ho1, ho2, hS⟩ := hx.any
    replace hL := hL.adds hB hS
    replace hB := Nat.le_trans hB hS.below.size
    clear hcp hx
    conv => whnf
    unfold actV
    repeat (first | (refine RunH ?_; intro w hL hB; try clear w) | (refine Both.mk ?_ ?_ <;> conv => whnf) | fail)
    (refine Nw.sep hL hB (fun b12 w hL hB hb12 => ?_); conv => whnf)
    repeat (first | (refine RunH ?_; intro w hL hB; try clear w) | (refine Both.mk ?_ ?_ <;> conv => whnf) | fail)
    have hcr := nextR_fn _ _ _ ps live ss c w (hV.below hL.below) (hl.below hL.below) hll (hs.below hL.below)
    refine hcr.mono fun r w' hx => ?_
    obtain ⟨a', fl', xa, xc, ya, yc, rfl, ho3, ho4, hS2⟩ := hx.any
    obtain ⟨rfl, rfl⟩ : fl = fl' ∧ a = a' := by
      rw [ho1] at ho3
      cases fl <;> cases fl' <;> simp at ho3
      · exact ⟨rfl, by rw [ho2 rfl, ho4 rfl]⟩
      · exact ⟨rfl, ho3⟩
    replace hL := hL.adds hB hS2
    replace hB := Nat.le_trans hB hS2.below.size
    conv => whnf
    (refine Nw.sep hL hB (fun b14 w hL hB hb14 => ?_); conv => whnf)
    unfold actV
    repeat (first | (refine RunH ?_; intro w hL hB; try clear w) | (refine Both.mk ?_ ?_ <;> conv => whnf) | fail)
    refine Br.yes (by simp) ?_
    conv => whnf
    repeat (first | (refine RunH ?_; intro w hL hB; try clear w) | (refine Both.mk ?_ ?_ <;> conv => whnf) | fail)
    refine (actions_fn a _ _ _ _ w (hL.rowN (i := 4) rfl).to1.e (hL.rowN (i := 5) rfl).to1.e (hL.rowN (i := 1) rfl).to1.e (hL.rowN (i := 2) rfl).to1.e).mono fun r w hr => ?_
    obtain ⟨rfl, hw⟩ := hr
    replace hL := hL.call hB (Turns.of_below hw)
    replace hB := Nat.le_trans hB hw.size
    replace hL := ((hL.pop 0).pop 0).pop 0
    dsimp only [List.eraseIdx] at hL
    have hkle := (hL.rowN (i := 1) rfl).le
    have hele := (hL.rowN (i := 2) rfl).le
    conv => whnf
    repeat (first | (refine RunH ?_; intro w hL hB; try clear w) | (refine Both.mk ?_ ?_ <;> conv => whnf) | fail)
    refine V.loop (α := Nat × List Int) (fun z => [(0, .slice va ps.length vc), (9, .slice oa G.length oc), (12, .pointer (some ⟨b12, 0, none⟩)), (7, .pointer (some ⟨b7, 0, none⟩)), (13, .bool fl), (16, .int .i64 z.1)])
      (fun z w' => z.1 ≤ a.keep.length ∧ z.2.length = a.keep.length ∧ w0.heap.size ≤ w'.heap.size ∧ Sep Try.prog w0.heap.size w0 w' (.blk b12 [.int .i64 a.kind, .int .i64 a.vol, .int .i64 a.st, .slice ka a.keep.length kc, .slice na a.ns.length nc] 32 :: .row 3 1 (.slice ka a.keep.length kc) a.keep.length (numC z.2) :: .row 3 1 (.slice na a.ns.length nc) a.ns.length (numC a.ns) :: .row 30 6 (.slice oa G.length oc) G.length ((G.map gP).flatMap pvC) :: .blk b7 (cfC c) 26 :: (G.map gR).reverse)) (fun z => a.keep.length - z.1) (0, a.keep) ⟨rfl, rfl, rfl, rfl, rfl, rfl, trivial⟩ ⟨Nat.zero_le _, rfl, hB, hL⟩ ?_
    clear hL hB
    rintro ⟨i, xs⟩ w ⟨hi, hxl, hB, hL⟩
    dsimp only at hi hxl hL
    repeat (first | (refine RunH ?_; intro w hL hB; try clear w) | (refine Both.mk ?_ ?_ <;> conv => whnf) | fail)
    refine Br.dec (fun hlt => ?_) (fun hlt => ?_)
    · have hlt2 : (i : Int) < (a.keep.length : Int) := hlt
      obtain ⟨⟨kb, rfl⟩, _⟩ := own_addr (hL.at (i := 1) rfl) (by omega)
      repeat (first | (refine RunH ?_; intro w hL hB; try clear w) | (refine Both.mk ?_ ?_ <;> conv => whnf) | fail)
      intro o1 ho1
      obtain rfl : o1 = i := by omega
      conv => whnf
      refine St.rowS ttOk hL 1 rfl rfl rfl rfl (by rw [numC_len]; show o1 + 1 ≤ _; omega) hB (fun w hL hB => ?_)
      dsimp only [List.set] at hL
      rw [show splice (numC xs) o1 (cellsL (.int .i64 (-7))) = numC (xs.set o1 (-7)) from (splice_one (by rw [numC_len]; omega)).trans (numC_set _ _ _)] at hL
      conv => whnf
      repeat (first | (refine RunH ?_; intro w hL hB; try clear w) | (refine Both.mk ?_ ?_ <;> conv => whnf) | fail)
      exact ⟨(o1 + 1, xs.set o1 (-7)), ⟨rfl, rfl, rfl, rfl, rfl, rfl, trivial⟩, ⟨by dsimp only; omega, by dsimp only; rw [List.length_set]; exact hxl, hB, hL⟩, (by first | omega | (dsimp only; omega))⟩
    · obtain rfl : i = a.keep.length := by omega
      repeat (first | (refine RunH ?_; intro w hL hB; try clear w) | (refine Both.mk ?_ ?_ <;> conv => whnf) | fail)
      refine V.loop (α := Nat × List Int) (fun z => [(0, .slice va ps.length vc), (9, .slice oa G.length oc), (12, .pointer (some ⟨b12, 0, none⟩)), (7, .pointer (some ⟨b7, 0, none⟩)), (13, .bool fl), (17, .int .i64 z.1)])
        (fun z w' => z.1 ≤ a.ns.length ∧ z.2.length = a.ns.length ∧ w0.heap.size ≤ w'.heap.size ∧ Sep Try.prog w0.heap.size w0 w' (.blk b12 [.int .i64 a.kind, .int .i64 a.vol, .int .i64 a.st, .slice ka a.keep.length kc, .slice na a.ns.length nc] 32 :: .row 3 1 (.slice na a.ns.length nc) a.ns.length (numC z.2) :: .row 30 6 (.slice oa G.length oc) G.length ((G.map gP).flatMap pvC) :: .blk b7 (cfC c) 26 :: (G.map gR).reverse)) (fun z => a.ns.length - z.1) (0, a.ns) ⟨rfl, rfl, rfl, rfl, rfl, rfl, trivial⟩ ⟨Nat.zero_le _, rfl, hB, hL.pop 1⟩ ?_
      clear hL hB
      rintro ⟨i, xs⟩ w ⟨hi, hxl, hB, hL⟩
      dsimp only at hi hxl hL
      repeat (first | (refine RunH ?_; intro w hL hB; try clear w) | (refine Both.mk ?_ ?_ <;> conv => whnf) | fail)
      refine Br.dec (fun hlt => ?_) (fun hlt => ?_)
      · have hlt2 : (i : Int) < (a.ns.length : Int) := hlt
        obtain ⟨⟨kb, rfl⟩, _⟩ := own_addr (hL.at (i := 1) rfl) (by omega)
        repeat (first | (refine RunH ?_; intro w hL hB; try clear w) | (refine Both.mk ?_ ?_ <;> conv => whnf) | fail)
        intro o1 ho1
        obtain rfl : o1 = i := by omega
        conv => whnf
        refine St.rowS ttOk hL 1 rfl rfl rfl rfl (by rw [numC_len]; show o1 + 1 ≤ _; omega) hB (fun w hL hB => ?_)
        dsimp only [List.set] at hL
        rw [show splice (numC xs) o1 (cellsL (.int .i64 (-7))) = numC (xs.set o1 (-7)) from (splice_one (by rw [numC_len]; omega)).trans (numC_set _ _ _)] at hL
        conv => whnf
        repeat (first | (refine RunH ?_; intro w hL hB; try clear w) | (refine Both.mk ?_ ?_ <;> conv => whnf) | fail)
        exact ⟨(o1 + 1, xs.set o1 (-7)), ⟨rfl, rfl, rfl, rfl, rfl, rfl, trivial⟩, ⟨by dsimp only; omega, by dsimp only; rw [List.length_set]; exact hxl, hB, hL⟩, (by first | omega | (dsimp only; omega))⟩
      · obtain rfl : i = a.ns.length := by omega
        repeat (first | (refine RunH ?_; intro w hL hB; try clear w) | (refine Both.mk ?_ ?_ <;> conv => whnf) | fail)
        refine V.loop (α := Nat) (fun i => [(0, .slice va ps.length vc), (9, .slice oa G.length oc), (18, .int .i64 i)])
          (fun i w' => i ≤ ps.length ∧ w0.heap.size ≤ w'.heap.size ∧ Sep Try.prog w0.heap.size w0 w' (.row 30 6 (.slice oa G.length oc) G.length ((G.map gP).flatMap pvC) :: .blk b7 (cfC c) 26 :: (G.map gR).reverse)) (fun i => ps.length - i) 0 ⟨rfl, rfl, rfl, trivial⟩ ⟨Nat.zero_le _, hB, hL.tl.tl⟩ ?_
        clear hL hB
        rintro i w ⟨hi, hB, hL⟩
        repeat (first | (refine RunH ?_; intro w hL hB; try clear w) | (refine Both.mk ?_ ?_ <;> conv => whnf) | fail)
        refine Br.dec (fun hlt => ?_) (fun hlt => ?_)
        · have hgi : ps[i]? = some ps[i] := List.getElem?_eq_getElem (by omega)
          have hmem := List.getElem_mem (show i < ps.length by omega)
          have hG2 := congrArg (fun l => l[i]?) hG
          have hgG : G[i]? = some (G[i]'(by omega)) := List.getElem?_eq_getElem _
          have hxm := List.getElem_mem (show i < G.length by omega)
          generalize G[i]'(by omega) = x at hgG hxm
          simp only [List.getElem?_map, hgG, pvs, hgi, Option.map_some, Option.some.injEq] at hG2
          generalize ps[i] = pv at *
          obtain ⟨p, nv⟩ := pv
          have hns := hn _ hmem
          have hten := hV.ten _ hmem
          dsimp only at hns hten hG2
          obtain ⟨na', nc', hnv⟩ := hns.shape
          rw [numC_len] at hnv
          subst hnv
          obtain ⟨b, o, rfl, _⟩ := h.addr (by omega)
          have hres := hL.hold (gR x) (List.mem_cons_of_mem _ (List.mem_cons_of_mem _ (hmemR hxm)))
          obtain ⟨⟨ob, rfl⟩, _⟩ := own_addr (hL.at (i := 0) rfl) (by omega)
          have hgP : (G.map gP)[i]? = some (gP x) := by rw [List.getElem?_map, hgG]; rfl
          have hx40 := hG1 x hxm
          have hxn : x.1.ns = p.ns := by rw [hG2]
          have hcap := gR_cap hres
          have hrow := (gR_row hres).rowOf
          have hg99 : (numC (x.1.ns ++ [99]))[x.1.ns.length]? = some (.int .i64 99) := by simp [numC]
          repeat (first | (refine RunH ?_; intro w hL hB; try clear w) | (refine Both.mk ?_ ?_ <;> conv => whnf) | fail)
          intro o1 ho1
          conv => whnf
          repeat (first | (refine RunH ?_; intro w hL hB; try clear w) | (refine Both.mk ?_ ?_ <;> conv => whnf) | fail)
          refine Ld.rowF ttOk pvC_len 3 (hL.rowN (i := 0) rfl).rowOf rfl rfl hgP rfl (by omega) ?_
          conv => whnf
          repeat (first | (refine RunH ?_; intro w hL hB; try clear w) | (refine Both.mk ?_ ?_ <;> conv => whnf) | fail)
          intro o2 ho2
          conv => whnf
          repeat (first | (refine RunH ?_; intro w hL hB; try clear w) | (refine Both.mk ?_ ?_ <;> conv => whnf) | fail)
          refine Ld.rowF ttOk pvC_len 3 (h.below hL.below).rowOf rfl rfl hgi rfl (by omega) ?_
          conv => whnf
          repeat (first | (refine RunH ?_; intro w hL hB; try clear w) | (refine Both.mk ?_ ?_ <;> conv => whnf) | fail)
          refine (ints_fn _ _ x.1.ns p.ns w (gR_sl hres) (hns.below hL.below)).mono fun r w hr => ?_
          obtain ⟨rfl, hw⟩ := hr
          replace hL := hL.call hB (Turns.of_below hw)
          replace hB := Nat.le_trans hB hw.size
          rw [decide_eq_true hxn]
          conv => whnf
          repeat (first | (refine RunH ?_; intro w hL hB; try clear w) | (refine Both.mk ?_ ?_ <;> conv => whnf) | fail)
          intro n' c' q1 q2
          obtain rfl : n' = x.1.ns.length + 1 := by omega
          obtain rfl : c' = x.2.2 := by omega
          conv => whnf
          repeat (first | (refine RunH ?_; intro w hL hB; try clear w) | (refine Both.mk ?_ ?_ <;> conv => whnf) | fail)
          intro o3 ho3
          obtain rfl : o3 = x.1.ns.length := by omega
          conv => whnf
          repeat (first | (refine RunH ?_; intro w hL hB; try clear w) | (refine Both.mk ?_ ?_ <;> conv => whnf) | fail)
          refine Ld.row1 ttOk (gR_row (hL.hold (gR x) (List.mem_cons_of_mem _ (List.mem_cons_of_mem _ (hmemR hxm))))).rowOf rfl rfl (k := x.1.ns.length) hg99 (by omega) ?_
          conv => whnf
          repeat (first | (refine RunH ?_; intro w hL hB; try clear w) | (refine Both.mk ?_ ?_ <;> conv => whnf) | fail)
          exact ⟨i + 1, ⟨rfl, rfl, rfl, trivial⟩, ⟨by omega, hB, hL⟩, (by first | omega | (dsimp only; omega))⟩
        · obtain rfl : i = ps.length := by omega
          repeat (first | (refine RunH ?_; intro w hL hB; try clear w) | (refine Both.mk ?_ ?_ <;> conv => whnf) | (refine (known_fn _).mono fun r w hr => ?_; obtain ⟨hr, hw⟩ := hr; subst hr; replace hL := hL.call hB (Turns.of_below hw); replace hB := Nat.le_trans hB hw.size; conv => whnf) | fail)
          exact ⟨rfl, hL.below⟩
end Go.Proofs.Ythifnfoppamkiaa
