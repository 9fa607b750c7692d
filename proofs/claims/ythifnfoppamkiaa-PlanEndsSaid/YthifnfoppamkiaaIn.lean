/- Plan: the code's loadsOf. Nothing is claimed here. -/
import Derived.Test.YthifnfoppamkiaaIm
import Derived.Test.YthifnfoppamkiaaSd
namespace Go.Proofs.Ythifnfoppamkiaa
open Go.RowKit
set_option linter.unusedVariables false
set_option linter.unusedSimpArgs false
set_option maxRecDepth 100000

def loadC (f : Int → Nat) : List Value := (numS 64).map fun s => .int .i64 (f s : Int)
theorem loadC_len (f : Int → Nat) : (loadC f).length = 64 := by simp [loadC, numS]
theorem loadC_get (f : Int → Nat) {x : Int} (h0 : 0 ≤ x) (h1 : x < 64) : (loadC f)[x.toNat]? = some (.int .i64 (f x : Int)) := by
  obtain ⟨m, rfl⟩ := Int.eq_ofNat_of_zero_le h0
  simp [loadC, numS, List.getElem?_range (show m < 64 by omega)]
theorem loadC_set (f g : Int → Nat) {x : Int} (h0 : 0 ≤ x) (h1 : x < 64) (hx : g x = f x + 1) (hn : ∀ y, y ≠ x → g y = f y) : (loadC f).set x.toNat (.int .i64 ((f x : Int) + 1)) = loadC g := by
  apply List.ext_getElem
  · simp [loadC_len]
  · intro i hi hi'
    rw [List.length_set, loadC_len] at hi
    have e : ∀ (f : Int → Nat) (h : i < (loadC f).length), (loadC f)[i] = .int .i64 (f (i : Int) : Int) := fun f h => by simp [loadC, numS]
    rw [List.getElem_set, e, e]
    split
    · rename_i hxi
      have : x = (i : Int) := by omega
      subst this
      rw [hx]; rfl
    · rename_i hxi
      rw [hn _ (by omega)]
theorem loadC_one (f : Int → Nat) : ∀ u ∈ loadC f, u.oneCell' = true := by
  intro u hu
  obtain ⟨n, _, rfl⟩ := List.mem_map.1 hu
  rfl
theorem count_take {ns : List Int} {j : Nat} {x : Int} (h : ns[j]? = some x) (s : Int) : (ns.take (j + 1)).count s = (ns.take j).count s + if x = s then 1 else 0 := by
  obtain ⟨hj, rfl⟩ := List.getElem?_eq_some_iff.1 h
  rw [List.take_succ_eq_append_getElem hj, List.count_append]
  by_cases e : ns[j] = s <;> simp [e]
theorem loadC_congr {f g : Int → Nat} (h : ∀ s, 0 ≤ s → s < 64 → f s = g s) : loadC f = loadC g := by
  unfold loadC
  refine List.map_congr_left fun s hs => ?_
  have := numS_mem.1 hs
  rw [h s this.1 (by omega)]
theorem V.blkI {P : Program} {B : Nat} {w0 w : World} {L : List Res} (hL : Sep P B w0 w L) {n : Nat} {b : Nat} {cs cs' : List Value} {e : TypeId} (hn : L[n]? = some (.blk b cs e)) (h : cs = cs') : Sep P B w0 w (L.set n (.blk b cs' e)) := by
  subst h
  rw [set_same hn]; exact hL

set_option maxHeartbeats 8000000 in
theorem loadsOf_fn (v : Value) (ps : List (PV × Value)) (w0 : World) (h : VolS w0 v ps) : Fn Try.prog 19 #[v] w0 fun r w' => r = .agg (loadC (loadS (pvs ps))).toArray ∧ Below w0.heap.size w0 w' := by
  obtain ⟨va, vc, rfl⟩ := h.sl.shape
  have hL := Sep.start Try.prog w0
  have hB := Nat.le_refl w0.heap.size
  have hfew := h.few
  refine Fn.mk Try.func19 rfl (by kernel_rfl) Try.ntmps19 rfl (by rw [Try.results19]) ?_
  repeat (first | (refine RunH ?_; intro w hL hB; try clear w) | (refine Both.mk ?_ ?_ <;> conv => whnf) | fail)
  (refine Nw.sep hL hB (fun b2 w hL hB hb2 => ?_); conv => whnf)
  repeat (first | (refine RunH ?_; intro w hL hB; try clear w) | (refine Both.mk ?_ ?_ <;> conv => whnf) | fail)
  refine V.loop (α := Nat) (fun z => [(2, .pointer (some ⟨b2, 0, none⟩)), (7, .slice va ps.length vc), (8, .int .i64 ps.length), (9, .int .i64 z)])
    (fun z w' => z ≤ ps.length ∧ w0.heap.size ≤ w'.heap.size ∧ Sep Try.prog w0.heap.size w0 w' [.blk b2 (loadC (loadS (pvs (ps.take z)))) 52]) (fun z => ps.length - z) 0 ⟨rfl, rfl, rfl, rfl, trivial⟩ ⟨by omega, hB, hL⟩ ?_
  rintro k w ⟨hk, hB, hL⟩
  repeat (first | (refine RunH ?_; intro w hL hB; try clear w) | (refine Both.mk ?_ ?_ <;> conv => whnf) | fail)
  refine Br.dec (fun hlt => ?_) (fun hlt => ?_)
  · have hke : k < ps.length := by omega
    have hge : ps[k]? = some ps[k] := List.getElem?_eq_getElem hke
    have hmem := List.getElem_mem hke
    have hsn := pvs_take ps hge
    have hld := h.load (k + 1)
    generalize hev : ps[k] = pv at *
    obtain ⟨p, nv⟩ := pv
    rw [hsn] at hld
    simp only [loadS_snoc] at hld
    have hns := h.ns _ hmem
    have hten := h.ten _ hmem
    dsimp only at hns hten hld hsn
    obtain ⟨na, nc, hnv⟩ := hns.shape
    rw [numC_len] at hnv
    subst hnv
    obtain ⟨b, o, rfl, hr⟩ := (h.sl.below hL.below).addr (by omega)
    repeat (first | (refine RunH ?_; intro w hL hB; try clear w) | (refine Both.mk ?_ ?_ <;> conv => whnf) | fail)
    intro o' ho'
    conv => whnf
    refine Ld.rowN ttOk pvC_len hr rfl rfl rfl hge (by omega) ?_
    conv => whnf
    (refine Nw.sep hL hB (fun b4 w hL hB hb4 => ?_); conv => whnf)
    repeat (first | (refine RunH ?_; intro w hL hB; try clear w) | (refine Both.mk ?_ ?_ <;> conv => whnf) | fail)
    dsimp only [pvC, cellsL, overL, splice] at hL
    refine V.loop (α := Nat) (fun z => [(2, .pointer (some ⟨b2, 0, none⟩)), (7, .slice (some ⟨b, o, none⟩) ps.length vc), (8, .int .i64 ps.length), (9, .int .i64 k), (14, .slice na p.ns.length nc), (15, .int .i64 p.ns.length), (16, .int .i64 z)])
      (fun z w' => z ≤ p.ns.length ∧ w0.heap.size ≤ w'.heap.size ∧ Sep Try.prog w0.heap.size w0 w' [.blk b2 (loadC fun s => loadS (pvs (ps.take k)) s + (p.ns.take z).count s) 52]) (fun z => p.ns.length - z) 0 ⟨rfl, rfl, rfl, rfl, rfl, rfl, rfl, trivial⟩ ⟨by omega, hB, by simpa using hL.tl⟩ ?_
    clear hL hB
    rintro z w ⟨hz, hB, hL⟩
    repeat (first | (refine RunH ?_; intro w hL hB; try clear w) | (refine Both.mk ?_ ?_ <;> conv => whnf) | fail)
    refine Br.dec (fun hlt => ?_) (fun hlt => ?_)
    · have hze : z < p.ns.length := by omega
      have hgz : p.ns[z]? = some p.ns[z] := List.getElem?_eq_getElem hze
      have hct := count_take hgz
      generalize p.ns[z] = x at hgz hct
      have hcl : ∀ s, (p.ns.take z).count s ≤ p.ns.count s := fun s => (List.take_sublist z p.ns).count_le _
      obtain ⟨bn, on, rfl, hrn⟩ := (hns.below hL.below).sl.toN.addr (by omega)
      repeat (first | (refine RunH ?_; intro w hL hB; try clear w) | (refine Both.mk ?_ ?_ <;> conv => whnf) | fail)
      intro o1 ho1
      conv => whnf
      refine Ld.row1 ttOk hrn rfl rfl (k := z) (numC_get hgz) (by omega) ?_
      conv => whnf
      by_cases hx : 0 ≤ x ∧ x < 64
      · have hgx := loadC_get (fun s => loadS (pvs (ps.take k)) s + (p.ns.take z).count s) hx.1 hx.2
        have hset := loadC_set (fun s => loadS (pvs (ps.take k)) s + (p.ns.take z).count s) (fun s => loadS (pvs (ps.take k)) s + (p.ns.take (z + 1)).count s) hx.1 hx.2 (by rw [hct, if_pos rfl]; omega) (fun y hy => by rw [hct, if_neg (Ne.symm hy)]; omega)
        have hldx := hld x
        have hclx := hcl x
        have hll := loadC_len (fun s => loadS (pvs (ps.take k)) s + (p.ns.take z).count s)
        generalize hF : loadC (fun s => loadS (pvs (ps.take k)) s + (p.ns.take z).count s) = F at *
        repeat (first | (refine RunH ?_; intro w hL hB; try clear w) | (refine Both.mk ?_ ?_ <;> conv => whnf) | fail)
        intro o2 ho2
        obtain rfl : o2 = x.toNat := by omega
        conv => whnf
        refine Ld.blk ttOk rfl rfl (hL.blk (i := 0) rfl) hgx ?_
        conv => whnf
        repeat (first | (refine RunH ?_; intro w hL hB; try clear w) | (refine Both.mk ?_ ?_ <;> conv => whnf) | fail)
        intro o3 ho3
        obtain rfl : o3 = x.toNat := by omega
        conv => whnf
        refine St.sep ttOk hL 0 rfl rfl rfl rfl (Nat.ble_eq_true_of_le (by rw [llen_eq, hll]; show x.toNat + 1 ≤ 64; omega)) hB (fun w hL hB => ?_)
        have hsp : splice F x.toNat (cellsL (.int .i64 (((loadS (pvs (ps.take k)) x + (p.ns.take z).count x : Nat) : Int) + 1))) = F.set x.toNat (.int .i64 (((loadS (pvs (ps.take k)) x + (p.ns.take z).count x : Nat) : Int) + 1)) := splice_one (by rw [hll]; omega)
        dsimp only [List.set] at hL
        rw [hsp, hset] at hL
        conv => whnf
        repeat (first | (refine RunH ?_; intro w hL hB; try clear w) | (refine Both.mk ?_ ?_ <;> conv => whnf) | fail)
        exact ⟨z + 1, ⟨rfl, rfl, rfl, rfl, rfl, rfl, rfl, trivial⟩, ⟨hze, hB, hL⟩, (by first | omega | (dsimp only; omega))⟩
      · have hsame : loadC (fun s => loadS (pvs (ps.take k)) s + (p.ns.take z).count s) = loadC (fun s => loadS (pvs (ps.take k)) s + (p.ns.take (z + 1)).count s) := loadC_congr fun s h0 h1 => by
          rw [hct, if_neg (fun e => hx (by omega))]; omega
        rw [hsame] at hL
        by_cases hx0 : 0 ≤ x
        · repeat (first | (refine RunH ?_; intro w hL hB; try clear w) | (refine Both.mk ?_ ?_ <;> conv => whnf) | fail)
          exact ⟨z + 1, ⟨rfl, rfl, rfl, rfl, rfl, rfl, rfl, trivial⟩, ⟨hze, hB, hL⟩, (by first | omega | (dsimp only; omega))⟩
        · repeat (first | (refine RunH ?_; intro w hL hB; try clear w) | (refine Both.mk ?_ ?_ <;> conv => whnf) | fail)
          exact ⟨z + 1, ⟨rfl, rfl, rfl, rfl, rfl, rfl, rfl, trivial⟩, ⟨hze, hB, hL⟩, (by first | omega | (dsimp only; omega))⟩
    · obtain rfl : z = p.ns.length := by omega
      rw [List.take_length] at hL
      repeat (first | (refine RunH ?_; intro w hL hB; try clear w) | (refine Both.mk ?_ ?_ <;> conv => whnf) | fail)
      refine ⟨k + 1, ⟨rfl, rfl, rfl, rfl, trivial⟩, ⟨hke, hB, ?_⟩, (by first | omega | (dsimp only; omega))⟩
      rw [hsn]
      have : loadS (pvs (ps.take k) ++ [p]) = fun s => loadS (pvs (ps.take k)) s + p.ns.count s := funext fun s => loadS_snoc _ _ _
      rw [this]; exact hL
  · obtain rfl : k = ps.length := by omega
    rw [List.take_length] at hL
    repeat (first | (refine RunH ?_; intro w hL hB; try clear w) | (refine Both.mk ?_ ?_ <;> conv => whnf) | fail)
    refine ⟨?_, hL.below⟩
    have hll := loadC_len (loadS (pvs ps))
    have e1 : takeL (dropL (loadC (loadS (pvs ps))) 0) 64 = loadC (loadS (pvs ps)) := by rw [takeL_eq, dropL_eq, List.drop_zero]; exact List.take_of_length_le (by omega)
    have e2 : splice (loadC (loadS (pvs ps))) 0 (loadC (loadS (pvs ps))) = loadC (loadS (pvs ps)) := by
      rw [splice_eq _ _ _ (by omega), List.take_zero, List.nil_append, List.drop_eq_nil_of_le (by omega), List.append_nil]
    show Value.agg (takeL (dropL (splice (loadC (loadS (pvs ps))) 0 (takeL (dropL (loadC (loadS (pvs ps))) 0) 64)) 0) 64).toArray = _
    rw [e1, e2, e1]
end Go.Proofs.Ythifnfoppamkiaa
