/- garnerref10: Sync, Get. WalPlays, plain: files by their names; what holds of both logs; Open. Nothing is claimed here. -/
import Derived.Test.YtjafamiaahabgaaGreatDoorK26
import Derived.Test.YtjafamiaahabgaaGreatDoorK27
import Derived.Test.YtjafamiaahabgaaGreatDoorK30
namespace Go.Proofs.YtjafamiaahabgaaGreatDoor
open Go.RowKit Go.Lib
set_option linter.unusedVariables false
set_option linter.unusedSimpArgs false
set_option maxRecDepth 100000

def syncD (pre : ByteArray) (R : List Fl) (D : List Nat) : List Fl := D.foldl (fun R n => syncS R (wnm pre n)) R
set_option maxHeartbeats 4000000 in
theorem rsync_fn {B k m room : Nat} {pre : ByteArray} {R : List Fl} {P : List (Nat × List (List UInt8))} {af : Nat} {D : List Nat} {F : List Res} (hp : 1 ≤ pre.size ∧ pre.size ≤ 55) {w0 w : World} (hDl : D.length ≤ 1000000) (hDn : ∀ n ∈ D, n ≤ 99999999) (hR : RlS B w0 w k m pre room R P af D F) :
    Fn Tryz.prog 51 #[.pointer (some ⟨m, 0, none⟩)] w fun r w' => r = .int .i64 0 ∧ RlS B w0 w' k m pre room (syncD pre R D) P af [] F := by
  obtain ⟨sv, sg, dv, rfl, hD⟩ := hR.of
  clear hR
  obtain ⟨dL, hL, hB, close⟩ := hD.open
  obtain ⟨da, dc, rfl⟩ := (show SlN w 1 dv D.length _ from hL.rowN (i := 2) rfl).shape
  clear hL hB close
  refine Fn.mk Tryz.func51 rfl (by kernel_rfl) Tryz.ntmps51 rfl (by rw [Tryz.results51]) ?_
  obtain ⟨dL, hL, hB, close⟩ := hD.open
  repeat (first | (refine RunH ?_; intro w hL hB; try clear w) | (refine Both.mk ?_ ?_ <;> conv => whnf) | fail)
  clear hL hB close
  refine V.loop (α := Nat) (fun i => [(0, .pointer (some ⟨m, 0, none⟩)), (3, .int .i64 (i : Int))])
    (fun i w' => i ≤ D.length ∧ RkS B w0 w' k room (syncD pre R (D.take i)) (rlR m k pre sv sg af (.slice da D.length dc) D ++ F)) (fun i => D.length - i) 0 ⟨rfl, rfl, trivial⟩ ⟨Nat.zero_le _, hD⟩ ?_
  clear hD
  rintro i w ⟨hi, hD⟩
  obtain ⟨dL, hL, hB, close⟩ := hD.open
  clear hD
  replace hL : Sep Tryz.prog B w0 w (.blk m [.pointer (some ⟨k, 0, none⟩), .string pre, sv, .int .i64 (af : Int), .slice da D.length dc] 128 :: .row 133 2 sv sg.length (sg.flatMap Rg.cells) :: .row 3 1 (.slice da D.length dc) D.length (D.map iN) :: (sg.flatMap Rg.res ++ F) ++ dL) := hL
  by_cases hlt : i < D.length
  · obtain ⟨dg, o, rfl, _⟩ := (show SlN w 1 _ D.length _ from hL.rowN (i := 2) rfl).addr (by omega)
    have hgi : (D.map iN)[i]? = some (iN D[i]) := by rw [List.getElem?_map, List.getElem?_eq_getElem hlt]; rfl
    have hn := hDn _ (List.getElem_mem hlt)
    have hts : D.take (i + 1) = D.take i ++ [D[i]] := List.take_succ_eq_append_getElem hlt
    generalize D[i] = n at *
    repeat (first | (refine RunH ?_; intro w hL hB; try clear w) | (refine Both.mk ?_ ?_ <;> conv => whnf) | fail)
    refine V.tree ttOk (fun x => Blk x m [.pointer (some ⟨k, 0, none⟩), .string pre, sv, .int .i64 (af : Int), .slice (some ⟨dg, o, none⟩) D.length dc] 128 ∧ Row x dg o (D.map iN)) (.q 0 (.q 1 (.q 2 (.q 3 (.q 4 (.q 5 (.q 6 (.q 7 (.q 8 (.q 9 (.q 10 (.q 11 (.q 12 (.q 13 (.q 14 (.alt 15 (.alt 16 .nil .stop) .stop)))))))))))))))) mixed (by decide +kernel) ⟨hL.drew.hold _ (.head _), (hL.drew.rowN (i := 2) rfl).rowOf⟩ ?_
    replace hL := hL.drew
    conv => whnf
    repeat' (first | (refine RunH ?_; intro w hL hB; try clear w) | (refine Br.dec (fun hbr => ?_) (fun hbr => ?_) <;> conv => whnf) | (refine Br.mk (fun hbr => ?_) (fun hbr => ?_) <;> conv => whnf) | (refine Both.mk ?_ ?_ <;> conv => whnf) | (refine Lq.of_class (fun x hx => Ld.blk ttOk rfl rfl hx.1 rfl rfl) ?_; conv => whnf) | (intro o1 ho1; conv => whnf) | (refine Lq.of_class (fun x hx => Ld.row1 ttOk hx.2 rfl rfl hgi (by omega) rfl) ?_; conv => whnf) | fail)
    refine (nameW_fn pre (by omega) n hn _).mono fun r w ⟨hr, hw⟩ => ?_
    subst hr
    replace hL := hL.call hB (Turns.of_below hw)
    replace hB := Nat.le_trans hB hw.size
    refine And.intro ⟨hL.hold _ (.head _), (hL.rowN (i := 2) rfl).rowOf⟩ ?_
    conv => whnf
    repeat (first | (refine RunH ?_; intro w hL hB; try clear w) | (refine Both.mk ?_ ?_ <;> conv => whnf) | fail)
    refine (syncR_fn (wnm pre n) (close (F' := rlR m k pre sv sg af (.slice (some ⟨dg, o, none⟩) D.length dc) D ++ F) hL hB)).mono fun r w ⟨hr, hD⟩ => ?_
    subst hr
    clear hL hB close
    obtain ⟨dL, hL, hB, close⟩ := hD.open
    refine And.intro ⟨hL.hold _ (.head _), (hL.rowN (i := 2) rfl).rowOf⟩ ?_
    conv => whnf
    repeat (first | (refine RunH ?_; intro w hL hB; try clear w) | (refine Both.mk ?_ ?_ <;> conv => whnf) | fail)
    refine ⟨i + 1, ⟨rfl, vint (by push_cast; rfl), trivial⟩, ⟨by omega, ?_⟩, (by first | omega | (dsimp only; omega))⟩
    rw [hts, syncD, List.foldl_append]
    exact hD
  · obtain rfl : i = D.length := by omega
    rw [List.take_length] at *
    repeat (first | (refine RunH ?_; intro w hL hB; try clear w) | (refine Both.mk ?_ ?_ <;> conv => whnf) | fail)
    refine ⟨rfl, ⟨sv, sg, .slice none 0 0, rfl, close (F' := rlR m k pre sv sg af (.slice none 0 0) [] ++ F) ?_ hB⟩⟩
    have h1 := (hL.pop 2).nilRow 3 1
    exact h1.perm (List.perm_middle (l₁ := [_, _]) (a := _)).symm
def getP (P : List (Nat × List (List UInt8))) (i : Int) : Option (List UInt8) := (P.find? fun p => decide ((p.1 : Int) ≤ i ∧ i < ((p.1 + p.2.length : Nat) : Int))).map fun p => p.2.getD (i - p.1).toNat []
theorem getP_fe (G : List Wg) (i : Int) : getP (G.map Wg.fe) i = getW G i := by
  rw [getP, getW, findW, List.find?_map, Option.map_map]
  rfl
theorem getP_none {sg : List Rg} {i : Int} (h : ∀ (j : Nat) (s : Rg), sg[j]? = some s → ¬ ((s.first : Int) ≤ i ∧ i < ((s.first + s.es.length : Nat) : Int))) : getP (sg.map Rg.fe) i = none := by
  rw [getP, List.find?_eq_none.2]
  · rfl
  · intro p hp
    obtain ⟨s, hs, rfl⟩ := List.mem_map.1 hp
    obtain ⟨j, hj⟩ := List.getElem?_of_mem hs
    have := h j s hj
    simpa [Rg.fe] using this
theorem getP_at {sg : List Rg} {i : Int} {j : Nat} {s : Rg} (hs : sg[j]? = some s) (h : ∀ (q : Nat) (s : Rg), q < j → sg[q]? = some s → ¬ ((s.first : Int) ≤ i ∧ i < ((s.first + s.es.length : Nat) : Int))) (h1 : (s.first : Int) ≤ i ∧ i < ((s.first + s.es.length : Nat) : Int)) :
    getP (sg.map Rg.fe) i = some ((s.es.map En.d).getD (i - s.first).toNat []) := by
  obtain ⟨hlt, hsj⟩ := List.getElem?_eq_some_iff.1 hs
  have hsp : sg = sg.take j ++ s :: sg.drop (j + 1) := by rw [← hsj, ← List.drop_eq_getElem_cons hlt, List.take_append_drop]
  rw [getP, hsp, List.map_append, List.find?_append, List.find?_eq_none.2]
  · rw [List.map_cons, List.find?_cons_of_pos (by simpa [Rg.fe] using h1)]
    rfl
  · intro p hp
    obtain ⟨q, hq, rfl⟩ := List.mem_map.1 hp
    obtain ⟨n, hn⟩ := List.getElem?_of_mem hq
    rw [List.getElem?_take] at hn
    split at hn
    · have := h n q (by assumption) hn
      simpa [Rg.fe] using this
    · cases hn
set_option maxHeartbeats 8000000 in
theorem rget_fn {k m : Nat} {pre : ByteArray} {sv dv : Value} {af : Nat} (sg : List Rg) (i : Int) (hi : -9223372036854775808 ≤ i ∧ i ≤ 9223372036854775807) (hlen : sg.length ≤ 1000000) (hfs : ∀ s ∈ sg, s.first ≤ 4000000000 ∧ s.es.length ≤ 4000000000) (w0 : World) (hC : Blk w0 m (rlC k pre sv af dv) 128) (hS : SlN w0 2 sv sg.length (sg.flatMap Rg.cells))
    (hE : ∀ s ∈ sg, Sl w0 s.lv (s.es.map En.v) ∧ ∀ e ∈ s.es, Sl w0 e.v (bv e.d) ∧ e.d.length ≤ 1073741824) :
    Fn Tryz.prog 52 #[.pointer (some ⟨m, 0, none⟩), .int .i64 i] w0 fun r w' => match getP (sg.map Rg.fe) i with
      | some x => ∃ u, r = .tuple #[u, .int .i64 0] ∧ w'.ownsRow w0.heap.size 5 1 u x.length (bv x) ∧ Below w0.heap.size w0 w'
      | none => r = .tuple #[.slice none 0 0, .int .i64 7] ∧ Below w0.heap.size w0 w' := by
  rw [rlC] at hC
  obtain ⟨sa, sc, rfl⟩ := hS.shape
  have hL := Sep.start Tryz.prog w0
  have hB := Nat.le_refl w0.heap.size
  have hC2 : ∀ {L : List Res} {x : World}, Sep Tryz.prog w0.heap.size w0 x L → Blk x m [.pointer (some ⟨k, 0, none⟩), .string pre, .slice sa sg.length sc, .int .i64 (af : Int), dv] 128 := fun h => hC.below h.below hC.lt
  refine Fn.mk Tryz.func52 rfl (by kernel_rfl) Tryz.ntmps52 rfl (by rw [Tryz.results52]) ?_
  repeat (first | (refine RunH ?_; intro w hL hB; try clear w) | (refine Both.mk ?_ ?_ <;> conv => whnf) | fail)
  refine V.loop (α := Nat) (fun j => [(0, .pointer (some ⟨m, 0, none⟩)), (1, .int .i64 i), (6, .int .i64 (j : Int))])
    (fun j w' => (j ≤ sg.length ∧ ∀ (q : Nat) (s : Rg), q < j → sg[q]? = some s → ¬ ((s.first : Int) ≤ i ∧ i < ((s.first + s.es.length : Nat) : Int))) ∧ w0.heap.size ≤ w'.heap.size ∧ Sep Tryz.prog w0.heap.size w0 w' []) (fun j => sg.length - j) 0 ⟨rfl, rfl, rfl, trivial⟩ ⟨⟨Nat.zero_le _, fun q s h => absurd h (by omega)⟩, hB, hL⟩ ?_
  clear hL hB
  rintro j w ⟨⟨hj, hno⟩, hB, hL⟩
  by_cases hlt : j < sg.length
  case neg =>
    obtain rfl : j = sg.length := by omega
    rw [getP_none fun q s hq => hno q s (List.getElem?_eq_some_iff.1 hq).1 hq]
    repeat (first | (refine RunH ?_; intro w hL hB; try clear w) | (refine Both.mk ?_ ?_ <;> conv => whnf) | (refine Ld.blk ttOk rfl rfl (hC2 hL) rfl ?_; conv => whnf) | fail)
    exact ⟨rfl, hL.below⟩
  have hgj : sg[j]? = some sg[j] := List.getElem?_eq_getElem hlt
  have hse := hE _ (List.getElem_mem hlt)
  have hsf := hfs _ (List.getElem_mem hlt)
  generalize sg[j] = s at *
  obtain ⟨g, o, rfl, hrow⟩ := (hS.below hL.below).addr (by omega)
  obtain ⟨la, lc, hlv⟩ := hse.1.shape
  rw [List.length_map] at hlv
  have hsc : s.cells = [.int .i64 (s.first : Int), .slice la s.es.length lc] := by rw [Rg.cells, hlv]
  repeat (first | (refine RunH ?_; intro w hL hB; try clear w) | (refine Both.mk ?_ ?_ <;> conv => whnf) | (refine Ld.blk ttOk rfl rfl (hC2 hL) rfl ?_; conv => whnf) | (intro o1 ho1; conv => whnf) | (refine Ld.rowN ttOk Rg.cells_len hrow rfl rfl rfl hgj (by omega) ?_; rw [hsc]; conv => whnf) | fail)
  (refine Nw.sep hL hB (fun b7 w hL hB hb7 => ?_); conv => whnf)
  repeat (first | (refine RunH ?_; intro w hL hB; try clear w) | (refine Both.mk ?_ ?_ <;> conv => whnf) | fail)
  by_cases h1 : (s.first : Int) ≤ i ∧ i < ((s.first + s.es.length : Nat) : Int)
  · obtain ⟨h1, h2⟩ := h1
    have h2' : i < (s.first : Int) + (s.es.length : Int) := by push_cast at h2; exact h2
    obtain ⟨q, hq⟩ : ∃ q : Nat, (q : Int) = i - s.first := ⟨(i - s.first).toNat, by omega⟩
    have hql : q < s.es.length := by omega
    have hge : (s.es.map En.v)[q]? = some (s.es[q]).v := by rw [List.getElem?_map, List.getElem?_eq_getElem hql]; rfl
    have hee := hse.2 _ (List.getElem_mem hql)
    have hgp := getP_at hgj hno ⟨h1, h2⟩
    have hgd : (s.es.map En.d).getD (i - s.first).toNat [] = (s.es[q]).d := by
      rw [show (i - (s.first : Int)).toNat = q by omega, List.getD_eq_getElem?_getD, List.getElem?_map, List.getElem?_eq_getElem hql]; rfl
    rw [hgd] at hgp
    rw [hgp]
    generalize s.es[q] = e at *
    obtain ⟨ea, ec, hev⟩ := hee.1.shape
    rw [bv_length] at hev
    rw [hlv] at hse
    obtain ⟨lg, lo, rfl, _⟩ := hse.1.addr (by omega)
    have hlrow := (hse.1.below hL.below).rowOf'
    repeat (first | (refine RunH ?_; intro w hL hB; try clear w) | (refine Both.mk ?_ ?_ <;> conv => whnf) | fail)
    refine Rv.buildS (len := 0) (vs := []) ttOk hL tl23 tl5 rfl rfl (by intro u hu; cases hu) (by decide) (by decide) hB fun bo w hL hB => ?_
    have hlrow := (hse.1.below hL.below).rowOf'
    conv => whnf
    repeat (first | (refine RunH ?_; intro w hL hB; try clear w) | (refine Both.mk ?_ ?_ <;> conv => whnf) | fail)
    intro o2 ho2
    conv => whnf
    repeat (first | (refine RunH ?_; intro w hL hB; try clear w) | (refine Both.mk ?_ ?_ <;> conv => whnf) | fail)
    refine Ld.row1 ttOk hlrow (k := q) tl23 rfl hge (by omega) ?_
    rw [hev]
    conv => whnf
    repeat (first | (refine RunH ?_; intro w hL hB; try clear w) | (refine Both.mk ?_ ?_ <;> conv => whnf) | fail)
    refine Rv.appendS (m := e.d.length) ttOk hL tl23 tl5 rfl (by decide) 0 rfl (by have h9 := (hee.1.below hL.below).toN; rw [bv_length, hev] at h9; exact h9) (bv_one _) (by simp only [maxLen]; omega) (by omega) hB fun v9 w hL hB => ?_
    dsimp only [List.set] at hL
    simp only [List.flatMap_nil, List.nil_append, Nat.zero_add] at hL
    obtain ⟨a9, c9, rfl⟩ := (show SlN w 1 v9 e.d.length _ from hL.rowN (i := 0) rfl).shape
    conv => whnf
    repeat (first | (refine RunH ?_; intro w hL hB; try clear w) | (refine Both.mk ?_ ?_ <;> conv => whnf) | fail)
    exact ⟨_, rfl, hL.ownR (i := 0) rfl, hL.below⟩
  · have hno2 : ∀ (q : Nat) (s' : Rg), q < j + 1 → sg[q]? = some s' → ¬ ((s'.first : Int) ≤ i ∧ i < ((s'.first + s'.es.length : Nat) : Int)) := fun q s' hq hs' => by
      rcases Nat.lt_or_ge q j with h | h
      · exact hno q s' h hs'
      · obtain rfl : q = j := by omega
        rw [hgj] at hs'
        injection hs' with hs'
        subst hs'
        exact h1
    by_cases h2 : (s.first : Int) ≤ i
    · have h3 : ¬ (i < (s.first : Int) + (s.es.length : Int)) := fun h => h1 ⟨h2, by push_cast; exact h⟩
      repeat (first | (refine RunH ?_; intro w hL hB; try clear w) | (refine Both.mk ?_ ?_ <;> conv => whnf) | fail)
      exact ⟨j + 1, ⟨rfl, rfl, vint (by push_cast; rfl), trivial⟩, ⟨⟨by omega, hno2⟩, hB, hL.tl⟩, (by first | omega | (dsimp only; omega))⟩
    · repeat (first | (refine RunH ?_; intro w hL hB; try clear w) | (refine Both.mk ?_ ?_ <;> conv => whnf) | fail)
      exact ⟨j + 1, ⟨rfl, rfl, vint (by push_cast; rfl), trivial⟩, ⟨⟨by omega, hno2⟩, hB, hL.tl⟩, (by first | omega | (dsimp only; omega))⟩
end Go.Proofs.YtjafamiaahabgaaGreatDoor
namespace Go.Proofs.YtjafamiaahabgaaGreatDoor
open Go.RowKit Go.Lib
set_option linter.unusedVariables false
set_option linter.unusedSimpArgs false
set_option maxRecDepth 100000

theorem getS_put : ∀ (S : List Fl) (g : Fl) (x : ByteArray), getS (putS S g) x = if x = g.nm then some g else getS S x
  | [], g, x => by
    show (if g.nm = x then some g else getS [] x) = (if x = g.nm then some g else getS [] x)
    by_cases h : g.nm = x
    · rw [if_pos h, if_pos h.symm]
    · rw [if_neg h, if_neg (fun e => h e.symm)]
  | f :: S, g, x => by
    rw [putS]
    split
    · rename_i h
      rw [getS, getS]
      by_cases hx : g.nm = x
      · rw [if_pos hx, if_pos hx.symm]
      · rw [if_neg hx, if_neg (fun e => hx e.symm), if_neg (fun e => hx (h ▸ e))]
    · rename_i h
      rw [getS, getS, getS_put S g x]
      by_cases hx : x = g.nm
      · rw [if_pos hx, if_pos hx, if_neg (fun e => h (e.trans hx))]
      · rw [if_neg hx, if_neg hx]
theorem getS_name : ∀ {S : List Fl} {x : ByteArray} {f : Fl}, getS S x = some f → f.nm = x
  | q :: S, x, f, h => by
    rw [getS] at h
    split at h
    · injection h with h; subst h; assumption
    · exact getS_name h
theorem getS_del : ∀ {S : List Fl} (_ : NdS S) (nm x : ByteArray), getS (delS S nm) x = if x = nm then none else getS S x
  | [], _, nm, x => by simp [delS, getS]
  | f :: S, h, nm, x => by
    have h2 : NdS S := (List.nodup_cons.1 h).2
    rw [delS]
    split
    · rename_i hf
      rw [getS]
      by_cases hx : x = nm
      · rw [if_pos hx, hx]
        refine getS_nm fun q hq he => ?_
        exact (List.nodup_cons.1 h).1 (List.mem_map.2 ⟨q, hq, he.trans hf.symm⟩)
      · rw [if_neg hx, if_neg (fun e => hx (e.symm.trans hf))]
    · rename_i hf
      rw [getS, getS, getS_del h2 nm x]
      by_cases hx : x = nm
      · rw [if_pos hx, if_pos hx, if_neg (fun e => hf (e.trans hx))]
      · rw [if_neg hx, if_neg hx]
theorem perm_get {R S : List Fl} (hR : NdS R) (hS : NdS S) (h : ∀ x, getS R x = getS S x) : R.Perm S := by
  have n1 : R.Nodup := (List.pairwise_map.1 hR).imp fun h e => h (congrArg Fl.nm e)
  have n2 : S.Nodup := (List.pairwise_map.1 hS).imp fun h e => h (congrArg Fl.nm e)
  refine (List.perm_ext_iff_of_nodup n1 n2).2 fun f => ?_
  have h1 := getS_iff hR (nm := f.nm) (f := f)
  have h2 := getS_iff hS (nm := f.nm) (f := f)
  rw [h f.nm] at h1
  constructor
  · intro hf
    exact (h2.1 (h1.2 ⟨hf, rfl⟩)).1
  · intro hf
    exact (h1.1 (h2.2 ⟨hf, rfl⟩)).1
def cutF (f : Fl) (n : Nat) : Fl := ⟨f.nm, f.d.take n, min n f.la⟩
theorem getS_cut (S : List Fl) (nm x : ByteArray) {n : Nat} (hn : ∀ f, getS S nm = some f → n ≤ f.d.length) : getS (cutS S nm (n : Int)) x = if x = nm then (getS S nm).map (fun f => cutF f n) else getS S x := by
  rw [cutS]
  cases hg : getS S nm with
  | none =>
    dsimp only
    by_cases hx : x = nm
    · rw [if_pos hx, hx, hg]; rfl
    · rw [if_neg hx]
  | some f =>
    dsimp only
    have h1 := hn f hg
    rw [if_neg (by omega), getS_put, Int.toNat_natCast]
    have h2 := getS_name hg
    by_cases hx : x = nm
    · rw [if_pos hx, if_pos hx, ← h2]; rfl
    · rw [if_neg hx, if_neg hx]
def lastF (f : Fl) : Fl := ⟨f.nm, f.d, f.d.length⟩
theorem getS_sync (S : List Fl) (nm x : ByteArray) : getS (syncS S nm) x = if x = nm then (getS S x).map lastF else getS S x := by
  rw [syncS]
  cases hg : getS S nm with
  | none =>
    dsimp only
    by_cases hx : x = nm
    · rw [if_pos hx, hx, hg]; rfl
    · rw [if_neg hx]
  | some f =>
    dsimp only
    rw [getS_put]
    have h2 := getS_name hg
    by_cases hx : x = nm
    · rw [if_pos hx, if_pos hx, hx, hg, ← h2]; rfl
    · rw [if_neg hx, if_neg hx]
theorem getS_syncs : ∀ (ns : List ByteArray) (S : List Fl) (x : ByteArray), (x ∈ ns → getS (ns.foldl syncS S) x = (getS S x).map lastF) ∧ (x ∉ ns → getS (ns.foldl syncS S) x = getS S x)
  | [], S, x => by simp
  | n :: ns, S, x => by
    obtain ⟨i1, i2⟩ := getS_syncs ns (syncS S n) x
    rw [getS_sync] at i1 i2
    rw [List.foldl_cons]
    refine ⟨fun h => ?_, fun h => ?_⟩
    · by_cases h2 : x ∈ ns
      · rw [i1 h2]
        split
        · cases getS S x <;> rfl
        · rfl
      · have h1 : x = n := (List.mem_cons.1 h).resolve_right h2
        rw [i2 h2, if_pos h1]
    · simp only [List.mem_cons, not_or] at h
      rw [i2 h.2, if_neg h.1]
theorem syncG_names (pre : ByteArray) : ∀ (G : List Wg) (S : List Fl), syncG pre S G = ((G.filter (·.dirty)).map fun g => wnm pre g.first).foldl syncS S
  | [], S => rfl
  | g :: G, S => by
    rw [syncG, List.foldl_cons]
    have ih := syncG_names pre G (syncStep pre S g)
    rw [syncG] at ih
    rw [ih, syncStep]
    cases hd : g.dirty with
    | true => rw [List.filter_cons_of_pos hd]; simp
    | false => rw [List.filter_cons_of_neg (by simp [hd])]; simp
theorem syncD_names (pre : ByteArray) (D : List Nat) (R : List Fl) : syncD pre R D = (D.map fun n => wnm pre n).foldl syncS R := by
  rw [syncD, List.foldl_map]
theorem NdS.put {S : List Fl} (h : NdS S) (g : Fl) : NdS (putS S g) := by
  refine ((putS_perm0 S g).map _).nodup_iff.2 ?_
  have h2 : NdS (delS S g.nm) := h.del _
  refine List.nodup_cons.2 ⟨fun hm => ?_, h2⟩
  obtain ⟨q, hq, hqn⟩ := List.mem_map.1 hm
  have h3 := (getS_iff h2 (nm := g.nm) (f := q)).2 ⟨hq, hqn⟩
  rw [getS_del h, if_pos rfl] at h3
  cases h3
theorem NdS.cut {S : List Fl} (h : NdS S) (nm : ByteArray) (n : Int) : NdS (cutS S nm n) := by
  rw [cutS]
  split
  · split
    · exact h
    · exact h.put _
  · exact h
/-- what holds of a log, of its disk, of the reference's list of numbers that are to be synced -/
structure PlW (pre : ByteArray) (S : List Fl) (G : List Wg) (af : Nat) (D : List Nat) : Prop where
  ch : ∃ n, 1 ≤ n ∧ ChG n G af
  first : ∀ g ∈ G, 1 ≤ g.first ∧ g.first ≤ 99999999
  file : ∀ g ∈ G, ∃ f, getS S (wnm pre g.first) = some f ∧ f.d.length = g.size
  recs : ∀ g ∈ G, ∀ k x, g.es[k]? = some x → recL (g.first + k) x ≤ 1048584
  only : ∀ x n f, getS S x = some f → numG pre x = some n → ∃ g ∈ G, g.first = n
  dirt : ∀ g ∈ G, g.dirty = true ↔ g.first ∈ D
  dn : ∀ n ∈ D, n ≤ 99999999
  afl : af ≤ 2000000000
theorem len_sub {α : Type} [DecidableEq α] : ∀ {l m : List α}, l.Nodup → (∀ x ∈ l, x ∈ m) → l.length ≤ m.length
  | [], m, _, _ => Nat.zero_le _
  | x :: l, m, h, hs => by
    have hx := hs x (List.mem_cons_self ..)
    have h1 := List.nodup_cons.1 h
    have ih := len_sub (m := m.erase x) h1.2 fun y hy => (List.mem_erase_of_ne (fun (e : y = x) => h1.1 (e ▸ hy))).2 (hs y (List.mem_cons_of_mem _ hy))
    rw [List.length_erase_of_mem hx] at ih
    have := List.length_pos_of_mem hx
    rw [List.length_cons]; omega
theorem PlW.len {pre : ByteArray} {S : List Fl} {G : List Wg} {af : Nat} {D : List Nat} (h : PlW pre S G af D) : G.length ≤ S.length := by
  obtain ⟨n, _, hc⟩ := h.ch
  have hr := hc.rises
  have hnd : (G.map fun g => wnm pre g.first).Nodup := by
    rw [List.Nodup, List.pairwise_map]
    refine hr.imp_of_mem fun ha hb hlt he => ?_
    have := wnm_inj (h.first _ ha).2 (h.first _ hb).2 he
    omega
  have := len_sub hnd (m := S.map (·.nm)) fun x hx => by
    obtain ⟨g, hg, rfl⟩ := List.mem_map.1 hx
    obtain ⟨f, hf, _⟩ := h.file g hg
    have h1 := getS_name hf
    have : f ∈ S := by
      have : ∀ {S : List Fl} {x : ByteArray} {f : Fl}, getS S x = some f → f ∈ S := by
        intro S
        induction S with
        | nil => intro x f h; cases h
        | cons q S ih =>
          intro x f h
          rw [getS] at h
          split at h
          · injection h with h; subst h; exact List.mem_cons_self ..
          · exact List.mem_cons_of_mem _ (ih h)
      exact this hf
    exact List.mem_map.2 ⟨f, this, h1⟩
  simpa using this
theorem PlW.small {pre : ByteArray} {S : List Fl} {G : List Wg} {af : Nat} {D : List Nat} (h : PlW pre S G af D) (hb : ∀ nm f, getS S nm = some f → f.d.length ≤ 1073741824) : ∀ g ∈ G, g.first ≤ 99999999 ∧ g.size ≤ 1073741824 := fun g hg => by
  obtain ⟨f, hf, hs⟩ := h.file g hg
  have := hb _ f hf
  exact ⟨(h.first g hg).2, by omega⟩
theorem rdW_recl : ∀ (f n : Nat) (b : List UInt8) (k : Nat) (x : List UInt8), (rdW f n b).1[k]? = some x → recL (n + k) x ≤ 1048584
  | 0, n, b, k, x, h => by simp [rdW] at h
  | f + 1, n, b, k, x, h => by
    unfold rdW at h
    split at h
    · rename_i hc
      have h1 := hdW_len hc.2
      cases k with
      | zero =>
        simp only [List.getElem?_cons_zero, Option.some.injEq] at h
        subst h
        have h2 : decE b = 0 := by
          have := hc.2
          simp only [hdW, decide_eq_true_eq] at this
          exact this.1
        have h3 : decN b ≤ 1048576 := by
          unfold decE at h2
          split at h2
          · cases h2
          split at h2
          · cases h2
          · omega
        rw [Nat.add_zero]; omega
      | succ k =>
        rw [List.getElem?_cons_succ] at h
        have := rdW_recl f (n + 1) _ k x h
        rw [show n + 1 + k = n + (k + 1) by omega] at this
        exact this
    · simp at h
/-- how far an Open is -/
structure OInv (pre : ByteArray) (S0 : List Fl) (o : Ost) (done : List ByteArray) : Prop where
  nd : NdS o.S
  rest : ∀ x, x ∉ done → getS o.S x = getS S0 x
  dom : ∀ x f, getS o.S x = some f → ∃ f', getS S0 x = some f'
  ch : ∃ n, 1 ≤ n ∧ ChG n o.G o.af
  seen : ∀ g ∈ o.G, wnm pre g.first ∈ done
  first : ∀ g ∈ o.G, 1 ≤ g.first ∧ g.first ≤ 99999999
  file : ∀ g ∈ o.G, ∃ f, getS o.S (wnm pre g.first) = some f ∧ f.d.length = g.size
  recs : ∀ g ∈ o.G, ∀ k x, g.es[k]? = some x → recL (g.first + k) x ≤ 1048584
  only : ∀ x ∈ done, ∀ n f, getS o.S x = some f → numG pre x = some n → ∃ g ∈ o.G, g.first = n
  dirt : ∀ g ∈ o.G, g.dirty = true
  afl : o.af ≤ 2000000000
theorem OInv.del {pre : ByteArray} {S0 : List Fl} {G : List Wg} {af : Nat} {S : List Fl} {good : Bool} {done : List ByteArray} {nm : ByteArray} (h : OInv pre S0 ⟨G, af, S, good⟩ done) (hnd : nm ∉ done) : OInv pre S0 ⟨G, af, delS S nm, false⟩ (nm :: done) := by
  have hg := getS_del h.nd nm
  refine ⟨h.nd.del nm, fun x hx => ?_, fun x f hf => ?_, h.ch, fun g hg => List.mem_cons_of_mem _ (h.seen g hg), h.first, fun g hg2 => ?_, h.recs, fun x hx n f hf hn => ?_, h.dirt, h.afl⟩
  · simp only [List.mem_cons, not_or] at hx
    dsimp only
    rw [hg, if_neg hx.1]
    exact h.rest x hx.2
  · dsimp only at hf
    rw [hg] at hf
    split at hf
    · cases hf
    · exact h.dom x f hf
  · dsimp only
    rw [hg, if_neg (fun (e : wnm pre g.first = nm) => hnd (e ▸ h.seen g hg2))]
    exact h.file g hg2
  · dsimp only at hf
    rw [hg] at hf
    split at hf
    · cases hf
    · rename_i hne
      rcases List.mem_cons.1 hx with hx | hx
      · exact absurd hx hne
      · exact h.only x hx n f hf hn
theorem OInv.add {pre : ByteArray} {S0 : List Fl} {G : List Wg} {af : Nat} {S S' : List Fl} {good good' : Bool} {done : List ByteArray} {n : Nat} {xs : List (List UInt8)} (h : OInv pre S0 ⟨G, af, S, good⟩ done) (hn : 1 ≤ n ∧ n ≤ 99999999) (hnd : wnm pre n ∉ done) (haf : G = [] ∨ n = af)
    (hS' : NdS S') (hx : ∀ x, x ≠ wnm pre n → getS S' x = getS S x) (hf : ∃ f, getS S' (wnm pre n) = some f ∧ f.d.length = lenW n xs) (hr : ∀ k x, xs[k]? = some x → recL (n + k) x ≤ 1048584) (hl : xs.length ≤ 1073741824) (hd : ∃ f, getS S0 (wnm pre n) = some f) :
    OInv pre S0 ⟨G ++ [⟨n, xs, true⟩], n + xs.length, S', good'⟩ (wnm pre n :: done) := by
  obtain ⟨q, hq, hc⟩ := h.ch
  have hc : ChG q G af := hc
  refine ⟨hS', fun x hx2 => ?_, fun x f hf2 => ?_, ?_, fun g hg => ?_, fun g hg => ?_, fun g hg => ?_, fun g hg => ?_, fun x hx2 m f hf2 hm => ?_, fun g hg => ?_, by dsimp only; omega⟩
  · simp only [List.mem_cons, not_or] at hx2
    dsimp only
    rw [hx x hx2.1]
    exact h.rest x hx2.2
  · dsimp only at hf2
    by_cases he : x = wnm pre n
    · rw [he]; exact hd
    · rw [hx x he] at hf2
      exact h.dom x f hf2
  · dsimp only
    rcases haf with rfl | rfl
    · exact ⟨n, hn.1, rfl, fun h => absurd rfl h, rfl⟩
    · refine ⟨q, hq, ChG.app hc (fun g hg he => ?_) ⟨rfl, fun h => absurd rfl h, rfl⟩⟩
      -- an empty one is the last, and its name is the same
      obtain ⟨A, C, rfl⟩ := List.append_of_mem hg
      obtain ⟨m, h1, h2⟩ := hc.split
      have h3 : C = [] := Decidable.byContradiction fun hne => h2.2.1 hne he
      subst h3
      have h4 : g.next = n := h2.2.2
      have h5 : g.first = n := by rw [Wg.next, he] at h4; simpa using h4
      exact hnd (h5 ▸ h.seen g hg)
  · rcases List.mem_append.1 hg with hg | hg
    · exact List.mem_cons_of_mem _ (h.seen g hg)
    · rw [List.mem_singleton.1 hg]; exact List.mem_cons_self ..
  · rcases List.mem_append.1 hg with hg | hg
    · exact h.first g hg
    · rw [List.mem_singleton.1 hg]; exact hn
  · rcases List.mem_append.1 hg with hg | hg
    · dsimp only
      rw [hx _ (fun (e : wnm pre g.first = wnm pre n) => hnd (e ▸ h.seen g hg))]
      exact h.file g hg
    · rw [List.mem_singleton.1 hg]; exact hf
  · rcases List.mem_append.1 hg with hg | hg
    · exact h.recs g hg
    · rw [List.mem_singleton.1 hg]; exact hr
  · dsimp only at hf2 ⊢
    by_cases he : x = wnm pre n
    · rw [he, numG_wnm hn.2] at hm
      injection hm with hm
      exact ⟨⟨n, xs, true⟩, by simp, hm⟩
    · rw [hx x he] at hf2
      rcases List.mem_cons.1 hx2 with h6 | h6
      · exact absurd h6 he
      · obtain ⟨g, hg, hgm⟩ := h.only x h6 m f hf2 hm
        exact ⟨g, List.mem_append_left _ hg, hgm⟩
  · rcases List.mem_append.1 hg with hg | hg
    · exact h.dirt g hg
    · rw [List.mem_singleton.1 hg]
theorem OInv.step {pre : ByteArray} {S0 : List Fl} (hb : ∀ nm f, getS S0 nm = some f → f.d.length ≤ 1073741824) {o : Ost} {done : List ByteArray} {nm : ByteArray} (h : OInv pre S0 o done) (hnd : nm ∉ done) (hin : ∃ f, getS S0 nm = some f) : OInv pre S0 (openStep pre o nm) (nm :: done) := by
  obtain ⟨G, af, S, good⟩ := o
  cases hng : numG pre nm with
  | none =>
    have e : openStep pre ⟨G, af, S, good⟩ nm = ⟨G, af, S, good⟩ := by rw [openStep, hng]
    rw [e]
    refine ⟨h.nd, fun x hx => h.rest x (fun h2 => hx (List.mem_cons_of_mem _ h2)), h.dom, h.ch, fun g hg => List.mem_cons_of_mem _ (h.seen g hg), h.first, h.file, h.recs, fun x hx n f hf hn => ?_, h.dirt, h.afl⟩
    rcases List.mem_cons.1 hx with rfl | hx
    · rw [hng] at hn; cases hn
    · exact h.only x hx n f hf hn
  | some n =>
    have hn := numG_le hng
    have hnm := numG_nm hng
    by_cases hbad : good = false ∨ n < 1 ∨ (G ≠ [] ∧ n ≠ af)
    · rw [openStep_bad hng hbad]
      exact h.del hnd
    · obtain ⟨f0, hf0⟩ := hin
      have hS : getS S nm = some f0 := by
        have := h.rest nm hnd
        dsimp only at this
        rw [this, hf0]
      have hfd : fileD S nm = f0.d := by rw [fileD, hS]
      have hbl := hb nm f0 hf0
      obtain ⟨xs, hxs⟩ : ∃ xs, (rdW ((fileD S nm).length + 1) n (fileD S nm)).1 = xs := ⟨_, rfl⟩
      have hrl := rdW_len ((fileD S nm).length + 1) n (fileD S nm)
      have hrr := fun k x => rdW_recl ((fileD S nm).length + 1) n (fileD S nm) k x
      rw [hxs] at hrl hrr
      have hg9 := lenW_ge n xs
      rw [openStep_ok hng hbad hxs, hfd]
      rw [hfd] at hrl
      have haf : G = [] ∨ n = af := by
        by_cases h1 : G = []
        · exact .inl h1
        · exact .inr (Decidable.byContradiction fun h2 => hbad (.inr (.inr ⟨h1, h2⟩)))
      have hn1 : 1 ≤ n := Nat.le_of_not_lt fun h1 => hbad (.inr (.inl h1))
      rw [hnm] at hnd hS hf0 ⊢
      split
      · rename_i h1
        exact h.add ⟨hn1, hn⟩ hnd haf h.nd (fun x _ => rfl) ⟨f0, hS, h1.symm⟩ hrr (by omega) ⟨f0, hf0⟩
      split
      · exact h.del hnd
      · have hc := fun x => getS_cut S (wnm pre n) x (n := lenW n xs) (fun f hf => by rw [hS] at hf; injection hf with hf; subst hf; omega)
        refine h.add ⟨hn1, hn⟩ hnd haf ?_ (fun x hx => by rw [hc, if_neg hx]) ⟨cutF f0 (lenW n xs), by rw [hc, if_pos rfl, hS]; rfl, by rw [cutF, List.length_take]; omega⟩ hrr (by omega) ⟨f0, hf0⟩
        exact NdS.cut h.nd _ _
theorem open_inv {pre : ByteArray} {S0 : List Fl} (hb : ∀ nm f, getS S0 nm = some f → f.d.length ≤ 1073741824) : ∀ (ns : List ByteArray) (o : Ost) (done : List ByteArray), OInv pre S0 o done → ns.Nodup → (∀ x ∈ ns, x ∉ done ∧ ∃ f, getS S0 x = some f) →
    ∃ done', OInv pre S0 (ns.foldl (openStep pre) o) done' ∧ (∀ x ∈ ns, x ∈ done') ∧ ∀ x ∈ done, x ∈ done'
  | [], o, done, h, _, _ => ⟨done, h, by simp, fun x hx => hx⟩
  | n :: ns, o, done, h, hnd, hx => by
    obtain ⟨h1, h2⟩ := hx n (List.mem_cons_self ..)
    have hn2 := List.nodup_cons.1 hnd
    obtain ⟨d, i1, i2, i3⟩ := open_inv hb ns _ (n :: done) (h.step hb h1 h2) hn2.2 fun x hx2 => by
      obtain ⟨h3, h4⟩ := hx x (List.mem_cons_of_mem _ hx2)
      exact ⟨by simp only [List.mem_cons, not_or]; exact ⟨fun (e : x = n) => hn2.1 (e ▸ hx2), h3⟩, h4⟩
    refine ⟨d, i1, fun x hx2 => ?_, fun x hx2 => i3 x (List.mem_cons_of_mem _ hx2)⟩
    rcases List.mem_cons.1 hx2 with rfl | hx2
    · exact i3 x (List.mem_cons_self ..)
    · exact i2 x hx2
/-- behind an Open all holds -/
theorem open_PlW {pre : ByteArray} {S : List Fl} (hnd : NdS S) (hb : ∀ nm f, getS S nm = some f → f.d.length ≤ 1073741824) : PlW pre (openG pre S).S (openG pre S).G (openG pre S).af ((openG pre S).G.map Wg.first) := by
  have h0 : OInv pre S ⟨[], 1, S, true⟩ [] := ⟨hnd, fun _ _ => rfl, fun x f hf => ⟨f, hf⟩, ⟨1, Nat.le_refl _, rfl⟩, by simp, by simp, by simp, by simp, by simp, by simp, by show 1 ≤ _; omega⟩
  have hinj : ∀ {x y : List UInt8}, (⟨x.toArray⟩ : ByteArray) = ⟨y.toArray⟩ → x = y := fun h => by
    have := congrArg (fun b : ByteArray => b.data.toList) h
    simpa using this
  have hmem : ∀ f ∈ S, f.nm ∈ (names S).map fun x => (⟨x.toArray⟩ : ByteArray) := fun f hf => by
    refine List.mem_map.2 ⟨nmB f.nm, (names_perm S).mem_iff.2 (List.mem_map.2 ⟨f, hf, rfl⟩), ?_⟩
    simp [nmB]
  have hns : ((names S).map fun x => (⟨x.toArray⟩ : ByteArray)).Nodup := by
    rw [List.Nodup, List.pairwise_map]
    exact (names_nd hnd).imp fun h e => h (hinj e)
  obtain ⟨d, h1, h2, _⟩ := open_inv hb _ _ [] h0 hns fun x hx => by
    refine ⟨by simp, ?_⟩
    obtain ⟨y, hy, rfl⟩ := List.mem_map.1 hx
    obtain ⟨f, hf, rfl⟩ := List.mem_map.1 ((names_perm S).mem_iff.1 hy)
    refine ⟨f, (getS_iff hnd).2 ⟨hf, ?_⟩⟩
    simp [nmB]
  rw [show ((names S).map fun x => (⟨x.toArray⟩ : ByteArray)).foldl (openStep pre) ⟨[], 1, S, true⟩ = openG pre S from rfl] at h1
  refine ⟨h1.ch, h1.first, h1.file, h1.recs, fun x n f hf hn => ?_, fun g hg => ?_, fun n hn => ?_, h1.afl⟩
  · obtain ⟨f', hf'⟩ := h1.dom x f hf
    obtain ⟨hm, hnm⟩ := (getS_iff hnd).1 hf'
    exact h1.only x (h2 x (hnm ▸ hmem f' hm)) n f hf hn
  · exact ⟨fun _ => List.mem_map.2 ⟨g, hg, rfl⟩, fun _ => h1.dirt g hg⟩
  · obtain ⟨g, hg, rfl⟩ := List.mem_map.1 hn
    exact (h1.first g hg).2
/-- the same of the files in another order -/
theorem open_perm {pre : ByteArray} : ∀ (ns : List ByteArray) (G : List Wg) (af : Nat) (S R : List Fl) (good : Bool), NdS S → R.Perm S →
    ∃ R', R'.Perm (ns.foldl (openStep pre) ⟨G, af, S, good⟩).S ∧ ns.foldl (openStep pre) ⟨G, af, R, good⟩ = ⟨(ns.foldl (openStep pre) ⟨G, af, S, good⟩).G, (ns.foldl (openStep pre) ⟨G, af, S, good⟩).af, R', (ns.foldl (openStep pre) ⟨G, af, S, good⟩).good⟩
  | [], G, af, S, R, good, _, hp => ⟨R, hp, rfl⟩
  | nm :: ns, G, af, S, R, good, hS, hp => by
    rw [List.foldl_cons, List.foldl_cons]
    cases hng : numG pre nm with
    | none =>
      have e : ∀ T, openStep pre ⟨G, af, T, good⟩ nm = ⟨G, af, T, good⟩ := fun T => by rw [openStep, hng]
      rw [e, e]
      exact open_perm ns G af S R good hS hp
    | some n =>
      by_cases hbad : good = false ∨ n < 1 ∨ (G ≠ [] ∧ n ≠ af)
      · rw [openStep_bad hng hbad, openStep_bad hng hbad]
        exact open_perm ns G af _ _ _ (hS.del nm) (delS_perm hS hp nm)
      · have hfd : fileD R nm = fileD S nm := by rw [fileD, fileD, getS_perm hS hp nm]
        rw [openStep_ok hng hbad rfl, openStep_ok hng hbad rfl, hfd]
        split
        · exact open_perm ns _ _ S R true hS hp
        split
        · exact open_perm ns G af _ _ _ (hS.del nm) (delS_perm hS hp nm)
        · refine open_perm ns _ _ _ _ _ ?_ (cutS_perm hS hp nm _)
          exact hS.cut nm _
theorem openG_perm {pre : ByteArray} {S R : List Fl} (hS : NdS S) (hp : R.Perm S) : (openG pre R).S.Perm (openG pre S).S ∧ (openG pre R).G = (openG pre S).G ∧ (openG pre R).af = (openG pre S).af := by
  obtain ⟨R', h1, h2⟩ := open_perm (pre := pre) ((names S).map fun x => (⟨x.toArray⟩ : ByteArray)) [] 1 S R true hS hp
  have e : openG pre R = ((names S).map fun x => (⟨x.toArray⟩ : ByteArray)).foldl (openStep pre) ⟨[], 1, R, true⟩ := by rw [openG, names_perm' hp]
  rw [e, h2]
  exact ⟨h1, rfl, rfl⟩
end Go.Proofs.YtjafamiaahabgaaGreatDoor
