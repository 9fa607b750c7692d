/- garnerref10: Cut. wal: Cut. Nothing is claimed here. -/
import Derived.Test.YtjafamiaahabgaaGreatDoorK29
import Derived.Test.YtjafamiaahabgaaGreatDoorK20
namespace Go.Proofs.YtjafamiaahabgaaGreatDoor
open Go.RowKit Go.Lib
set_option linter.unusedVariables false
set_option linter.unusedSimpArgs false
set_option maxRecDepth 100000

/-- a Cut, segment by segment -/
def rcP (pre : ByteArray) (i : Nat) : List (Nat × List (List UInt8)) → List Fl → List (Nat × List (List UInt8)) × List Fl
  | [], R => ([], R)
  | p :: ps, R => if i ≤ p.1 then rcP pre i ps (delS R (wnm pre p.1)) else
      if i < p.1 + p.2.length then ((p.1, p.2.take (i - p.1)) :: (rcP pre i ps (cutS R (wnm pre p.1) (lenW p.1 (p.2.take (i - p.1)) : Nat))).1, (rcP pre i ps (cutS R (wnm pre p.1) (lenW p.1 (p.2.take (i - p.1)) : Nat))).2) else
      (p :: (rcP pre i ps R).1, (rcP pre i ps R).2)
theorem lenW_take_succ {n q : Nat} {xs : List (List UInt8)} (h : q < xs.length) : lenW n (xs.take (q + 1)) = lenW n (xs.take q) + recL (n + q) xs[q] := by
  rw [List.take_succ_eq_append_getElem h, lenW_snoc, List.length_take, Nat.min_eq_left (by omega)]
set_option maxHeartbeats 16000000 in
theorem rcut_fn {B k m room : Nat} {pre : ByteArray} {R : List Fl} {G : List Wg} {af : Nat} {D : List Nat} {F : List Res} (i : Int) (hp : 1 ≤ pre.size ∧ pre.size ≤ 55) {w0 w : World} (hlen : G.length ≤ 1000000) (hfs : ∀ g ∈ G, g.first ≤ 99999999 ∧ g.size ≤ 1073741824) (haf : af ≤ 4000000000) (hes : ∀ g ∈ G, ∀ k x, g.es[k]? = some x → recL (g.first + k) x ≤ 1048584) (hR : RlS B w0 w k m pre room R (G.map Wg.fe) af D F) :
    Fn Tryz.prog 53 #[.pointer (some ⟨m, 0, none⟩), .int .i64 i] w fun r w' => r = .int .i64 (if mayW G af i = true then 0 else 1) ∧
      RlS B w0 w' k m pre room (if mayW G af i = true then (rcP pre i.toNat (G.map Wg.fe) R).2 else R) (if mayW G af i = true then (rcP pre i.toNat (G.map Wg.fe) R).1 else G.map Wg.fe) (if mayW G af i = true then i.toNat else af) D F := by
  obtain ⟨sv, sg, dv, hP, hD⟩ := hR.of
  clear hR
  have hsgl : sg.length = G.length := by have := congrArg List.length hP; simpa using this
  have hsf : ∀ s ∈ sg, s.first ≤ 99999999 ∧ s.es.length ≤ 1000000000 := fun s hs => by
    obtain ⟨j, hj⟩ := List.getElem?_of_mem hs
    have h7 : (sg.map Rg.fe)[j]? = some s.fe := by rw [List.getElem?_map, hj]; rfl
    rw [hP, List.getElem?_map] at h7
    obtain ⟨p, hp, hpq⟩ := Option.map_eq_some_iff.1 h7
    obtain ⟨h8, h10⟩ := fe_next hpq.symm
    have h9 := hfs p (List.mem_of_getElem? hp)
    have h11 := lenW_ge p.first p.es
    have h12 : p.size = lenW p.first p.es := rfl
    have h13 : p.next = p.first + p.es.length := rfl
    rw [Rg.next] at h8
    omega
  have hse : ∀ s ∈ sg, (∀ k (e : En), s.es[k]? = some e → recL (s.first + k) e.d ≤ 1048584) ∧ lenW s.first (s.es.map En.d) ≤ 1073741824 := fun s hs => by
    obtain ⟨j, hj⟩ := List.getElem?_of_mem hs
    have h7 : (sg.map Rg.fe)[j]? = some s.fe := by rw [List.getElem?_map, hj]; rfl
    rw [hP, List.getElem?_map] at h7
    obtain ⟨p, hp, hpq⟩ := Option.map_eq_some_iff.1 h7
    have h10 := (fe_next hpq.symm).2
    have hpe : p.es = s.es.map En.d := by injection hpq
    refine ⟨fun k e he => ?_, ?_⟩
    · rw [h10]
      exact hes p (List.mem_of_getElem? hp) k e.d (by rw [hpe, List.getElem?_map, he]; rfl)
    · have h9 := (hfs p (List.mem_of_getElem? hp)).2
      rw [h10, ← hpe]; exact h9
  have hlow : lowP (sg.map Rg.fe) af = lowW G af := by
    rw [hP]; cases G <;> rfl
  obtain ⟨dL, hL, hB, close⟩ := hD.open
  obtain ⟨sa, sc, rfl⟩ := (show SlN w 2 sv sg.length _ from hL.rowN (i := 1) rfl).shape
  refine Fn.mk Tryz.func53 rfl (by kernel_rfl) Tryz.ntmps53 rfl (by rw [Tryz.results53]) ?_
  repeat (first | (refine RunH ?_; intro w hL hB; try clear w) | (refine Both.mk ?_ ?_ <;> conv => whnf) | fail)
  refine (rbounds_fn sg w (hL.hold _ (.head _)) (hL.rowN (i := 1) rfl)).mono fun r w ⟨hr, hw⟩ => ?_
  rw [hlow] at hr
  subst hr
  replace hL := hL.call hB (Turns.of_below hw)
  replace hB := Nat.le_trans hB hw.size
  by_cases hmay : mayW G af i = true
  case neg =>
    have h1 : ¬ ((lowW G af : Int) ≤ i ∧ i ≤ (af : Int)) := by simpa [mayW] using hmay
    rw [if_neg hmay, if_neg hmay, if_neg hmay, if_neg hmay]
    conv => whnf
    by_cases h2 : i < (lowW G af : Int)
    · repeat (first | (refine RunH ?_; intro w hL hB; try clear w) | (refine Both.mk ?_ ?_ <;> conv => whnf) | fail)
      exact ⟨rfl, ⟨_, sg, dv, hP, close (F' := rlR m k pre _ sg af dv D ++ F) hL hB⟩⟩
    · have h3 : (af : Int) < i := by omega
      repeat (first | (refine RunH ?_; intro w hL hB; try clear w) | (refine Both.mk ?_ ?_ <;> conv => whnf) | fail)
      exact ⟨rfl, ⟨_, sg, dv, hP, close (F' := rlR m k pre _ sg af dv D ++ F) hL hB⟩⟩
  have h1 : (lowW G af : Int) ≤ i ∧ i ≤ (af : Int) := by simpa [mayW] using hmay
  rw [if_pos hmay, if_pos hmay, if_pos hmay, if_pos hmay, ← hP]
  obtain ⟨h1a, h1b⟩ := h1
  obtain ⟨iq, hiq⟩ : ∃ q : Nat, (q : Int) = i := ⟨i.toNat, by omega⟩
  have hiq2 : i.toNat = iq := by omega
  rw [hiq2]
  rw [← hiq] at h1a h1b ⊢
  clear hiq2 hiq
  have h1a' : ¬ ((iq : Int) < (lowW G af : Int)) := by omega
  have h1b' : ¬ ((af : Int) < (iq : Int)) := by omega
  conv => whnf
  repeat (first | (refine RunH ?_; intro w hL hB; try clear w) | (refine Both.mk ?_ ?_ <;> conv => whnf) | fail)
  have hD1 := close (F' := .row 133 2 (.slice none 0 0) 0 (([] : List Rg).flatMap Rg.cells) :: .blk m [.pointer (some ⟨k, 0, none⟩), .string pre, .slice sa sg.length sc, .int .i64 (af : Int), dv] 128 :: .row 133 2 (.slice sa sg.length sc) sg.length (sg.flatMap Rg.cells) :: .row 3 1 dv D.length (D.map iN) :: ((([] : List Rg).flatMap Rg.res ++ (sg.drop 0).flatMap Rg.res) ++ F)) (hL.nilRow 133 2) hB
  clear hL hB close hD
  refine V.loop (α := Nat × List Rg × Value × List Fl) (fun z => [(0, .pointer (some ⟨m, 0, none⟩)), (1, .int .i64 (iq : Int)), (7, z.2.2.1), (8, .int .i64 (z.1 : Int))])
    (fun z w' => (z.1 ≤ sg.length ∧ z.2.1.length ≤ z.1 ∧ rcP pre iq (sg.map Rg.fe) R = (z.2.1.map Rg.fe ++ (rcP pre iq ((sg.drop z.1).map Rg.fe) z.2.2.2).1, (rcP pre iq ((sg.drop z.1).map Rg.fe) z.2.2.2).2)) ∧
      RkS B w0 w' k room z.2.2.2 (.row 133 2 z.2.2.1 z.2.1.length (z.2.1.flatMap Rg.cells) :: .blk m [.pointer (some ⟨k, 0, none⟩), .string pre, .slice sa sg.length sc, .int .i64 (af : Int), dv] 128 :: .row 133 2 (.slice sa sg.length sc) sg.length (sg.flatMap Rg.cells) :: .row 3 1 dv D.length (D.map iN) :: ((z.2.1.flatMap Rg.res ++ (sg.drop z.1).flatMap Rg.res) ++ F))) (fun z => sg.length - z.1) (0, [], .slice none 0 0, R) ⟨rfl, rfl, rfl, rfl, trivial⟩ ⟨⟨Nat.zero_le _, by simp, by simp⟩, hD1⟩ ?_
  clear hD1
  rintro ⟨j, K, kv, Rj⟩ w ⟨⟨hj, hKl, hrd⟩, hD⟩
  dsimp only at hj hKl hrd hD ⊢
  obtain ⟨dL, hL, hB, close⟩ := hD.open
  clear hD
  obtain ⟨ka, kc, rfl⟩ := (show SlN w 2 kv K.length _ from hL.rowN (i := 0) rfl).shape
  replace hL : Sep Tryz.prog B w0 w (.row 133 2 (.slice ka K.length kc) K.length (K.flatMap Rg.cells) :: .blk m [.pointer (some ⟨k, 0, none⟩), .string pre, .slice sa sg.length sc, .int .i64 (af : Int), dv] 128 :: .row 133 2 (.slice sa sg.length sc) sg.length (sg.flatMap Rg.cells) :: .row 3 1 dv D.length (D.map iN) :: ((K.flatMap Rg.res ++ (sg.drop j).flatMap Rg.res) ++ F) ++ dL) := hL
  by_cases hlt : j < sg.length
  case neg =>
    obtain rfl : j = sg.length := by omega
    rw [List.drop_length, List.map_nil, rcP, List.append_nil] at hrd
    rw [List.drop_length] at hL
    rw [hrd]
    repeat (first | (refine RunH ?_; intro w hL hB; try clear w) | (refine Both.mk ?_ ?_ <;> conv => whnf) | fail)
    refine ⟨rfl, ⟨_, K, dv, rfl, close (F' := rlR m k pre (.slice ka K.length kc) K iq dv D ++ F) ?_ hB⟩⟩
    have h1 := (hL.pop 2).perm (List.Perm.swap _ _ _)
    rw [List.flatMap_nil, List.append_nil] at h1
    exact h1
  have hgj : sg[j]? = some sg[j] := List.getElem?_eq_getElem hlt
  have hsfj := hsf _ (List.getElem_mem hlt)
  have hsej := hse _ (List.getElem_mem hlt)
  have hdj : sg.drop j = sg[j] :: sg.drop (j + 1) := List.drop_eq_getElem_cons hlt
  have hmem := List.getElem_mem hlt
  generalize sg[j] = s at *
  rw [hdj, List.map_cons] at hrd
  rw [hdj, List.flatMap_cons] at hL
  have hfe : s.fe = (s.first, s.es.map En.d) := rfl
  have hrdR : iq ≤ s.first → rcP pre iq (sg.map Rg.fe) R = (K.map Rg.fe ++ (rcP pre iq ((sg.drop (j + 1)).map Rg.fe) (delS Rj (wnm pre s.first))).1, (rcP pre iq ((sg.drop (j + 1)).map Rg.fe) (delS Rj (wnm pre s.first))).2) := fun hc => by
    rw [hrd, rcP, hfe, if_pos hc]
  have hrdK : ¬ iq ≤ s.first → ¬ iq < s.first + s.es.length → rcP pre iq (sg.map Rg.fe) R = ((K ++ [s]).map Rg.fe ++ (rcP pre iq ((sg.drop (j + 1)).map Rg.fe) Rj).1, (rcP pre iq ((sg.drop (j + 1)).map Rg.fe) Rj).2) := fun hc hc2 => by
    rw [hrd, rcP, hfe, if_neg hc, if_neg (by rw [List.length_map]; exact hc2)]
    simp [hfe]
  have hrdC : ¬ iq ≤ s.first → iq < s.first + s.es.length → ∀ lv, rcP pre iq (sg.map Rg.fe) R = ((K ++ [(⟨s.first, lv, s.es.take (iq - s.first)⟩ : Rg)]).map Rg.fe ++ (rcP pre iq ((sg.drop (j + 1)).map Rg.fe) (cutS Rj (wnm pre s.first) (lenW s.first ((s.es.map En.d).take (iq - s.first)) : Nat))).1,
      (rcP pre iq ((sg.drop (j + 1)).map Rg.fe) (cutS Rj (wnm pre s.first) (lenW s.first ((s.es.map En.d).take (iq - s.first)) : Nat))).2) := fun hc hc2 lv => by
    rw [hrd, rcP, hfe, if_neg hc, if_pos (by rw [List.length_map]; exact hc2)]
    simp [Rg.fe, List.map_take]
  have hlvs : Sl w s.lv (s.es.map En.v) := (hL.hold (.ro s.lv (s.es.map En.v)) (List.mem_append_left _ (List.mem_cons_of_mem _ (List.mem_cons_of_mem _ (List.mem_cons_of_mem _ (List.mem_cons_of_mem _ (List.mem_append_left _ (List.mem_append_right _ (List.mem_append_left _ (List.mem_cons_self ..)))))))))).1
  obtain ⟨la, lc, hlv⟩ := hlvs.shape
  rw [List.length_map] at hlv
  have hsc : s.cells = [.int .i64 (s.first : Int), .slice la s.es.length lc] := by rw [Rg.cells, hlv]
  obtain ⟨g, o, rfl, _⟩ := (show SlN w 2 _ sg.length _ from hL.rowN (i := 2) rfl).addr (by omega)
  have hrow := (show SlN w 2 _ sg.length _ from hL.rowN (i := 2) rfl).rowOf
  repeat (first | (refine RunH ?_; intro w hL hB; try clear w) | (refine Both.mk ?_ ?_ <;> conv => whnf) | (intro o1 ho1; conv => whnf) | (refine Ld.rowN ttOk Rg.cells_len hrow rfl rfl rfl hgj (by omega) ?_; rw [hsc]; conv => whnf) | fail)
  (refine Nw.sep hL hB (fun b9 w hL hB hb9 => ?_); conv => whnf)
  clear hrow
  by_cases hc1 : iq ≤ s.first
  · have hc1' : (iq : Int) ≤ (s.first : Int) := by omega
    repeat (first | (refine RunH ?_; intro w hL hB; try clear w) | (refine Both.mk ?_ ?_ <;> conv => whnf) | fail)
    refine V.tree ttOk (fun x => Blk x m [.pointer (some ⟨k, 0, none⟩), .string pre, .slice (some ⟨g, o, none⟩) sg.length sc, .int .i64 (af : Int), dv] 128 ∧ Blk x b9 [.int .i64 (s.first : Int), .slice la s.es.length lc] 133) (.q 0 (.q 1 (.q 2 (.q 3 (.q 4 (.q 5 (.q 6 (.q 7 (.q 8 (.q 9 (.alt 10 (.alt 11 .nil .stop) .stop))))))))))) mixed (by decide +kernel) ⟨hL.drew.blk (i := 2) rfl, hL.drew.blk (i := 0) rfl⟩ ?_
    replace hL := hL.drew
    conv => whnf
    repeat' (first | (refine RunH ?_; intro w hL hB; try clear w) | (refine Br.dec (fun hbr => ?_) (fun hbr => ?_) <;> conv => whnf) | (refine Br.mk (fun hbr => ?_) (fun hbr => ?_) <;> conv => whnf) | (refine Both.mk ?_ ?_ <;> conv => whnf) | (refine Lq.of_class (fun x hx => Ld.blk ttOk rfl rfl hx.1 rfl rfl) ?_; conv => whnf) | (refine Lq.of_class (fun x hx => Ld.blk ttOk rfl rfl hx.2 rfl rfl) ?_; conv => whnf) | fail)
    refine (nameW_fn pre (by omega) s.first hsfj.1 _).mono fun r w ⟨hr, hw⟩ => ?_
    subst hr
    replace hL := hL.call hB (Turns.of_below hw)
    replace hB := Nat.le_trans hB hw.size
    refine And.intro ⟨hL.blk (i := 2) rfl, hL.blk (i := 0) rfl⟩ ?_
    conv => whnf
    repeat (first | (refine RunH ?_; intro w hL hB; try clear w) | (refine Both.mk ?_ ?_ <;> conv => whnf) | fail)
    refine (removeR_fn (wnm pre s.first) (close (F' := .blk b9 _ _ :: .row 133 2 (.slice ka K.length kc) K.length (K.flatMap Rg.cells) :: .blk m [.pointer (some ⟨k, 0, none⟩), .string pre, .slice (some ⟨g, o, none⟩) sg.length sc, .int .i64 (af : Int), dv] 128 :: .row 133 2 (.slice (some ⟨g, o, none⟩) sg.length sc) sg.length (sg.flatMap Rg.cells) :: .row 3 1 dv D.length (D.map iN) :: ((K.flatMap Rg.res ++ (s.res ++ (sg.drop (j + 1)).flatMap Rg.res)) ++ F)) hL hB)).mono fun r w ⟨hr, hD⟩ => ?_
    subst hr
    clear hL hB close
    obtain ⟨dL, hL, hB, close⟩ := hD.open
    refine And.intro ⟨hL.blk (i := 2) rfl, hL.blk (i := 0) rfl⟩ ?_
    conv => whnf
    repeat (first | (refine RunH ?_; intro w hL hB; try clear w) | (refine Both.mk ?_ ?_ <;> conv => whnf) | fail)
    have hDd := hD.sub (F' := .row 133 2 (.slice ka K.length kc) K.length (K.flatMap Rg.cells) :: .blk m [.pointer (some ⟨k, 0, none⟩), .string pre, .slice (some ⟨g, o, none⟩) sg.length sc, .int .i64 (af : Int), dv] 128 :: .row 133 2 (.slice (some ⟨g, o, none⟩) sg.length sc) sg.length (sg.flatMap Rg.cells) :: .row 3 1 dv D.length (D.map iN) :: ((K.flatMap Rg.res ++ (sg.drop (j + 1)).flatMap Rg.res) ++ F)) (.cons _ (.cons_cons _ (.cons_cons _ (.cons_cons _ (.cons_cons _ (((List.Sublist.refl _).append (List.sublist_append_right _ _)).append (.refl F)))))))
    exact ⟨(j + 1, K, .slice ka K.length kc, delS Rj (wnm pre s.first)), ⟨rfl, rfl, rfl, vint (by push_cast; rfl), trivial⟩, ⟨⟨by omega, Nat.le_succ_of_le hKl, hrdR hc1⟩, hDd⟩, (by first | omega | (dsimp only; omega))⟩
  have hc1' : ¬ ((iq : Int) ≤ (s.first : Int)) := by omega
  by_cases hc2 : iq < s.first + s.es.length
  case neg =>
    have hc2' : ¬ ((iq : Int) < (s.first : Int) + (s.es.length : Int)) := by omega
    repeat (first | (refine RunH ?_; intro w hL hB; try clear w) | (refine Both.mk ?_ ?_ <;> conv => whnf) | fail)
    refine Rv.buildS (len := 1) ttOk hL tl126 tl133 rfl rfl (by intro u hu; simp only [List.mem_singleton] at hu; subst hu; rfl) (by decide) (by decide) hB fun bo w hL hB => ?_
    replace hL : Sep Tryz.prog B w0 w (.row 133 2 (.slice (some ⟨bo, 0, none⟩) 1 1) 1 [.int .i64 (s.first : Int), .slice la s.es.length lc] :: _) := hL
    conv => whnf
    repeat (first | (refine RunH ?_; intro w hL hB; try clear w) | (refine Both.mk ?_ ?_ <;> conv => whnf) | fail)
    refine Rv.appendS (m := 1) ttOk hL tl126 tl133 rfl (by decide) 2 rfl (hL.rowN (i := 0) rfl) (by intro u hu; simp only [List.mem_cons, List.not_mem_nil, or_false] at hu; rcases hu with rfl | rfl <;> rfl) (by simp only [maxLen]; omega) (by omega) hB fun v1 w hL hB => ?_
    dsimp only [List.set] at hL
    replace hL := hL.tl.tl
    obtain ⟨a1, c1, rfl⟩ := (show SlN w 2 v1 (K.length + 1) _ from hL.rowN (i := 0) rfl).shape
    conv => whnf
    repeat (first | (refine RunH ?_; intro w hL hB; try clear w) | (refine Both.mk ?_ ?_ <;> conv => whnf) | fail)
    refine ⟨(j + 1, K ++ [s], .slice a1 (K.length + 1) c1, Rj), ⟨rfl, rfl, rfl, vint (by push_cast; rfl), trivial⟩, ⟨⟨by omega, by simp; omega, hrdK hc1 hc2⟩, ?_⟩, (by first | omega | (dsimp only; omega))⟩
    dsimp only
    rw [List.length_append, List.flatMap_append, show [s].flatMap Rg.cells = [.int .i64 (s.first : Int), .slice la s.es.length lc] by simp [hsc]]
    exact close (F' := .row 133 2 (.slice a1 (K.length + 1) c1) (K.length + 1) (K.flatMap Rg.cells ++ [.int .i64 (s.first : Int), .slice la s.es.length lc]) :: .blk m [.pointer (some ⟨k, 0, none⟩), .string pre, .slice (some ⟨g, o, none⟩) sg.length sc, .int .i64 (af : Int), dv] 128 :: .row 133 2 (.slice (some ⟨g, o, none⟩) sg.length sc) sg.length (sg.flatMap Rg.cells) :: .row 3 1 dv D.length (D.map iN) :: (((K ++ [s]).flatMap Rg.res ++ (sg.drop (j + 1)).flatMap Rg.res) ++ F)) (by rw [List.flatMap_append, List.append_assoc (K.flatMap Rg.res), show [s].flatMap Rg.res = s.res by simp]; exact hL) hB
  have hc2' : (iq : Int) < (s.first : Int) + (s.es.length : Int) := by omega
  repeat (first | (refine RunH ?_; intro w hL hB; try clear w) | (refine Both.mk ?_ ?_ <;> conv => whnf) | fail)
  obtain ⟨hrec, hlen2⟩ := hsej
  obtain ⟨X, hX⟩ : ∃ X, X = .row 133 2 (.slice ka K.length kc) K.length (K.flatMap Rg.cells) :: .blk m [.pointer (some ⟨k, 0, none⟩), .string pre, .slice (some ⟨g, o, none⟩) sg.length sc, .int .i64 (af : Int), dv] 128 :: .row 133 2 (.slice (some ⟨g, o, none⟩) sg.length sc) sg.length (sg.flatMap Rg.cells) :: .row 3 1 dv D.length (D.map iN) :: ((K.flatMap Rg.res ++ (s.res ++ (sg.drop (j + 1)).flatMap Rg.res)) ++ F) ++ dL := ⟨_, rfl⟩
  replace hL : Sep Tryz.prog B w0 w (.blk b9 [.int .i64 (s.first : Int), .slice la s.es.length lc] 133 :: X) := by rw [hX]; exact hL
  have hin : ∀ r ∈ s.res, r ∈ X := fun r hr => by
    rw [hX]
    exact List.mem_append_left _ (List.mem_cons_of_mem _ (List.mem_cons_of_mem _ (List.mem_cons_of_mem _ (List.mem_cons_of_mem _ (List.mem_append_left _ (List.mem_append_right _ (List.mem_append_left _ hr)))))))
  have hle : ∀ {w' : World} {r : Res}, Sep Tryz.prog B w0 w' (r :: X) → Sl w' (.slice la s.es.length lc) (s.es.map En.v) ∧ ∀ e ∈ s.es, Sl w' e.v (bv e.d) := fun h => by
    refine ⟨hlv ▸ (h.hold (.ro s.lv (s.es.map En.v)) (List.mem_cons_of_mem _ (hin _ (List.mem_cons_self ..)))).1, fun e he => ?_⟩
    exact (h.hold (.ro e.v (bv e.d)) (List.mem_cons_of_mem _ (hin _ (List.mem_cons_of_mem _ (List.mem_map.2 ⟨e, he, rfl⟩))))).1
  have hxd : ∀ q, (s.es.map En.d).take q = (s.es.take q).map En.d := fun q => by rw [List.map_take]
  refine V.loop (α := Nat) (fun q => [(0, .pointer (some ⟨m, 0, none⟩)), (1, .int .i64 (iq : Int)), (7, .slice ka K.length kc), (8, .int .i64 (j : Int)), (9, .pointer (some ⟨b9, 0, none⟩)), (10, .int .i64 (lenW s.first ((s.es.map En.d).take q) : Nat)), (11, .int .i64 ((s.first + q : Nat) : Int))])
    (fun q w' => s.first + q ≤ iq ∧ B ≤ w'.heap.size ∧ Sep Tryz.prog B w0 w' (.blk b9 [.int .i64 (s.first : Int), .slice la s.es.length lc] 133 :: X)) (fun q => iq - (s.first + q)) 0 ⟨rfl, rfl, rfl, rfl, rfl, by simp [lenW]; rfl, vint (by push_cast; omega), trivial⟩ ⟨by omega, hB, hL⟩ ?_
  clear hL hB
  rintro q w ⟨hq, hB, hL⟩
  try dsimp only at *
  by_cases hqi : s.first + q < iq
  · have hql : q < s.es.length := by omega
    have hge : s.es[q]? = some s.es[q] := List.getElem?_eq_getElem hql
    obtain ⟨h1, h2⟩ := hle hL
    have hee := h2 _ (List.getElem_mem hql)
    have hrl := hrec q _ hge
    have hsuc := lenW_take_succ (n := s.first) (q := q) (xs := s.es.map En.d) (by rw [List.length_map]; exact hql)
    rw [List.getElem_map] at hsuc
    have hlt2 := lenW_take s.first (s.es.map En.d) (q + 1)
    generalize s.es[q] = e at *
    have hgev : (s.es.map En.v)[q]? = some e.v := by rw [List.getElem?_map, hge]; rfl
    obtain ⟨lg, lo, rfl, _⟩ := h1.addr (by omega)
    have hlrow := h1.rowOf'
    obtain ⟨ea, ec, hev⟩ := hee.shape
    rw [bv_length] at hev
    rw [hev] at hee hgev
    repeat (first | (refine RunH ?_; intro w hL hB; try clear w) | (refine Both.mk ?_ ?_ <;> conv => whnf) | fail)
    intro o2 ho2
    conv => whnf
    repeat (first | (refine RunH ?_; intro w hL hB; try clear w) | (refine Both.mk ?_ ?_ <;> conv => whnf) | fail)
    refine Ld.row1 ttOk hlrow (k := q) tl23 rfl hgev (by omega) ?_
    conv => whnf
    repeat (first | (refine RunH ?_; intro w hL hB; try clear w) | (refine Both.mk ?_ ?_ <;> conv => whnf) | fail)
    refine (recordR_fn (s.first + q) (by omega) _ e.d hrl w hee).mono fun r w ⟨ho, hw⟩ => ?_
    replace hL := hL.addRow hB hw ho
    replace hB := Nat.le_trans hB hw.size
    clear ho hw
    obtain ⟨ra, rc, rfl⟩ := (show SlN w 1 r (recL (s.first + q) e.d) _ from hL.rowN (i := 0) rfl).shape
    conv => whnf
    repeat (first | (refine RunH ?_; intro w hL hB; try clear w) | (refine Both.mk ?_ ?_ <;> conv => whnf) | fail)
    exact ⟨q + 1, ⟨rfl, rfl, rfl, rfl, rfl, vint (by rw [hsuc]; push_cast; rfl), vint (by push_cast; omega), trivial⟩, ⟨by omega, hB, hL.tl⟩, (by first | omega | (dsimp only; omega))⟩
  obtain rfl : iq = s.first + q := by omega
  rw [Nat.add_sub_cancel_left] at hrdC
  have hcl := lenW_take s.first (s.es.map En.d) q
  obtain ⟨n, hn⟩ : ∃ n, n = lenW s.first ((s.es.map En.d).take q) := ⟨_, rfl⟩
  rw [← hn] at hrdC hcl ⊢
  repeat (first | (refine RunH ?_; intro w hL hB; try clear w) | (refine Both.mk ?_ ?_ <;> conv => whnf) | fail)
  rw [hX] at hL
  clear hle hin hX
  refine V.tree ttOk (fun x => Blk x m [.pointer (some ⟨k, 0, none⟩), .string pre, .slice (some ⟨g, o, none⟩) sg.length sc, .int .i64 (af : Int), dv] 128 ∧ Blk x b9 [.int .i64 (s.first : Int), .slice la s.es.length lc] 133) (.q 0 (.q 1 (.q 2 (.q 3 (.q 4 (.q 5 (.q 6 (.q 7 (.q 8 (.q 9 (.q 11 (.alt 10 (.alt 12 .nil .stop) .stop)))))))))))) mixed (by decide +kernel) ⟨hL.drew.blk (i := 2) rfl, hL.drew.blk (i := 0) rfl⟩ ?_
  replace hL := hL.drew
  conv => whnf
  repeat' (first | (refine RunH ?_; intro w hL hB; try clear w) | (refine Br.dec (fun hbr => ?_) (fun hbr => ?_) <;> conv => whnf) | (refine Br.mk (fun hbr => ?_) (fun hbr => ?_) <;> conv => whnf) | (refine Both.mk ?_ ?_ <;> conv => whnf) | (refine Lq.of_class (fun x hx => Ld.blk ttOk rfl rfl hx.1 rfl rfl) ?_; conv => whnf) | (refine Lq.of_class (fun x hx => Ld.blk ttOk rfl rfl hx.2 rfl rfl) ?_; conv => whnf) | fail)
  refine (nameW_fn pre (by omega) s.first hsfj.1 _).mono fun r w ⟨hr, hw⟩ => ?_
  subst hr
  replace hL := hL.call hB (Turns.of_below hw)
  replace hB := Nat.le_trans hB hw.size
  refine And.intro ⟨hL.blk (i := 2) rfl, hL.blk (i := 0) rfl⟩ ?_
  conv => whnf
  repeat (first | (refine RunH ?_; intro w hL hB; try clear w) | (refine Both.mk ?_ ?_ <;> conv => whnf) | fail)
  refine (cutR_fn (wnm pre s.first) (n : Int) (close (F' := .blk b9 [.int .i64 (s.first : Int), .slice la s.es.length lc] 133 :: .row 133 2 (.slice ka K.length kc) K.length (K.flatMap Rg.cells) :: .blk m [.pointer (some ⟨k, 0, none⟩), .string pre, .slice (some ⟨g, o, none⟩) sg.length sc, .int .i64 (af : Int), dv] 128 :: .row 133 2 (.slice (some ⟨g, o, none⟩) sg.length sc) sg.length (sg.flatMap Rg.cells) :: .row 3 1 dv D.length (D.map iN) :: ((K.flatMap Rg.res ++ (s.res ++ (sg.drop (j + 1)).flatMap Rg.res)) ++ F)) hL hB)).mono fun r w ⟨hr, hD⟩ => ?_
  subst hr
  clear hL hB close
  obtain ⟨dL, hL, hB, close⟩ := hD.open
  clear hD
  refine And.intro ⟨hL.blk (i := 2) rfl, hL.blk (i := 0) rfl⟩ ?_
  have hlv2 : Sl w (.slice la s.es.length lc) (s.es.map En.v) := by
    rw [← hlv]
    exact (hL.hold (.ro s.lv (s.es.map En.v)) (List.mem_append_left _ (List.mem_cons_of_mem _ (List.mem_cons_of_mem _ (List.mem_cons_of_mem _ (List.mem_cons_of_mem _ (List.mem_cons_of_mem _ (List.mem_append_left _ (List.mem_append_right _ (List.mem_append_left _ (List.mem_cons_self ..))))))))))).1
  obtain ⟨t1, t2, t3⟩ := hlv2.len
  obtain ⟨lg, lo, rfl, _⟩ := hlv2.addr (by omega)
  have hql : q ≤ s.es.length := by omega
  conv => whnf
  repeat (first | (refine RunH ?_; intro w hL hB; try clear w) | (refine Both.mk ?_ ?_ <;> conv => whnf) | fail)
  intro n1 c1 p1 p2
  obtain rfl : q = n1 := by omega
  obtain rfl : lc = c1 := by omega
  conv => whnf
  repeat (first | (refine RunH ?_; intro w hL hB; try clear w) | (refine Both.mk ?_ ?_ <;> conv => whnf) | fail)
  refine Rv.buildS (len := 1) ttOk hL tl126 tl133 rfl rfl (by intro u hu; simp only [List.mem_singleton] at hu; subst hu; rfl) (by decide) (by decide) hB fun bo w hL hB => ?_
  replace hL : Sep Tryz.prog B w0 w (.row 133 2 (.slice (some ⟨bo, 0, none⟩) 1 1) 1 [.int .i64 (s.first : Int), .slice (some ⟨lg, lo, none⟩) q lc] :: _) := hL
  conv => whnf
  repeat (first | (refine RunH ?_; intro w hL hB; try clear w) | (refine Both.mk ?_ ?_ <;> conv => whnf) | fail)
  refine Rv.appendS (m := 1) ttOk hL tl126 tl133 rfl (by decide) 2 rfl (hL.rowN (i := 0) rfl) (by intro u hu; simp only [List.mem_cons, List.not_mem_nil, or_false] at hu; rcases hu with rfl | rfl <;> rfl) (by simp only [maxLen]; omega) (by omega) hB fun v1 w hL hB => ?_
  dsimp only [List.set] at hL
  replace hL := hL.tl.tl
  obtain ⟨a1, c1, rfl⟩ := (show SlN w 2 v1 (K.length + 1) _ from hL.rowN (i := 0) rfl).shape
  conv => whnf
  repeat (first | (refine RunH ?_; intro w hL hB; try clear w) | (refine Both.mk ?_ ?_ <;> conv => whnf) | fail)
  refine ⟨(j + 1, K ++ [⟨s.first, .slice (some ⟨lg, lo, none⟩) q lc, s.es.take q⟩], .slice a1 (K.length + 1) c1, cutS Rj (wnm pre s.first) (n : Int)), ⟨rfl, rfl, rfl, vint (by push_cast; rfl), trivial⟩, ⟨⟨by omega, by simp; omega, hrdC hc1 hc2 _⟩, ?_⟩, (by first | omega | (dsimp only; omega))⟩
  dsimp only
  rw [List.length_append, List.flatMap_append, show [(⟨s.first, .slice (some ⟨lg, lo, none⟩) q lc, s.es.take q⟩ : Rg)].flatMap Rg.cells = [.int .i64 (s.first : Int), .slice (some ⟨lg, lo, none⟩) q lc] by simp [Rg.cells]]
  refine close (F' := .row 133 2 (.slice a1 (K.length + 1) c1) (K.length + 1) (K.flatMap Rg.cells ++ [.int .i64 (s.first : Int), .slice (some ⟨lg, lo, none⟩) q lc]) :: .blk m [.pointer (some ⟨k, 0, none⟩), .string pre, .slice (some ⟨g, o, none⟩) sg.length sc, .int .i64 (af : Int), dv] 128 :: .row 133 2 (.slice (some ⟨g, o, none⟩) sg.length sc) sg.length (sg.flatMap Rg.cells) :: .row 3 1 dv D.length (D.map iN) :: (((K ++ [(⟨s.first, .slice (some ⟨lg, lo, none⟩) q lc, s.es.take q⟩ : Rg)]).flatMap Rg.res ++ (sg.drop (j + 1)).flatMap Rg.res) ++ F)) ?_ hB
  have e1 : ∀ (a b c d : Res), a :: b :: c :: d :: ((K.flatMap Rg.res ++ (s.res ++ (sg.drop (j + 1)).flatMap Rg.res)) ++ F) ++ dL = (a :: b :: c :: d :: K.flatMap Rg.res) ++ (.ro s.lv (s.es.map En.v)) :: (s.es.map En.res ++ ((sg.drop (j + 1)).flatMap Rg.res ++ (F ++ dL))) := fun a b c d => by simp [Rg.res]
  have h0 := hL
  replace h0 : Sep Tryz.prog B w0 w (_ :: _ :: _ :: _ :: ((K.flatMap Rg.res ++ (s.res ++ (sg.drop (j + 1)).flatMap Rg.res)) ++ F) ++ dL) := h0
  rw [e1] at h0
  have h1 := h0.perm List.perm_middle
  have hro : (Res.ro s.lv (s.es.map En.v)).holds Tryz.prog w := h1.hold _ (List.mem_cons_self ..)
  have hsq : Sl w (.slice (some ⟨lg, lo, none⟩) q lc) ((s.es.take q).map En.v) := by
    have h9 := hro.1
    rw [hlv] at h9
    have h10 := h9.takeO (k := q) (by rw [List.length_map]; exact hql) (c' := lc) (by omega) (Nat.le_refl _)
    rw [← List.map_take] at h10
    exact h10
  have h2 := h1.says (R' := .ro (.slice (some ⟨lg, lo, none⟩) q lc) ((s.es.take q).map En.v)) ⟨hsq, fun b hb => hro.2 b (by rw [hlv]; exact hb)⟩ (by rw [hlv]; rfl)
  have h3 := h2.perm List.perm_middle.symm
  have h4 := h3.sub ((List.Sublist.refl _).append (.cons_cons _ ((((List.take_sublist q s.es).map En.res)).append (.refl _))))
  have e2 : (K ++ [(⟨s.first, .slice (some ⟨lg, lo, none⟩) q lc, s.es.take q⟩ : Rg)]).flatMap Rg.res = K.flatMap Rg.res ++ (.ro (.slice (some ⟨lg, lo, none⟩) q lc) ((s.es.take q).map En.v) :: (s.es.take q).map En.res) := by
    rw [List.flatMap_append]; simp [Rg.res]
  rw [e2]
  simpa using h4
end Go.Proofs.YtjafamiaahabgaaGreatDoor
namespace Go.Proofs.YtjafamiaahabgaaGreatDoor
open Go.RowKit Go.Lib
set_option linter.unusedVariables false
set_option linter.unusedSimpArgs false
set_option maxRecDepth 100000

theorem Wn.init {g c : Nat} {pr post ps : List Value} {p : Value} (hok : (Wn.at g pr post c).ok (ps ++ [p])) :
    (Wn.at g pr (p :: post) c).val ps = .slice (some ⟨g, pr.length, none⟩) ps.length c ∧ (Wn.at g pr (p :: post) c).ok ps ∧ (Wn.at g pr (p :: post) c).res ps = (Wn.at g pr post c).res (ps ++ [p]) := by
  obtain ⟨k1, k2, k3⟩ := hok
  rw [List.length_append, List.length_singleton] at k1 k3
  exact ⟨rfl, ⟨by omega, k2, by rw [List.length_cons]; omega⟩, by simp [Wn.res]⟩
/-- from the last segment on: those that begin at i or behind it go -/
def cutRev (pre : ByteArray) (i : Int) : List Wg → List Fl → List Wg × List Fl
  | [], S => ([], S)
  | g :: gs, S => if i ≤ (g.first : Int) then cutRev pre i gs (delS S (wnm pre g.first)) else (g :: gs, S)
def Wg.cut (g : Wg) (i : Int) : Wg := ⟨g.first, g.es.take (i - g.first).toNat, g.dirty⟩
def cutFin (pre : ByteArray) (i : Int) : List Wg × List Fl → List Wg × List Fl
  | ([], S) => ([], S)
  | (g :: gs, S) => if i < (g.next : Nat) then ((g.cut i :: gs).reverse, cutS S (wnm pre g.first) ((g.cut i).size : Int)) else ((g :: gs).reverse, S)
def cutG (pre : ByteArray) (i : Int) (G : List Wg) (S : List Fl) : List Wg × List Fl := cutFin pre i (cutRev pre i G.reverse S)
def headP (rs : List Sg) : Value := match rs with
  | [] => .pointer none
  | s :: _ => .pointer (some ⟨s.b, 0, none⟩)
theorem headP_last (rs : List Sg) : (ptrs rs.reverse).getLast?.getD (.pointer none) = headP rs := by
  cases rs with
  | nil => rfl
  | cons s r => simp [ptrs, headP]
theorem perm_ex {α : Type} (l h e x : α) (A Y M Fr D : List α) : (l :: h :: (((A ++ (Y ++ ((e :: x :: M) ++ []))) ++ Fr) ++ D)).Perm (l :: h :: e :: x :: ((A ++ (Y ++ M) ++ Fr) ++ D)) := by
  refine (List.Perm.cons _ ?_).cons _
  have h1 := List.perm_append_comm_assoc (A ++ Y) [e, x] (M ++ Fr ++ D)
  simpa using h1
theorem perm_cutfin {α : Type} (l h e x : α) (A Y M Fr D : List α) : (l :: h :: e :: x :: ((A ++ (Y ++ M) ++ Fr) ++ D)).Perm (l :: ((A ++ (Y ++ (h :: e :: x :: M)) ++ Fr) ++ D)) := by
  refine List.Perm.cons _ ?_
  have h1 := List.perm_append_comm_assoc [h, e, x] (A ++ Y) (M ++ Fr ++ D)
  simpa using h1
set_option maxHeartbeats 8000000 in
theorem logCut_fn {B d l room : Nat} {pre : ByteArray} {S : List Fl} {G : List Wg} {af : Nat} {F : List Res} (i : Int) (hp : 1 ≤ pre.size ∧ pre.size ≤ 55) {w0 w : World} (ht : TabW B w0) (hlen : G.length ≤ 1000000000) (haf : af ≤ 4000000000) (hfs : ∀ g ∈ G, g.first ≤ 99999999 ∧ g.size ≤ 1073741824) (hG : LgS B w0 w d l pre room S G af F) :
    Fn Tryz.prog 16 #[.pointer (some ⟨l, 0, none⟩), .int .i64 i] w fun r w' => r = .int .i64 (if mayW G af i = true then 0 else 1) ∧ LgS B w0 w' d l pre room (if mayW G af i = true then (cutG pre i G S).2 else S) (if mayW G af i = true then (cutG pre i G S).1 else G) (if mayW G af i = true then i.toNat else af) F := by
  obtain ⟨n, sg, rfl, hok, hD⟩ := hG.of
  clear hG
  rw [List.length_map] at hlen
  have hbs : ∀ s ∈ sg, s.first ≤ 99999999 ∧ s.es.length ≤ 4000000000 := fun s hs => by
    have h1 := hfs s.wg (List.mem_map.2 ⟨s, hs, rfl⟩)
    have h2 := lenW_ge s.first (s.es.map En.d)
    rw [List.length_map] at h2
    have h3 : s.wg.size = lenW s.first (s.es.map En.d) := rfl
    have h4 : s.wg.first = s.first := rfl
    omega
  clear hfs
  obtain ⟨dL, hL, hB, close⟩ := hD.open
  clear hD
  have hsl : Sl w (n.val (ptrs sg)) (ptrs sg) := Wn.sl hok hL (fun R hR => by simp [logR]; exact .inr (.inl hR))
  refine Fn.mk Tryz.func16 rfl (by kernel_rfl) Tryz.ntmps16 rfl (by rw [Tryz.results16]) ?_
  repeat (first | (refine RunH ?_; intro w hL hB; try clear w) | (refine Both.mk ?_ ?_ <;> conv => whnf) | fail)
  refine (may_fn (fi := lowW (sg.map Sg.wg) af) i w (hL.hold (.blk l (logC d pre n sg af) 65) (.head _)) hsl (fun h => by
    cases sg with
    | nil => rfl
    | cons s r => cases h) (fun p ps' h => by
    cases sg with
    | nil => cases h
    | cons s r =>
      injection h with h1 h2
      exact ⟨s.b, _, _, _, h1.symm, hL.hold s.hd (by simp [logR, Sg.res])⟩)).mono fun r w ⟨hr, hw⟩ => ?_
  rw [show (decide ((lowW (sg.map Sg.wg) af : Int) ≤ i ∧ i ≤ (af : Int))) = mayW (sg.map Sg.wg) af i from rfl] at hr
  subst hr
  replace hL := hL.call hB (Turns.of_below hw)
  replace hB := Nat.le_trans hB hw.size
  cases hmay : mayW (sg.map Sg.wg) af i with
  | false =>
    rw [if_neg (by simp), if_neg (by simp), if_neg (by simp), if_neg (by simp)]
    conv => whnf
    repeat (first | (refine RunH ?_; intro w hL hB; try clear w) | (refine Both.mk ?_ ?_ <;> conv => whnf) | fail)
    exact ⟨rfl, ⟨n, sg, rfl, hok, close (F' := logR l d pre n sg af ++ F) hL hB⟩⟩
  | true =>
  rw [if_pos rfl, if_pos rfl, if_pos rfl, if_pos rfl]
  have hi0 : 0 ≤ i ∧ i ≤ 4000000000 := by
    simp only [mayW, decide_eq_true_eq] at hmay
    omega
  conv => whnf
  repeat (first | (refine RunH ?_; intro w hL hB; try clear w) | (refine Both.mk ?_ ?_ <;> conv => whnf) | fail)
  refine (logLast_fn w (hL.hold (.blk l (logC d pre n sg af) 65) (.head _)) (hsl.below hw)).mono fun r w ⟨hr, hw⟩ => ?_
  subst hr
  replace hL := hL.call hB (Turns.of_below hw)
  replace hB := Nat.le_trans hB hw.size
  have hD := close (F' := logR l d pre n sg af ++ F) hL hB
  clear hL hB close
  have hh := headP_last sg.reverse
  rw [List.reverse_reverse] at hh
  rw [hh]
  conv => whnf
  repeat (first | (refine RunH ?_; intro w hL hB; try clear w) | (refine Both.mk ?_ ?_ <;> conv => whnf) | fail)
  refine V.loop (α := List Sg × Wn × List Fl) (fun z => [(0, .pointer (some ⟨l, 0, none⟩)), (1, .int .i64 i), (5, headP z.1)])
    (fun z w' => cutRev pre i (sg.reverse.map Sg.wg) S = cutRev pre i (z.1.map Sg.wg) z.2.2 ∧ z.2.1.ok (ptrs z.1.reverse) ∧ (∀ s ∈ z.1, s.first ≤ 99999999 ∧ s.es.length ≤ 4000000000) ∧ z.1.length ≤ 1000000000 ∧ DkS B w0 w' d room z.2.2 (logR l d pre z.2.1 z.1.reverse af ++ F))
    (fun z => z.1.length) (sg.reverse, n, S) ⟨rfl, rfl, rfl, trivial⟩ ⟨rfl, by dsimp only; rw [List.reverse_reverse]; exact hok, fun s hs => hbs s (List.mem_reverse.1 hs), by simpa using hlen, by dsimp only; rw [List.reverse_reverse]; exact hD⟩ ?_
  have hcg : cutG pre i (sg.map Sg.wg) S = cutFin pre i (cutRev pre i (sg.reverse.map Sg.wg) S) := by rw [cutG, List.map_reverse]
  rw [hcg]
  clear hD hbs hlen hsl hok hmay hw hh hcg
  rintro ⟨rs, n1, S1⟩ w ⟨hdr, hok, hbs, hlen, hD⟩
  dsimp only at hdr hok hbs hlen hD ⊢
  rw [hdr]
  obtain ⟨dL, hL, hB, close⟩ := hD.open
  clear hD
  have hps : (ptrs rs.reverse).length = rs.length := by simp [ptrs]
  have hsl : Sl w (n1.val (ptrs rs.reverse)) (ptrs rs.reverse) := Wn.sl hok hL (fun R hR => by simp [logR]; exact .inr (.inl hR))
  have hhp := headP_last rs
  have eai : ((i.toNat : Nat) : Int) = i := by omega
  cases rs with
  | nil =>
    obtain ⟨va, vc, hv⟩ := hsl.shape
    rw [hps] at hv
    have hlC : ∀ a, logC d pre n1 ([] : List Sg).reverse a = [.pointer (some ⟨d, 0, none⟩), .string pre, .slice va 0 vc, .int .i64 (a : Int)] := fun a => by rw [logC, hv]; rfl
    replace hL : Sep Tryz.prog B w0 w (.blk l [.pointer (some ⟨d, 0, none⟩), .string pre, .slice va 0 vc, .int .i64 (af : Int)] 65 :: ((n1.res (ptrs []) ++ [] ++ F) ++ dL)) := by
      have h : Sep Tryz.prog B w0 w (.blk l (logC d pre n1 ([] : List Sg).reverse af) 65 :: ((n1.res (ptrs []) ++ [] ++ F) ++ dL)) := hL
      rw [hlC] at h; exact h
    have hsl2 : Sl w (.slice va 0 vc) (ptrs ([] : List Sg).reverse) := by
      have := hsl
      rw [hv] at this; exact this
    repeat (first | (refine RunH ?_; intro w hL hB; try clear w) | (refine Both.mk ?_ ?_ <;> conv => whnf) | fail)
    refine (logLast_fn w (hL.hold _ (.head _)) hsl2).mono fun r w ⟨hr, hw⟩ => ?_
    subst hr
    replace hL := hL.call hB (Turns.of_below hw)
    replace hB := Nat.le_trans hB hw.size
    rw [hhp]
    conv => whnf
    repeat (first | (refine RunH ?_; intro w hL hB; try clear w) | (refine Both.mk ?_ ?_ <;> conv => whnf) | fail)
    refine ⟨rfl, ⟨n1, [], rfl, hok, close (F' := logR l d pre n1 [] i.toNat ++ F) ?_ hB⟩⟩
    show Sep Tryz.prog B w0 _ (.blk l (logC d pre n1 ([] : List Sg).reverse i.toNat) 65 :: ((n1.res (ptrs []) ++ [] ++ F) ++ dL))
    rw [hlC, eai]
    exact hL
  | cons s rest =>
    rw [List.reverse_cons] at hok hL hps hsl
    cases n1 with
    | no =>
      exfalso
      have : ptrs (rest.reverse ++ [s]) = [] := hok
      simp [ptrs] at this
    | «at» g pr post c =>
    have hpr : ptrs (rest.reverse ++ [s]) = ptrs rest.reverse ++ [.pointer (some ⟨s.b, 0, none⟩)] := by simp [ptrs]
    have hprl : (ptrs rest.reverse).length = rest.length := by simp [ptrs]
    obtain ⟨k1, k2, k3⟩ := id hok
    rw [hps, List.length_cons] at k1 k3
    obtain ⟨hsf, hse⟩ := hbs s (.head _)
    rw [List.length_cons] at hlen
    have hnm : (wnm pre s.first).size ≤ 1000000 := by rw [wnm_size hsf]; omega
    obtain ⟨W, hW⟩ : ∃ W, W = ((Wn.at g pr post c).res (ptrs (rest.reverse ++ [s])) ++ (rest.reverse.flatMap Sg.res ++ ((s.eR :: s.xR :: s.es.map En.res) ++ []))) ++ F := ⟨_, rfl⟩
    have hvv : (Wn.at g pr post c).val (ptrs (rest.reverse ++ [s])) = .slice (some ⟨g, pr.length, none⟩) (rest.length + 1) c := by simp [Wn.val, ptrs]
    have h2 : logR l d pre (Wn.at g pr post c) (rest.reverse ++ [s]) af ++ F ++ dL = ((.blk l (logC d pre (Wn.at g pr post c) (rest.reverse ++ [s]) af) 65) :: ((Wn.at g pr post c).res (ptrs (rest.reverse ++ [s])) ++ (rest.reverse.flatMap Sg.res ++ (s.hd :: (s.eR :: s.xR :: s.es.map En.res) ++ [])))) ++ F ++ dL := by
      rw [logR]; simp [Sg.res]
    have h1 := perm_pick (.blk l (logC d pre (Wn.at g pr post c) (rest.reverse ++ [s]) af) 65) s.hd ((Wn.at g pr post c).res (ptrs (rest.reverse ++ [s]))) (rest.reverse.flatMap Sg.res) (s.eR :: s.xR :: s.es.map En.res) [] F dL
    rw [← h2] at h1
    replace hL : Sep Tryz.prog B w0 w (.blk l [.pointer (some ⟨d, 0, none⟩), .string pre, .slice (some ⟨g, pr.length, none⟩) (rest.length + 1) c, .int .i64 (af : Int)] 65 :: .blk s.b [.int .i64 (s.first : Int), s.ev, s.xv, .bool s.dirty] 80 :: (W ++ dL)) := by
      have := hL.perm h1
      rw [logC, hvv] at this
      rw [hW]; exact this
    clear h1 h2 hsl
    have hhd : headP (s :: rest) = .pointer (some ⟨s.b, 0, none⟩) := rfl
    rw [hhd]
    by_cases hge : i ≤ (s.first : Int)
    · have he : cutRev pre i ((s :: rest).map Sg.wg) S1 = cutRev pre i (rest.map Sg.wg) (delS S1 (wnm pre s.first)) := by
        rw [List.map_cons, cutRev, if_pos (show i ≤ (s.wg.first : Int) from hge)]; rfl
      rw [he]
      have hge2 : (s.first : Int) ≥ i := hge
      repeat (first | (refine RunH ?_; intro w hL hB; try clear w) | (refine Both.mk ?_ ?_ <;> conv => whnf) | fail)
      refine V.tree ttOk (fun x => Blk x l [.pointer (some ⟨d, 0, none⟩), .string pre, .slice (some ⟨g, pr.length, none⟩) (rest.length + 1) c, .int .i64 (af : Int)] 65 ∧ Blk x s.b [.int .i64 (s.first : Int), s.ev, s.xv, .bool s.dirty] 80) (.q 0 (.q 1 (.q 2 (.q 3 (.q 4 (.q 5 (.q 6 (.q 7 (.q 8 (.alt 9 (.alt 10 .nil .stop) .stop)))))))))) mixed (by decide +kernel) ⟨hL.drew.hold _ (.head _), hL.drew.hold _ (.tail _ (.head _))⟩ ?_
      replace hL := hL.drew
      conv => whnf
      repeat' (first | (refine RunH ?_; intro w hL hB; try clear w) | (refine Br.dec (fun hbr => ?_) (fun hbr => ?_) <;> conv => whnf) | (refine Br.mk (fun hbr => ?_) (fun hbr => ?_) <;> conv => whnf) | (refine Both.mk ?_ ?_ <;> conv => whnf) | (refine Lq.of_class (fun x hx => Ld.blk ttOk rfl rfl hx.1 rfl rfl) ?_; conv => whnf) | (refine Lq.of_class (fun x hx => Ld.blk ttOk rfl rfl hx.2 rfl rfl) ?_; conv => whnf) | fail)
      refine (name_fn s.first hsf (by omega) _ (hL.hold _ (.head _)) (ht _ hL.below)).mono fun r w ⟨hr, hw⟩ => ?_
      subst hr
      replace hL := hL.call hB (Turns.of_below hw)
      replace hB := Nat.le_trans hB hw.size
      conv => whnf
      refine And.intro ⟨hL.hold _ (.head _), hL.hold _ (.tail _ (.head _))⟩ ?_
      conv => whnf
      refine (remove_fn (wnm pre s.first) hnm (close (F' := .blk l _ _ :: .blk s.b _ _ :: W) hL hB)).mono fun r w ⟨hr, hD⟩ => ?_
      subst hr
      clear hL hB close
      obtain ⟨dL, hL, hB, close⟩ := hD.open
      clear hD
      conv => whnf
      refine And.intro ⟨hL.hold _ (.head _), hL.hold _ (.tail _ (.head _))⟩ ?_
      conv => whnf
      repeat' (first | (refine RunK ?_; intro w hL hB; try clear w) | (refine V.treeP ttOk hL 0 (.q 0 (.q 1 (.q 2 (.q 3 (.q 5 (.q 6 (.q 7 (.alt 4 (.alt 8 (.q 9 (.q 10 (.q 11 (.q 12 (.q 13 (.alt 14 .nil .stop)))))) .stop) (.alt 8 (.q 9 (.q 10 (.alt 4 (.q 11 (.q 12 (.q 13 (.alt 14 .nil .stop)))) .stop))) .stop))))))))) mixed (by decide +kernel) ?_; replace hL := hL.drew; conv => whnf) | (refine V.tailA ttOk mixed (by decide +kernel) ?_; replace hL := hL.drew; conv => whnf) | (refine Br.dec (fun hbr => ?_) (fun hbr => ?_) <;> conv => whnf) | (refine Br.mk (fun hbr => ?_) (fun hbr => ?_) <;> conv => whnf) | (refine Both.mk ?_ ?_ <;> conv => whnf) | (intro n2 c2 r3 r4; conv => whnf) | fail)
      all_goals
        obtain rfl : n2 = rest.length := by omega
        obtain rfl : c = c2 := by omega
        obtain ⟨m1, m2, m3⟩ := Wn.init (g := g) (c := c) (pr := pr) (post := post) (ps := ptrs rest.reverse) (p := .pointer (some ⟨s.b, 0, none⟩)) (by rw [← hpr]; exact hok)
        rw [hprl] at m1
        rw [hW, hpr, ← m3] at hL
        have hsl3 := Wn.sl m2 hL (fun R hR => List.mem_cons_of_mem _ (List.mem_cons_of_mem _ (List.mem_append_left _ (List.mem_append_left _ (List.mem_append_left _ hR)))))
        rw [m1] at hsl3
        refine (logLast_fn _ (hL.hold _ (.head _)) hsl3).mono fun r w ⟨hr, hw⟩ => ?_
        subst hr
        replace hL := hL.call hB (Turns.of_below hw)
        replace hB := Nat.le_trans hB hw.size
        rw [headP_last]
        conv => whnf
        repeat (first | (refine RunH ?_; intro w hL hB; try clear w) | (refine Both.mk ?_ ?_ <;> conv => whnf) | fail)
        refine ⟨(rest, Wn.at g pr (.pointer (some ⟨s.b, 0, none⟩) :: post) c, delS S1 (wnm pre s.first)), ⟨rfl, rfl, rfl, trivial⟩, ⟨rfl, m2, fun q hq => hbs q (List.mem_cons_of_mem _ hq), by dsimp only; omega, ?_⟩, by simp⟩
        refine close (F' := logR l d pre (Wn.at g pr (.pointer (some ⟨s.b, 0, none⟩) :: post) c) rest.reverse af ++ F) ?_ hB
        rw [logR, logC, m1]
        refine hL.sub ?_
        refine (List.Sublist.cons _ ?_).cons_cons _
        refine List.Sublist.append ?_ (List.Sublist.refl _)
        refine List.Sublist.append ?_ (List.Sublist.refl _)
        refine List.Sublist.append (List.Sublist.refl _) ?_
        exact List.sublist_append_left _ _
    · have he : cutRev pre i ((s :: rest).map Sg.wg) S1 = ((s :: rest).map Sg.wg, S1) := by
        rw [List.map_cons, cutRev, if_neg (show ¬ i ≤ (s.wg.first : Int) from hge)]
      rw [he]
      have hge2 : ¬ ((s.first : Int) ≥ i) := hge
      have hslF : ∀ {w' : World}, Sep Tryz.prog B w0 w' (.blk l [.pointer (some ⟨d, 0, none⟩), .string pre, .slice (some ⟨g, pr.length, none⟩) (rest.length + 1) c, .int .i64 (af : Int)] 65 :: .blk s.b [.int .i64 (s.first : Int), s.ev, s.xv, .bool s.dirty] 80 :: (W ++ dL)) → Sl w' (.slice (some ⟨g, pr.length, none⟩) (rest.length + 1) c) (ptrs (rest.reverse ++ [s])) ∧ Sl w' s.ev (s.es.map En.v) := by
        intro w' h
        refine ⟨?_, RowC.sl (show RowC _ _ s.ev s.es.length _ from h.hold s.eR (by rw [hW]; simp))⟩
        have := Wn.sl hok h (fun R hR => List.mem_cons_of_mem _ (List.mem_cons_of_mem _ (by rw [hW]; exact List.mem_append_left _ (List.mem_append_left _ (List.mem_append_left _ hR)))))
        rw [hvv] at this
        exact this
      repeat (first | (refine RunH ?_; intro w hL hB; try clear w) | (refine Both.mk ?_ ?_ <;> conv => whnf) | fail)
      refine (logLast_fn w (hL.hold _ (.head _)) (hslF hL).1).mono fun r w ⟨hr, hw⟩ => ?_
      subst hr
      replace hL := hL.call hB (Turns.of_below hw)
      replace hB := Nat.le_trans hB hw.size
      have hhp2 : (ptrs (rest.reverse ++ [s])).getLast?.getD (.pointer none) = .pointer (some ⟨s.b, 0, none⟩) := by rw [hpr]; simp
      rw [hhp2]
      conv => whnf
      repeat (first | (refine RunH ?_; intro w hL hB; try clear w) | (refine Both.mk ?_ ?_ <;> conv => whnf) | fail)
      refine (segNext_fn w (hL.hold _ (.tail _ (.head _))) (hslF hL).2 (by omega) (by rw [List.length_map]; omega)).mono fun r w ⟨hr, hw⟩ => ?_
      subst hr
      replace hL := hL.call hB (Turns.of_below hw)
      replace hB := Nat.le_trans hB hw.size
      rw [List.length_map]
      by_cases hnx : ¬ i < ((s.first + s.es.length : Nat) : Int)
      · have hfin : cutFin pre i ((s :: rest).map Sg.wg, S1) = ((rest.reverse ++ [s]).map Sg.wg, S1) := by
          rw [List.map_cons, cutFin, if_neg (show ¬ i < (s.wg.next : Nat) from by simpa [Wg.next, Sg.wg] using hnx)]
          simp
        rw [hfin]
        have hnx2 : ¬ ((s.first + s.es.length : Nat) : Int) > i := hnx
        conv => whnf
        repeat (first | (refine RunH ?_; intro w hL hB; try clear w) | (refine Both.mk ?_ ?_ <;> conv => whnf) | fail)
        refine ⟨rfl, ⟨Wn.at g pr post c, rest.reverse ++ [s], rfl, hok, close (F' := logR l d pre (Wn.at g pr post c) (rest.reverse ++ [s]) i.toNat ++ F) ?_ hB⟩⟩
        have h2 : logR l d pre (Wn.at g pr post c) (rest.reverse ++ [s]) i.toNat ++ F ++ dL = ((.blk l (logC d pre (Wn.at g pr post c) (rest.reverse ++ [s]) i.toNat) 65) :: ((Wn.at g pr post c).res (ptrs (rest.reverse ++ [s])) ++ (rest.reverse.flatMap Sg.res ++ (s.hd :: (s.eR :: s.xR :: s.es.map En.res) ++ [])))) ++ F ++ dL := by
          rw [logR]; simp [Sg.res]
        rw [h2]
        refine Sep.perm ?_ (perm_pick _ _ _ _ _ _ _ _).symm
        rw [logC, hvv, eai]
        rw [hW] at hL
        exact hL
      replace hnx : i < ((s.first + s.es.length : Nat) : Int) := by omega
      obtain ⟨k, hk⟩ : ∃ k : Nat, (k : Int) = i - s.first := ⟨(i - s.first).toNat, by omega⟩
      have hk1 : 0 < k ∧ k < s.es.length := by omega
      have hkt : (i - (s.first : Int)).toNat = k := by omega
      rw [hW] at hL
      replace hL := hL.perm (perm_ex _ _ _ _ _ _ _ _ _)
      obtain ⟨ge, ec, hev⟩ : ∃ ge ec, s.ev = .slice (some ⟨ge, 0, none⟩) s.es.length ec := by
        rcases (show RowC _ _ s.ev s.es.length _ from hL.at (i := 2) rfl).of with ⟨_, h⟩ | ⟨g1, c1, _, h, _⟩
        · omega
        · exact ⟨g1, c1, h⟩
      obtain ⟨gx, xc, hxv⟩ : ∃ gx xc, s.xv = .slice (some ⟨gx, 0, none⟩) s.es.length xc := by
        rcases (show RowC _ _ s.xv s.es.length _ from hL.at (i := 3) rfl).of with ⟨_, h⟩ | ⟨g1, c1, _, h, _⟩
        · omega
        · exact ⟨g1, c1, h⟩
      obtain ⟨Z, hZ⟩ : ∃ Z, Z = (Wn.at g pr post c).res (ptrs (rest.reverse ++ [s])) ++ (rest.reverse.flatMap Sg.res ++ s.es.map En.res) ++ F := ⟨_, rfl⟩
      replace hL : Sep Tryz.prog B w0 w (.blk l [.pointer (some ⟨d, 0, none⟩), .string pre, .slice (some ⟨g, pr.length, none⟩) (rest.length + 1) c, .int .i64 (af : Int)] 65 :: .blk s.b [.int .i64 (s.first : Int), .slice (some ⟨ge, 0, none⟩) s.es.length ec, .slice (some ⟨gx, 0, none⟩) s.es.length xc, .bool s.dirty] 80 :: .rc 23 (.slice (some ⟨ge, 0, none⟩) s.es.length ec) s.es.length (s.es.map En.v) :: .rc 3 (.slice (some ⟨gx, 0, none⟩) s.es.length xc) s.es.length (s.xs.map iN) :: (Z ++ dL)) := by
        rw [hZ, ← hev, ← hxv]; exact hL
      have hec := (RowC.sl (show RowC w _ (.slice (some ⟨ge, 0, none⟩) s.es.length ec) s.es.length _ from hL.at (i := 2) rfl)).len
      have hxc := (RowC.sl (show RowC w _ (.slice (some ⟨gx, 0, none⟩) s.es.length xc) s.es.length _ from hL.at (i := 3) rfl)).len
      have hfin : cutFin pre i ((s :: rest).map Sg.wg, S1) = ((rest.reverse ++ [(⟨s.b, s.first, .slice (some ⟨ge, 0, none⟩) k k, s.es.take k, .slice (some ⟨gx, 0, none⟩) k k, s.dirty⟩ : Sg)]).map Sg.wg, cutS S1 (wnm pre s.first) ((lenW s.first ((s.es.take k).map En.d) : Nat) : Int)) := by
        rw [List.map_cons, cutFin, if_pos (show i < (s.wg.next : Nat) from by simpa [Wg.next, Sg.wg] using hnx)]
        have e1 : s.wg.cut i = ⟨s.first, (s.es.take k).map En.d, s.dirty⟩ := by
          rw [Wg.cut, show s.wg.first = s.first from rfl, hkt, List.map_take]; rfl
        rw [e1, List.reverse_cons, List.map_append, List.map_reverse]
        rfl
      rw [hfin]
      have hnx2 : ((s.first + s.es.length : Nat) : Int) > i := hnx
      conv => whnf
      repeat (first | (refine RunH ?_; intro w hL hB; try clear w) | (refine Both.mk ?_ ?_ <;> conv => whnf) | fail)
      refine V.join (α := Unit) (fun _ => [(0, .pointer (some ⟨l, 0, none⟩)), (1, .int .i64 i), (6, .pointer (some ⟨s.b, 0, none⟩))])
        (fun _ w' => B ≤ w'.heap.size ∧ Sep Tryz.prog B w0 w' (.blk l [.pointer (some ⟨d, 0, none⟩), .string pre, .slice (some ⟨g, pr.length, none⟩) (rest.length + 1) c, .int .i64 (af : Int)] 65 :: .blk s.b [.int .i64 (s.first : Int), .slice (some ⟨ge, 0, none⟩) k k, .slice (some ⟨gx, 0, none⟩) k k, .bool s.dirty] 80 :: .rc 23 (.slice (some ⟨ge, 0, none⟩) s.es.length ec) s.es.length (s.es.map En.v) :: .rc 3 (.slice (some ⟨gx, 0, none⟩) s.es.length xc) s.es.length (s.xs.map iN) :: (Z ++ dL))) ?_ ?_
      · refine V.tree ttOk (fun _ => True) (.q 0 (.q 1 (.q 2 (.q 3 (.q 4 (.q 6 (.q 7 (.q 9 (.q 10 (.q 11 (.q 13 (.q 14 (.alt 5 (.q 8 (.alt 12 (.q 15 (.q 16 (.q 17 (.alt 18 (.q 19 (.q 20 (.alt 21 .nil .stop))) .stop)))) .stop)) (.alt 12 (.q 15 (.alt 5 (.q 8 (.q 16 (.q 17 (.alt 18 (.q 19 (.q 20 (.alt 21 .nil .stop))) .stop)))) .stop)) .stop)))))))))))))) mixed (by decide +kernel) trivial ?_
        replace hL := hL.drew
        conv => whnf
        repeat' (first | (refine RunH ?_; intro w hL hB; try clear w) | (refine Br.dec (fun hbr => ?_) (fun hbr => ?_) <;> conv => whnf) | (refine Br.mk (fun hbr => ?_) (fun hbr => ?_) <;> conv => whnf) | (refine Both.mk ?_ ?_ <;> conv => whnf) | (intro n2 c2 r3 r4; obtain rfl : k = n2 := (by omega); obtain rfl : k = c2 := (by omega); conv => whnf) | (refine And.intro trivial ?_; conv => whnf) | fail)
        all_goals exact ⟨(), ⟨rfl, rfl, rfl, trivial⟩, hB, hL⟩
      clear hL hB
      rintro _ w ⟨hB, hL⟩
      have hr1 : RowC w 23 (.slice (some ⟨ge, 0, none⟩) k k) k ((s.es.map En.v).take k) := (show RowC w _ (.slice (some ⟨ge, 0, none⟩) s.es.length ec) s.es.length _ from hL.at (i := 2) rfl).cut (by omega)
      replace hL := hL.saidN 2 rfl (R' := .rc 23 (.slice (some ⟨ge, 0, none⟩) k k) k ((s.es.map En.v).take k)) hr1 rfl
      dsimp only [List.set] at hL
      have hr2 : RowC w 3 (.slice (some ⟨gx, 0, none⟩) k k) k ((s.xs.map iN).take k) := (show RowC w _ (.slice (some ⟨gx, 0, none⟩) s.es.length xc) s.es.length _ from hL.at (i := 3) rfl).cut (by omega)
      replace hL := hL.saidN 3 rfl (R' := .rc 3 (.slice (some ⟨gx, 0, none⟩) k k) k ((s.xs.map iN).take k)) hr2 rfl
      dsimp only [List.set] at hL
      have hxt : (s.xs.map iN).take k = (endsW 0 s.first ((s.es.take k).map En.d)).map iN := by
        rw [← List.map_take, Sg.xs, endsW_take, List.map_take]
      have hvt : (s.es.map En.v).take k = (s.es.take k).map En.v := List.map_take.symm
      rw [hxt, hvt] at hL
      have hsz : (endsW 0 s.first ((s.es.take k).map En.d)).getLast?.getD 0 = lenW s.first ((s.es.take k).map En.d) := by
        have := endsW_last 0 s.first ((s.es.take k).map En.d)
        rwa [Nat.zero_add] at this
      clear hr1 hr2 hxt hvt
      conv => whnf
      refine V.tree ttOk (fun x => Blk x l [.pointer (some ⟨d, 0, none⟩), .string pre, .slice (some ⟨g, pr.length, none⟩) (rest.length + 1) c, .int .i64 (af : Int)] 65 ∧ Blk x s.b [.int .i64 (s.first : Int), .slice (some ⟨ge, 0, none⟩) k k, .slice (some ⟨gx, 0, none⟩) k k, .bool s.dirty] 80) (.q 0 (.q 1 (.q 2 (.q 3 (.q 4 (.q 5 (.q 6 (.q 7 (.q 8 (.q 10 (.alt 9 (.alt 11 (.alt 12 .nil .stop) .stop) .stop))))))))))) mixed (by decide +kernel) ⟨hL.drew.hold _ (.head _), hL.drew.hold _ (.tail _ (.head _))⟩ ?_
      replace hL := hL.drew
      conv => whnf
      repeat' (first | (refine RunH ?_; intro w hL hB; try clear w) | (refine Br.dec (fun hbr => ?_) (fun hbr => ?_) <;> conv => whnf) | (refine Br.mk (fun hbr => ?_) (fun hbr => ?_) <;> conv => whnf) | (refine Both.mk ?_ ?_ <;> conv => whnf) | (refine Lq.of_class (fun x hx => Ld.blk ttOk rfl rfl hx.1 rfl rfl) ?_; conv => whnf) | (refine Lq.of_class (fun x hx => Ld.blk ttOk rfl rfl hx.2 rfl rfl) ?_; conv => whnf) | fail)
      refine (name_fn s.first hsf (by omega) _ (hL.hold _ (.head _)) (ht _ hL.below)).mono fun r w ⟨hr, hw⟩ => ?_
      subst hr
      replace hL := hL.call hB (Turns.of_below hw)
      replace hB := Nat.le_trans hB hw.size
      conv => whnf
      refine And.intro ⟨hL.hold _ (.head _), hL.hold _ (.tail _ (.head _))⟩ ?_
      conv => whnf
      refine (segSize_fn w (f := .int .i64 (s.first : Int)) (xs := endsW 0 s.first ((s.es.take k).map En.d)) (hL.hold _ (.tail _ (.head _))) (RowC.sl (show RowC w _ (.slice (some ⟨gx, 0, none⟩) k k) k _ from hL.at (i := 3) rfl))).mono fun r w ⟨hr, hw⟩ => ?_
      rw [hsz] at hr
      subst hr
      replace hL := hL.call hB (Turns.of_below hw)
      replace hB := Nat.le_trans hB hw.size
      conv => whnf
      refine And.intro ⟨hL.hold _ (.head _), hL.hold _ (.tail _ (.head _))⟩ ?_
      conv => whnf
      refine (cut_fn (wnm pre s.first) hnm ((lenW s.first ((s.es.take k).map En.d) : Nat) : Int) (close (F' := .blk l _ _ :: .blk s.b _ _ :: .rc _ _ _ _ :: .rc _ _ _ _ :: Z) hL hB)).mono fun r w ⟨hr, hD⟩ => ?_
      subst hr
      clear hL hB close
      obtain ⟨dL, hL, hB, close⟩ := hD.open
      clear hD
      conv => whnf
      refine And.intro ⟨hL.hold _ (.head _), hL.hold _ (.tail _ (.head _))⟩ ?_
      conv => whnf
      repeat (first | (refine RunH ?_; intro w hL hB; try clear w) | (refine Both.mk ?_ ?_ <;> conv => whnf) | fail)
      have hp2 : ptrs (rest.reverse ++ [(⟨s.b, s.first, .slice (some ⟨ge, 0, none⟩) k k, s.es.take k, .slice (some ⟨gx, 0, none⟩) k k, s.dirty⟩ : Sg)]) = ptrs (rest.reverse ++ [s]) := by simp [ptrs]
      refine ⟨rfl, ⟨Wn.at g pr post c, rest.reverse ++ [⟨s.b, s.first, .slice (some ⟨ge, 0, none⟩) k k, s.es.take k, .slice (some ⟨gx, 0, none⟩) k k, s.dirty⟩], rfl, by rw [hp2]; exact hok, ?_⟩⟩
      refine close (F' := logR l d pre (Wn.at g pr post c) (rest.reverse ++ [⟨s.b, s.first, .slice (some ⟨ge, 0, none⟩) k k, s.es.take k, .slice (some ⟨gx, 0, none⟩) k k, s.dirty⟩]) i.toNat ++ F) ?_ hB
      have hkl : (s.es.take k).length = k := by rw [List.length_take]; omega
      have e2 : (rest.reverse ++ [(⟨s.b, s.first, .slice (some ⟨ge, 0, none⟩) k k, s.es.take k, .slice (some ⟨gx, 0, none⟩) k k, s.dirty⟩ : Sg)]).flatMap Sg.res = rest.reverse.flatMap Sg.res ++ (.blk s.b [.int .i64 (s.first : Int), .slice (some ⟨ge, 0, none⟩) k k, .slice (some ⟨gx, 0, none⟩) k k, .bool s.dirty] 80 :: .rc 23 (.slice (some ⟨ge, 0, none⟩) k k) k ((s.es.take k).map En.v) :: .rc 3 (.slice (some ⟨gx, 0, none⟩) k k) k ((endsW 0 s.first ((s.es.take k).map En.d)).map iN) :: (s.es.take k).map En.res) := by
        rw [List.flatMap_append, List.flatMap_singleton]
        simp only [Sg.res, Sg.hd, Sg.cells, Sg.eR, Sg.xR, Sg.xs, hkl]
      have hvv2 : (Wn.at g pr post c).val (ptrs (rest.reverse ++ [s])) = .slice (some ⟨g, pr.length, none⟩) (rest.length + 1) c := hvv
      rw [logR, logC, hp2, e2, hvv2, eai]
      rw [hZ] at hL
      refine Sep.perm ?_ (perm_cutfin _ _ _ _ _ _ _ _ _)
      refine hL.sub ?_
      refine ((((List.Sublist.append (List.Sublist.append (List.Sublist.append (List.Sublist.refl _) (List.Sublist.append (List.Sublist.refl _) ((List.take_sublist k s.es).map En.res))) (List.Sublist.refl _)) (List.Sublist.refl _)).cons_cons _).cons_cons _).cons_cons _).cons_cons _
end Go.Proofs.YtjafamiaahabgaaGreatDoor
