/- Plan: the reference's Next. Nothing is claimed here. -/
import Derived.Test.YthifnfoppamkiaaIl
namespace Go.Proofs.Ythifnfoppamkiaa
open Go.RowKit
set_option linter.unusedVariables false
set_option linter.unusedSimpArgs false
set_option maxRecDepth 100000

def orS {α : Type} (a b : Option α) : Option α := match a with | some x => some x | none => b
theorem nextS_ok {l : List PV} {live : List Bool} {sizes : List Int} {c : PC} (h : okC c) : nextS l live sizes c = orS (firstS (fun _ v => lackS l live c v) l) (orS (firstS (fun _ v => brokeS l live c v) l) (orS (firstS (fun i v => fullS live sizes c i v) l)
    (orS (firstS (fun _ v => stripS l live c v) l) (firstS (fun _ v => unevenS l live v) l)))) := by
  unfold nextS
  rw [if_pos h]
  unfold rulesS orS
  simp only [List.findSome?]
  repeat' split
  all_goals first | rfl | simp_all
theorem wholeB_no {live : List Bool} {v : PV} {s : Int} (h : wholeB live v s = false) (hn : v.ns ≠ []) : v.st ≠ s ∨ v.fz = true ∨ ¬ wholeS live v := Decidable.byContradiction fun e => by
  have hf : v.fz = false := by
    cases hz : v.fz
    · rfl
    · exact absurd (.inr (.inl hz)) e
  have hw : wholeS live v := Decidable.byContradiction fun e' => e (.inr (.inr e'))
  have hs : v.st = s := Decidable.byContradiction fun e' => e (.inl e')
  have := wholeB_iff.2 ⟨hf, hs, hn, hw⟩
  rw [h] at this; cases this
/-- what is an action, goes on as it came -/
theorem ActS.cases {w0 w : World} {o : Option PA} {r : Value} (h : ActS w0 o r w) : (o = none ∧ r = noneV ∧ Below w0.heap.size w0 w) ∨
    ∃ a ka kc na nc, o = some a ∧ r = .tuple #[actV a (.slice ka a.keep.length kc) (.slice na a.ns.length nc), .bool true] ∧ Sep Try.prog w0.heap.size w0 w [.row 3 1 (.slice ka a.keep.length kc) a.keep.length (numC a.keep), .row 3 1 (.slice na a.ns.length nc) a.ns.length (numC a.ns)] := by
  cases o with
  | none => exact .inl ⟨rfl, h.1, h.2⟩
  | some a =>
    obtain ⟨kv, nv, hr, hL⟩ := h
    obtain ⟨ka, kc, rfl⟩ := (hL.rowN (i := 0) rfl).shape
    obtain ⟨na, nc, rfl⟩ := (hL.rowN (i := 1) rfl).shape
    exact .inr ⟨a, ka, kc, na, nc, rfl, hr, hL⟩
set_option maxHeartbeats 16000000 in
theorem nextR_fn (v lv sv : Value) (ps : List (PV × Value)) (live : List Bool) (ss : List Int) (c : PC) (w0 : World) (h : VolS w0 v ps) (hl : SlE w0 lv (boolC live)) (hll : live.length ≤ 100) (hs : SlE w0 sv (numC ss)) :
    Fn Try.prog 10 #[v, lv, sv, cfV c] w0 fun r w' => ActS w0 (nextS (pvs ps) live ss c) r w' := by
  obtain ⟨va, vc, rfl⟩ := h.sl.shape
  have hL := Sep.start Try.prog w0
  have hB := Nat.le_refl w0.heap.size
  have hfew := h.few
  unfold cfV
  refine Fn.mk Try.func10 rfl (by kernel_rfl) Try.ntmps10 rfl (by rw [Try.results10]) ?_
  repeat (first | (refine RunH ?_; intro w hL hB; try clear w) | (refine Both.mk ?_ ?_ <;> conv => whnf) | fail)
  (refine Nw.sep hL hB (fun b7 w hL hB hb7 => ?_); conv => whnf)
  repeat (first | (refine RunH ?_; intro w hL hB; try clear w) | (refine Both.mk ?_ ?_ <;> conv => whnf) | fail)
  (refine Nw.sep hL hB (fun b8 w hL hB hb8 => ?_); conv => whnf)
  by_cases hok : okC c
  case neg =>
    have hno : nextS (pvs ps) live ss c = none := by unfold nextS; rw [if_neg hok]
    rw [hno]
    unfold okC at hok
    repeat' (first | (refine RunH ?_; intro w hL hB; try clear w) | (refine Br.dec (fun hbr => ?_) (fun hbr => ?_) <;> conv => whnf) | (refine Br.mk (fun hbr => ?_) (fun hbr => ?_) <;> conv => whnf) | (refine Both.mk ?_ ?_ <;> conv => whnf) | fail)
    all_goals first
      | exact ⟨rfl, hL.below⟩
      | (exfalso; omega)
  case pos =>
    rw [nextS_ok hok]
    unfold okC at hok
    obtain ⟨hc1, hc2, hc3, hc4, hc5, hc6⟩ := hok
    repeat (first | (refine RunH ?_; intro w hL hB; try clear w) | (refine Both.mk ?_ ?_ <;> conv => whnf) | fail)
    have hcp := copiesR_fn (.slice va ps.length vc) lv ps live c w (h.below hL.below) (hl.below hL.below) hll
    generalize firstS (fun _ v => lackS (pvs ps) live c v) (pvs ps) = o1 at *
    refine hcp.mono fun r w' hr => ?_
    rcases hr.cases with ⟨rfl, rfl, hbl⟩ | ⟨a, ka, kc, na, nc, rfl, rfl, hS⟩
    case inr =>
      replace hL := hL.adds hB hS
      replace hB := Nat.le_trans hB hS.below.size
      unfold actV orS
      conv => whnf
      repeat (first | (refine RunH ?_; intro w hL hB; try clear w) | (refine Both.mk ?_ ?_ <;> conv => whnf) | fail)
      (refine Nw.sep hL hB (fun b10 w hL hB hb10 => ?_); conv => whnf)
      repeat (first | (refine RunH ?_; intro w hL hB; try clear w) | (refine Both.mk ?_ ?_ <;> conv => whnf) | fail)
      exact ActS.mk (kv := .slice ka a.keep.length kc) (nv := .slice na a.ns.length nc) rfl rfl (hL.sub (.cons _ (.cons_cons _ (.cons_cons _ (List.nil_sublist _)))))
    replace hL := hL.call hB (Turns.of_below hbl)
    replace hB := Nat.le_trans hB hbl.size
    rw [show ∀ {α : Type} (b : Option α), orS none b = b from fun _ => rfl]
    unfold noneV
    conv => whnf
    repeat (first | (refine RunH ?_; intro w hL hB; try clear w) | (refine Both.mk ?_ ?_ <;> conv => whnf) | fail)
    (refine Nw.sep hL hB (fun b10 w hL hB hb10 => ?_); conv => whnf)
    repeat (first | (refine RunH ?_; intro w hL hB; try clear w) | (refine Both.mk ?_ ?_ <;> conv => whnf) | fail)
    have hcp := shardsR_fn (.slice va ps.length vc) lv ps live c w (h.below hL.below) (hl.below hL.below) hll
    generalize firstS (fun _ v => brokeS (pvs ps) live c v) (pvs ps) = o2 at *
    refine hcp.mono fun r w' hr => ?_
    rcases hr.cases with ⟨rfl, rfl, hbl⟩ | ⟨a, ka, kc, na, nc, rfl, rfl, hS⟩
    case inr =>
      replace hL := hL.adds hB hS
      replace hB := Nat.le_trans hB hS.below.size
      unfold actV orS
      conv => whnf
      repeat (first | (refine RunH ?_; intro w hL hB; try clear w) | (refine Both.mk ?_ ?_ <;> conv => whnf) | fail)
      exact ActS.mk (kv := .slice ka a.keep.length kc) (nv := .slice na a.ns.length nc) rfl rfl (hL.sub (.cons_cons _ (.cons_cons _ (List.nil_sublist _))))
    replace hL := hL.call hB (Turns.of_below hbl)
    replace hB := Nat.le_trans hB hbl.size
    rw [show ∀ {α : Type} (b : Option α), orS none b = b from fun _ => rfl]
    unfold noneV
    conv => whnf
    repeat (first | (refine RunH ?_; intro w hL hB; try clear w) | (refine Both.mk ?_ ?_ <;> conv => whnf) | fail)
    refine V.loop (α := Nat) (fun z => [(0, .slice va ps.length vc), (1, lv), (2, sv), (7, .pointer (some ⟨b7, 0, none⟩)), (8, .pointer (some ⟨b8, 0, none⟩)), (9, .bool false), (12, .int .i64 z)])
      (fun z w' => z ≤ ps.length ∧ w0.heap.size ≤ w'.heap.size ∧ PreS (fun i v => fullS live ss c i v) (pvs ps) z ∧ Sep Try.prog w0.heap.size w0 w' [.blk b8 [.int .i64 0, .int .i64 0, .int .i64 0, .slice none 0 0, .slice none 0 0] 32, .blk b7 (cfC c) 26]) (fun z => ps.length - z) 0 ⟨rfl, rfl, rfl, rfl, rfl, rfl, rfl, trivial⟩ ⟨by omega, hB, PreS.zero _ _, hL.tl⟩ ?_
    rintro k w ⟨hk, hB, hno, hL⟩
    repeat (first | (refine RunH ?_; intro w hL hB; try clear w) | (refine Both.mk ?_ ?_ <;> conv => whnf) | fail)
    refine Br.dec (fun hlt => ?_) (fun hlt => ?_)
    · have hke : k < ps.length := by omega
      have hge : ps[k]? = some ps[k] := List.getElem?_eq_getElem hke
      have hmem := List.getElem_mem hke
      have hpv := pvs_get hge
      generalize hev : ps[k] = pv at *
      obtain ⟨p, nv⟩ := pv
      have hns := h.ns _ hmem
      have hten := h.ten _ hmem
      dsimp only at hns hten hpv
      obtain ⟨na, nc, hnv⟩ := hns.shape
      rw [numC_len] at hnv
      subst hnv
      obtain ⟨b, o, rfl, hr⟩ := (h.sl.below hL.below).addr (by omega)
      repeat (first | (refine RunH ?_; intro w hL hB; try clear w) | (refine Both.mk ?_ ?_ <;> conv => whnf) | fail)
      intro o' ho'
      conv => whnf
      refine Ld.rowN ttOk pvC_len hr rfl rfl rfl hge (by omega) ?_
      conv => whnf
      (refine Nw.sep hL hB (fun bv w hL hB hbv => ?_); conv => whnf)
      repeat (first | (refine RunH ?_; intro w hL hB; try clear w) | (refine Both.mk ?_ ?_ <;> conv => whnf) | fail)
      dsimp only [pvC, cellsL, overL, splice] at hL
      repeat (first | (refine RunK ?_; intro w hL hB; try clear w) | (refine V.treeA ttOk hL (.q 0 (.q 1 (.alt 2 (.q 3 (.q 4 (.q 5 (.q 7 (.q 8 (.alt 6 (.q 9 (.q 10 .nil)) .stop)))))) .stop))) mixed (by decide +kernel) ?_; replace hL := hL.drew; conv => whnf) | (refine V.tailA ttOk mixed (by decide +kernel) ?_; replace hL := hL.drew; conv => whnf) | (refine Both.mk ?_ ?_ <;> conv => whnf) | (intro w9 hw9; conv => whnf) | fail)
      refine (wholeR_fn (p, .slice na p.ns.length nc) lv live 0 _ (hns.below hL.below) (by dsimp only; omega) (hl.below hL.below)).mono fun r w hr => ?_
      obtain ⟨hr', hw⟩ := hr
      subst hr'
      replace hL := hL.call hB (Turns.of_below hw)
      replace hB := Nat.le_trans hB hw.size
      dsimp only
      cases hwh : wholeB live p 0
      · have hnone := hno.snoc hpv (atRule_none fun hn => by
          have := wholeB_no hwh hn
          unfold fullS
          rw [if_pos]
          rcases this with e | e | e
          · exact .inl e
          · exact .inr (.inl e)
          · exact .inr (.inr (.inl e)))
        conv => whnf
        repeat (first | (refine RunH ?_; intro w hL hB; try clear w) | (refine Both.mk ?_ ?_ <;> conv => whnf) | fail)
        exact ⟨k + 1, ⟨rfl, rfl, rfl, rfl, rfl, rfl, rfl, trivial⟩, ⟨hke, hB, hnone, hL.tl⟩, (by first | omega | (dsimp only; omega))⟩
      · obtain ⟨h1, h2, h3, h4⟩ := wholeB_iff.1 hwh
        conv => whnf
        repeat (first | (refine RunH ?_; intro w hL hB; try clear w) | (refine Both.mk ?_ ?_ <;> conv => whnf) | (refine (sizeR_fn sv ss k _ (hs.below hL.below)).mono fun r w1 hr => ?_; obtain ⟨hr, hw⟩ := hr; subst hr; subst hw; conv => whnf) | fail)
        refine Br.dec (fun hbr => ?_) (fun hbr => ?_)
        · have hfirst := hno.some hpv (atRule_some (r := fun i v => fullS live ss c i v) (a := ⟨4, 0, 1, p.ns, p.ns⟩) h3 (by
            show fullS live ss c k p = _
            unfold fullS
            rw [if_neg]
            rintro (e | e | e | e)
            · exact e h2
            · rw [h1] at e; cases e
            · exact e h4
            · omega))
          rw [hfirst]
          rw [show ∀ {α : Type} (a : α) b, orS (some a) b = some a from fun _ _ => rfl]
          repeat (first | (refine RunK ?_; intro w hL hB; try clear w) | (refine V.treeS ttOk hL 0 (b := b8) rfl (.q 0 (.q 1 (.q 2 (.q 3 (.q 5 (.q 6 (.alt 4 (.alt 7 (.q 8 (.alt 9 (.q 10 .nil) .stop)) .stop) .stop))))))) mixed (by decide +kernel) ?_; replace hL := hL.drew; conv => whnf) | (refine V.treeS ttOk hL 1 (b := b8) rfl (.q 0 (.q 1 (.q 2 (.q 3 (.q 5 (.q 6 (.alt 4 (.alt 7 (.q 8 (.alt 9 (.q 10 .nil) .stop)) .stop) .stop))))))) mixed (by decide +kernel) ?_; replace hL := hL.drew; conv => whnf) | (refine V.treeS ttOk hL 2 (b := b8) rfl (.q 0 (.q 1 (.q 2 (.q 3 (.q 5 (.q 6 (.alt 4 (.alt 7 (.q 8 (.alt 9 (.q 10 .nil) .stop)) .stop) .stop))))))) mixed (by decide +kernel) ?_; replace hL := hL.drew; conv => whnf) | (refine V.treeS ttOk hL 3 (b := b8) rfl (.q 0 (.q 1 (.q 2 (.q 3 (.q 5 (.q 6 (.alt 4 (.alt 7 (.q 8 (.alt 9 (.q 10 .nil) .stop)) .stop) .stop))))))) mixed (by decide +kernel) ?_; replace hL := hL.drew; conv => whnf) | (refine V.treeS ttOk hL 4 (b := b8) rfl (.q 0 (.q 1 (.q 2 (.q 3 (.q 5 (.q 6 (.alt 4 (.alt 7 (.q 8 (.alt 9 (.q 10 .nil) .stop)) .stop) .stop))))))) mixed (by decide +kernel) ?_; replace hL := hL.drew; conv => whnf) | (refine V.tailA ttOk mixed (by decide +kernel) ?_; replace hL := hL.drew; conv => whnf) | (refine Both.mk ?_ ?_ <;> conv => whnf) | (intro w9 hw9; conv => whnf) | fail)
          refine (cloneR_fn _ p.ns _ (hns.below hL.below) (by omega)).mono fun r w hr => ?_
          obtain ⟨hown, hbl⟩ := hr
          replace hL := hL.addRow hB hbl hown
          replace hB := Nat.le_trans hB hbl.size
          obtain ⟨da, dc, rfl⟩ := (hL.rowN (i := 0) rfl).shape
          conv => whnf
          repeat (first | (refine RunH ?_; intro w hL hB; try clear w) | (refine Both.mk ?_ ?_ <;> conv => whnf) | (intro w9 hw9; conv => whnf) | fail)
          refine (cloneR_fn _ p.ns _ (hns.below hL.below) (by omega)).mono fun r w hr => ?_
          obtain ⟨hown, hbl⟩ := hr
          replace hL := hL.addRow hB hbl hown
          replace hB := Nat.le_trans hB hbl.size
          obtain ⟨ea, ec, rfl⟩ := (hL.rowN (i := 0) rfl).shape
          conv => whnf
          repeat (first | (refine RunH ?_; intro w hL hB; try clear w) | (refine Both.mk ?_ ?_ <;> conv => whnf) | fail)
          refine ActS.mk (kv := .slice da p.ns.length dc) (nv := .slice ea p.ns.length ec) rfl rfl ?_
          exact (hL.sub (L' := [.row 3 1 (.slice ea p.ns.length ec) p.ns.length (numC p.ns), .row 3 1 (.slice da p.ns.length dc) p.ns.length (numC p.ns)]) (.cons_cons _ (.cons_cons _ (List.nil_sublist _)))).perm (List.Perm.swap _ _ _)
        · have hnone := hno.snoc hpv (atRule_none fun hn => by
            unfold fullS
            rw [if_pos]
            exact .inr (.inr (.inr (by omega))))
          repeat (first | (refine RunH ?_; intro w hL hB; try clear w) | (refine Both.mk ?_ ?_ <;> conv => whnf) | fail)
          exact ⟨k + 1, ⟨rfl, rfl, rfl, rfl, rfl, rfl, rfl, trivial⟩, ⟨hke, hB, hnone, hL.tl⟩, (by first | omega | (dsimp only; omega))⟩
    · obtain rfl : k = ps.length := by omega
      rw [PreS.none (by rw [pvs_len]; exact hno)]
      rw [show ∀ {α : Type} (b : Option α), orS none b = b from fun _ => rfl]
      repeat (first | (refine RunH ?_; intro w hL hB; try clear w) | (refine Both.mk ?_ ?_ <;> conv => whnf) | fail)
      refine (freeR_fn _ lv _ ps live [] _ (h.below hL.below) (hl.below hL.below) hll (SlE.nil _)).mono fun r w hr => ?_
      obtain ⟨hown, hbl⟩ := hr
      have hrl : ∀ p : PV, ∀ a, stripS (pvs ps) live c p = a → stripS (pvs ps) live c p = a := fun p a e => e
      conv at hrl => enter [p, a]; lhs; unfold stripS
      have hf64 := freeS_le (pvs ps) live []
      generalize freeS (pvs ps) live [] = fr at *
      replace hL := hL.addRow hB hbl hown
      replace hB := Nat.le_trans hB hbl.size
      obtain ⟨fa, fc, rfl⟩ := (hL.rowN (i := 0) rfl).shape
      conv => whnf
      repeat (first | (refine RunH ?_; intro w hL hB; try clear w) | (refine Both.mk ?_ ?_ <;> conv => whnf) | fail)
      refine V.loop (α := Nat) (fun z => [(0, .slice va ps.length vc), (1, lv), (7, .pointer (some ⟨b7, 0, none⟩)), (8, .pointer (some ⟨b8, 0, none⟩)), (9, .bool false), (14, .slice fa fr.length fc), (15, .int .i64 z)])
        (fun z w' => z ≤ ps.length ∧ w0.heap.size ≤ w'.heap.size ∧ PreS (fun _ v => stripS (pvs ps) live c v) (pvs ps) z ∧ Sep Try.prog w0.heap.size w0 w' [.row 3 1 (.slice fa fr.length fc) fr.length (numC fr), .blk b8 [.int .i64 0, .int .i64 0, .int .i64 0, .slice none 0 0, .slice none 0 0] 32, .blk b7 (cfC c) 26]) (fun z => ps.length - z) 0 ⟨rfl, rfl, rfl, rfl, rfl, rfl, rfl, trivial⟩ ⟨by omega, hB, PreS.zero _ _, hL⟩ ?_
      rintro k w ⟨hk, hB, hno, hL⟩
      repeat (first | (refine RunH ?_; intro w hL hB; try clear w) | (refine Both.mk ?_ ?_ <;> conv => whnf) | fail)
      refine Br.dec (fun hlt => ?_) (fun hlt => ?_)
      · have hke : k < ps.length := by omega
        have hge : ps[k]? = some ps[k] := List.getElem?_eq_getElem hke
        have hmem := List.getElem_mem hke
        have hpv := pvs_get hge
        generalize hev : ps[k] = pv at *
        obtain ⟨p, nv⟩ := pv
        have hns := h.ns _ hmem
        have hten := h.ten _ hmem
        dsimp only at hns hten hpv
        obtain ⟨na, nc, hnv⟩ := hns.shape
        rw [numC_len] at hnv
        subst hnv
        obtain ⟨b, o, rfl, hr⟩ := (h.sl.below hL.below).addr (by omega)
        repeat (first | (refine RunH ?_; intro w hL hB; try clear w) | (refine Both.mk ?_ ?_ <;> conv => whnf) | fail)
        intro o' ho'
        conv => whnf
        refine Ld.rowN ttOk pvC_len hr rfl rfl rfl hge (by omega) ?_
        conv => whnf
        (refine Nw.sep hL hB (fun bv w hL hB hbv => ?_); conv => whnf)
        repeat (first | (refine RunH ?_; intro w hL hB; try clear w) | (refine Both.mk ?_ ?_ <;> conv => whnf) | fail)
        dsimp only [pvC, cellsL, overL, splice] at hL
        refine (wholeR_fn (p, .slice na p.ns.length nc) lv live 1 _ (hns.below hL.below) (by dsimp only; omega) (hl.below hL.below)).mono fun r w hr => ?_
        obtain ⟨hr', hw⟩ := hr
        subst hr'
        replace hL := hL.call hB (Turns.of_below hw)
        replace hB := Nat.le_trans hB hw.size
        dsimp only
        cases hwh : wholeB live p 1
        · have hnone := hno.snoc hpv (atRule_none fun hn => by
            have := wholeB_no hwh hn
            refine hrl p _ (if_pos ?_)
            rcases this with e | e | e
            · exact .inl e
            · exact .inr (.inl e)
            · exact .inr (.inr (.inl e)))
          conv => whnf
          repeat (first | (refine RunH ?_; intro w hL hB; try clear w) | (refine Both.mk ?_ ?_ <;> conv => whnf) | fail)
          exact ⟨k + 1, ⟨rfl, rfl, rfl, rfl, rfl, rfl, rfl, trivial⟩, ⟨hke, hB, hnone, hL.tl⟩, (by first | omega | (dsimp only; omega))⟩
        · obtain ⟨h1, h2, h3, h4⟩ := wholeB_iff.1 hwh
          conv => whnf
          repeat (first | (refine RunH ?_; intro w hL hB; try clear w) | (refine Both.mk ?_ ?_ <;> conv => whnf) | fail)
          refine Br.dec (fun hbr => ?_) (fun hbr => ?_)
          · have hfirst := hno.some hpv (atRule_some (r := fun _ v => stripS (pvs ps) live c v) (a := ⟨2, 0, 2, p.ns, fr.take (c.k + c.m).toNat⟩) h3 (by
              refine hrl p _ (if_neg ?_)
              rintro (e | e | e | e)
              · exact e h2
              · rw [h1] at e; cases e
              · exact e h4
              · omega))
            rw [hfirst]
            rw [show ∀ {α : Type} (a : α) b, orS (some a) b = some a from fun _ _ => rfl]
            obtain ⟨⟨fb, rfl⟩, hfc⟩ := own_addr (hL.at (i := 1) rfl) (by omega)
            have hfm : fc ≤ maxLen := by
              rcases own_shape (hL.at (i := 1) rfl) with ⟨e, h0⟩ | ⟨g, c9, e, h1, h2⟩
              · omega
              · injection e with e1 e2 e3; omega
            obtain ⟨q, hq⟩ := Int.eq_ofNat_of_zero_le (show 0 ≤ c.k + c.m by omega)
            rw [hq, Int.toNat_natCast]
            repeat (first | (refine RunK ?_; intro w hL hB; try clear w) | (refine V.treeS ttOk hL 0 (b := b8) rfl (.q 0 (.q 1 (.q 2 (.q 3 (.q 5 (.q 6 (.q 7 (.q 8 (.q 9 (.q 10 (.q 11 (.alt 4 (.alt 12 (.q 13 (.alt 14 (.q 15 .nil) .stop)) .stop) .stop)))))))))))) mixed (by decide +kernel) ?_; replace hL := hL.drew; conv => whnf) | (refine V.treeS ttOk hL 1 (b := b8) rfl (.q 0 (.q 1 (.q 2 (.q 3 (.q 5 (.q 6 (.q 7 (.q 8 (.q 9 (.q 10 (.q 11 (.alt 4 (.alt 12 (.q 13 (.alt 14 (.q 15 .nil) .stop)) .stop) .stop)))))))))))) mixed (by decide +kernel) ?_; replace hL := hL.drew; conv => whnf) | (refine V.treeS ttOk hL 2 (b := b8) rfl (.q 0 (.q 1 (.q 2 (.q 3 (.q 5 (.q 6 (.q 7 (.q 8 (.q 9 (.q 10 (.q 11 (.alt 4 (.alt 12 (.q 13 (.alt 14 (.q 15 .nil) .stop)) .stop) .stop)))))))))))) mixed (by decide +kernel) ?_; replace hL := hL.drew; conv => whnf) | (refine V.treeS ttOk hL 3 (b := b8) rfl (.q 0 (.q 1 (.q 2 (.q 3 (.q 5 (.q 6 (.q 7 (.q 8 (.q 9 (.q 10 (.q 11 (.alt 4 (.alt 12 (.q 13 (.alt 14 (.q 15 .nil) .stop)) .stop) .stop)))))))))))) mixed (by decide +kernel) ?_; replace hL := hL.drew; conv => whnf) | (refine V.treeS ttOk hL 4 (b := b8) rfl (.q 0 (.q 1 (.q 2 (.q 3 (.q 5 (.q 6 (.q 7 (.q 8 (.q 9 (.q 10 (.q 11 (.alt 4 (.alt 12 (.q 13 (.alt 14 (.q 15 .nil) .stop)) .stop) .stop)))))))))))) mixed (by decide +kernel) ?_; replace hL := hL.drew; conv => whnf) | (refine V.tailA ttOk mixed (by decide +kernel) ?_; replace hL := hL.drew; conv => whnf) | (refine Both.mk ?_ ?_ <;> conv => whnf) | (intro w9 hw9; conv => whnf) | fail)
            refine (cloneR_fn _ p.ns _ (hns.below hL.below) (by omega)).mono fun r w hr => ?_
            obtain ⟨hown, hbl⟩ := hr
            replace hL := hL.addRow hB hbl hown
            replace hB := Nat.le_trans hB hbl.size
            obtain ⟨da, dc, rfl⟩ := (hL.rowN (i := 0) rfl).shape
            conv => whnf
            repeat (first | (refine RunH ?_; intro w hL hB; try clear w) | (refine Both.mk ?_ ?_ <;> conv => whnf) | (intro n' c' q1 q2; conv => whnf) | fail)
            rename_i n' c' q1 q2
            obtain rfl : q = n' := by omega
            have htl : (fr.take q).length = q := by rw [List.length_take]; omega
            refine (cloneR_fn _ (fr.take q) _ ((hL.rowN (i := 2) rfl).preN (k := q) (c' := c') (by omega) (by omega) (by omega)).to1.e (by omega)).mono fun r w hr => ?_
            obtain ⟨hown, hbl⟩ := hr
            rw [htl] at hown
            replace hL := hL.addRow hB hbl hown
            replace hB := Nat.le_trans hB hbl.size
            obtain ⟨ea, ec, rfl⟩ := (hL.rowN (i := 0) rfl).shape
            conv => whnf
            repeat (first | (refine RunH ?_; intro w hL hB; try clear w) | (refine Both.mk ?_ ?_ <;> conv => whnf) | fail)
            refine ActS.mk (kv := .slice da p.ns.length dc) (nv := .slice ea q ec) rfl rfl ?_
            dsimp only
            rw [htl]
            exact (hL.sub (L' := [.row 3 1 (.slice ea q ec) q (numC (fr.take q)), .row 3 1 (.slice da p.ns.length dc) p.ns.length (numC p.ns)]) (.cons_cons _ (.cons_cons _ (List.nil_sublist _)))).perm (List.Perm.swap _ _ _)
          · have hnone := hno.snoc hpv (atRule_none fun hn => hrl p _ (if_pos (.inr (.inr (.inr (by omega))))))
            repeat (first | (refine RunH ?_; intro w hL hB; try clear w) | (refine Both.mk ?_ ?_ <;> conv => whnf) | fail)
            exact ⟨k + 1, ⟨rfl, rfl, rfl, rfl, rfl, rfl, rfl, trivial⟩, ⟨hke, hB, hnone, hL.tl⟩, (by first | omega | (dsimp only; omega))⟩
      · obtain rfl : k = ps.length := by omega
        rw [PreS.none (by rw [pvs_len]; exact hno)]
        rw [show ∀ {α : Type} (b : Option α), orS none b = b from fun _ => rfl]
        repeat (first | (refine RunH ?_; intro w hL hB; try clear w) | (refine Both.mk ?_ ?_ <;> conv => whnf) | fail)
        have hcp := unevenR_fn (.slice va ps.length vc) lv ps live w (h.below hL.below) (hl.below hL.below) hll
        generalize firstS (fun _ v => unevenS (pvs ps) live v) (pvs ps) = o2 at *
        refine hcp.mono fun r w' hr => ?_
        rcases hr.cases with ⟨rfl, rfl, hbl⟩ | ⟨a, ka, kc, na, nc, rfl, rfl, hS⟩
        · replace hL := hL.call hB (Turns.of_below hbl)
          replace hB := Nat.le_trans hB hbl.size
          unfold noneV
          conv => whnf
          repeat (first | (refine RunH ?_; intro w hL hB; try clear w) | (refine Both.mk ?_ ?_ <;> conv => whnf) | fail)
          exact ⟨rfl, hL.below⟩
        · replace hL := hL.adds hB hS
          replace hB := Nat.le_trans hB hS.below.size
          unfold actV
          conv => whnf
          repeat (first | (refine RunH ?_; intro w hL hB; try clear w) | (refine Both.mk ?_ ?_ <;> conv => whnf) | fail)
          exact ActS.mk (kv := .slice ka a.keep.length kc) (nv := .slice na a.ns.length nc) rfl rfl (hL.sub (.cons_cons _ (.cons_cons _ (List.nil_sublist _))))
end Go.Proofs.Ythifnfoppamkiaa
