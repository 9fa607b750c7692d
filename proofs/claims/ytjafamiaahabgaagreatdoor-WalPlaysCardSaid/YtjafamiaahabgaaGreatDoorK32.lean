/- WalPlays, plain: Append, Sync, Drop, Cut in both. WalPlays, plain: Cut in both. Nothing is claimed here. -/
import Derived.Test.YtjafamiaahabgaaGreatDoorK31
namespace Go.Proofs.YtjafamiaahabgaaGreatDoor
open Go.RowKit Go.Lib
set_option linter.unusedVariables false
set_option linter.unusedSimpArgs false
set_option maxRecDepth 100000

theorem apart_ne {G : List Wg} {n af : Nat} (h : ChG n G af) (hl : ∀ g, G.getLast? = some g → g.es ≠ []) : ∀ g ∈ G, g.es ≠ [] := fun g hg he => by
  obtain ⟨A, C, rfl⟩ := List.append_of_mem hg
  obtain ⟨m, _, h2⟩ := h.split
  have h3 : C = [] := Decidable.byContradiction fun hne => h2.2.1 hne he
  subst h3
  exact hl g (by simp) he
theorem ChG.cleanW : ∀ {G : List Wg} {n af : Nat}, ChG n G af → ChG n (G.map Wg.clean) af
  | [], _, _, h => h
  | g :: gs, n, af, ⟨h1, h2, h3⟩ => ⟨h1, fun hc => h2 (by intro h; exact hc (by rw [h]; rfl)), ChG.cleanW h3⟩
theorem PlW.append {pre : ByteArray} {S : List Fl} {G : List Wg} {af room : Nat} {D : List Nat} {x : List UInt8} (h : PlW pre S G af D) (hx : x.length ≤ 1048566) (haf : af < 99999999) (hE : appE room S (wnm pre (takesW G af)) (recL af x) = 0) :
    PlW pre (appS room S (wnm pre (takesW G af)) (encF (encU af ++ x))) (apG G af x) (af + 1) (D ++ [takesW G af]) := by
  obtain ⟨n, hn, hc⟩ := h.ch
  have hrl : (encF (encU af ++ x)).length = recL af x := recW_len af x
  have hr2 : recL af x ≤ 1048584 := by rw [recL]; have := encU_len af; omega
  have hS' : ∀ y, getS (appS room S (wnm pre (takesW G af)) (encF (encU af ++ x))) y = if y = wnm pre (takesW G af) then some (appF S (wnm pre (takesW G af)) (encF (encU af ++ x))) else getS S y := fun y => by
    rw [appS, hrl, if_pos hE, getS_put]
    have : (appF S (wnm pre (takesW G af)) (encF (encU af ++ x))).nm = wnm pre (takesW G af) := by
      rw [appF]; split <;> rfl
    rw [this]
  generalize hT : appS room S (wnm pre (takesW G af)) (encF (encU af ++ x)) = T at *
  by_cases hf : freshW G = true
  · have ht : takesW G af = af := by
      unfold freshW at hf
      unfold takesW
      cases hl : lastW G with
      | none => rfl
      | some g => rw [hl] at hf; simp only [decide_eq_true_eq] at hf; simp only [hf, if_true]
    have hne : ∀ g ∈ G, g.es ≠ [] := apart_ne hc fun g hg he => by
      rw [freshW, lastW, hg] at hf
      simp only [decide_eq_true_eq] at hf
      rw [Wg.size, he, lenW] at hf
      omega
    have hlt : ∀ g ∈ G, g.first < af := fun g hg => by
      have h1 := hc.mem g hg
      have h2 := List.length_pos_iff.2 (hne g hg)
      rw [Wg.next] at h1; omega
    have haf1 : 1 ≤ af := Nat.le_trans hn hc.ge
    have hno : getS S (wnm pre af) = none := by
      cases hg : getS S (wnm pre af) with
      | none => rfl
      | some f =>
        obtain ⟨g, hg1, hg2⟩ := h.only _ af f hg (numG_wnm (by omega))
        have := hlt g hg1
        omega
    rw [ht] at hS' ⊢
    rw [apG, if_pos hf]
    have hnm : ∀ g ∈ G, wnm pre g.first ≠ wnm pre af := fun g hg e => by
      have h1 := hlt g hg
      have := wnm_inj (h.first g hg).2 (by omega) e
      omega
    have hAF : appF S (wnm pre af) (encF (encU af ++ x)) = ⟨wnm pre af, encF (encU af ++ x), 0⟩ := by rw [appF, hno]
    rw [hAF] at hS'
    refine ⟨⟨n, hn, ChG.app hc hne ⟨rfl, fun h => absurd rfl h, rfl⟩⟩, fun g hg => ?_, fun g hg => ?_, fun g hg => ?_, fun y m f hy hm => ?_, fun g hg => ?_, fun m hm => ?_, by have := h.afl; omega⟩
    · rcases List.mem_append.1 hg with hg | hg
      · exact h.first g hg
      · rw [List.mem_singleton.1 hg]; exact ⟨haf1, by dsimp only; omega⟩
    · rcases List.mem_append.1 hg with hg | hg
      · rw [hS', if_neg (hnm g hg)]; exact h.file g hg
      · rw [List.mem_singleton.1 hg, hS', if_pos rfl]
        exact ⟨_, rfl, by rw [Wg.size]; dsimp only; rw [hrl, lenW, lenW]; rfl⟩
    · rcases List.mem_append.1 hg with hg | hg
      · exact h.recs g hg
      · rw [List.mem_singleton.1 hg]
        intro k y hy
        cases k with
        | zero =>
          simp only [List.getElem?_cons_zero, Option.some.injEq] at hy
          subst hy; exact hr2
        | succ k => simp at hy
    · rw [hS'] at hy
      by_cases he : y = wnm pre af
      · rw [he, numG_wnm (by omega)] at hm
        injection hm with hm
        exact ⟨⟨af, [x], true⟩, by simp, hm⟩
      · rw [if_neg he] at hy
        obtain ⟨g, h1, h2⟩ := h.only y m f hy hm
        exact ⟨g, List.mem_append_left _ h1, h2⟩
    · rcases List.mem_append.1 hg with hg | hg
      · rw [h.dirt g hg, List.mem_append]
        refine ⟨.inl, fun h1 => h1.resolve_right fun h2 => ?_⟩
        have := hlt g hg
        have := List.mem_singleton.1 h2
        omega
      · rw [List.mem_singleton.1 hg]; simp
    · rcases List.mem_append.1 hm with hm | hm
      · exact h.dn m hm
      · rw [List.mem_singleton.1 hm]; omega
  · rcases List.eq_nil_or_concat G with rfl | ⟨C, g, rfl⟩
    · exact absurd rfl hf
    rw [List.concat_eq_append] at *
    have hs : ¬ 1024 ≤ g.size := fun hc2 => hf (by simp [freshW, lastW, hc2])
    have ht : takesW (C ++ [g]) af = g.first := by simp [takesW, lastW, hs]
    have hgf := h.first g (by simp)
    have hnx : g.next = af := hc.last g (by simp)
    have hnx2 : g.first + g.es.length = af := hnx
    have hlt : ∀ q ∈ C, q.first < g.first := fun q hq => (List.pairwise_append.1 hc.rises).2.2 q hq g (List.mem_singleton.2 rfl)
    rw [ht] at hS' ⊢
    rw [apG, if_neg hf, putW_snoc]
    obtain ⟨f0, hf0, hfl⟩ := h.file g (by simp)
    have hAF : appF S (wnm pre g.first) (encF (encU af ++ x)) = ⟨wnm pre g.first, f0.d ++ encF (encU af ++ x), f0.la⟩ := by rw [appF, hf0]
    rw [hAF] at hS'
    have hnm : ∀ q ∈ C, wnm pre q.first ≠ wnm pre g.first := fun q hq e => by
      have h1 := hlt q hq
      have := wnm_inj (h.first q (List.mem_append_left _ hq)).2 hgf.2 e
      omega
    obtain ⟨m0, hA, hB⟩ := hc.split
    refine ⟨⟨n, hn, ChG.app hA (fun q hq he => ?_) ⟨hB.1, fun h => absurd rfl h, ?_⟩⟩, fun q hq => ?_, fun q hq => ?_, fun q hq => ?_, fun y m f hy hm => ?_, fun q hq => ?_, fun m hm => ?_, by have := h.afl; omega⟩
    · obtain ⟨A', C', rfl⟩ := List.append_of_mem hq
      rw [List.append_assoc] at hc
      obtain ⟨_, _, h2⟩ := hc.split
      exact h2.2.1 (by simp) he
    · show g.first + (g.es ++ [x]).length = af + 1
      rw [List.length_append, List.length_singleton]; omega
    · rcases List.mem_append.1 hq with hq | hq
      · exact h.first q (List.mem_append_left _ hq)
      · rw [List.mem_singleton.1 hq]; exact hgf
    · rcases List.mem_append.1 hq with hq | hq
      · rw [hS', if_neg (hnm q hq)]; exact h.file q (List.mem_append_left _ hq)
      · rw [List.mem_singleton.1 hq, hS', if_pos rfl]
        refine ⟨_, rfl, ?_⟩
        rw [Wg.size]
        dsimp only
        rw [List.length_append, hrl, lenW_snoc, hfl, hnx2]; rfl
    · rcases List.mem_append.1 hq with hq | hq
      · exact h.recs q (List.mem_append_left _ hq)
      · rw [List.mem_singleton.1 hq]
        intro k y hy
        dsimp only at hy ⊢
        rcases Nat.lt_or_ge k g.es.length with hk | hk
        · rw [List.getElem?_append_left hk] at hy
          exact h.recs g (by simp) k y hy
        · rw [List.getElem?_append_right hk] at hy
          have hk0 : k - g.es.length = 0 := by
            rcases Nat.eq_zero_or_pos (k - g.es.length) with h0 | h0
            · exact h0
            · rw [List.getElem?_eq_none (by simp; omega)] at hy; cases hy
          rw [hk0] at hy
          simp only [List.getElem?_cons_zero, Option.some.injEq] at hy
          subst hy
          rw [show g.first + k = af by omega]; exact hr2
    · rw [hS'] at hy
      by_cases he : y = wnm pre g.first
      · rw [he, numG_wnm hgf.2] at hm
        injection hm with hm
        exact ⟨⟨g.first, g.es ++ [x], true⟩, by simp, hm⟩
      · rw [if_neg he] at hy
        obtain ⟨q, h1, h2⟩ := h.only y m f hy hm
        rcases List.mem_append.1 h1 with h1 | h1
        · exact ⟨q, List.mem_append_left _ h1, h2⟩
        · rw [List.mem_singleton.1 h1] at h2
          exact ⟨⟨g.first, g.es ++ [x], true⟩, by simp, h2⟩
    · rcases List.mem_append.1 hq with hq | hq
      · rw [h.dirt q (List.mem_append_left _ hq), List.mem_append]
        refine ⟨.inl, fun h1 => h1.resolve_right fun h2 => ?_⟩
        have := hlt q hq
        have := List.mem_singleton.1 h2
        omega
      · rw [List.mem_singleton.1 hq]; simp
    · rcases List.mem_append.1 hm with hm | hm
      · exact h.dn m hm
      · rw [List.mem_singleton.1 hm]; exact hgf.2
theorem PlW.sync {pre : ByteArray} {S : List Fl} {G : List Wg} {af : Nat} {D : List Nat} (h : PlW pre S G af D) : PlW pre (syncG pre S G) (G.map Wg.clean) af [] := by
  have hS' : ∀ y, getS (syncG pre S G) y = getS S y ∨ getS (syncG pre S G) y = (getS S y).map lastF := fun y => by
    rw [syncG_names]
    obtain ⟨h1, h2⟩ := getS_syncs ((G.filter (·.dirty)).map fun g => wnm pre g.first) S y
    by_cases hy : y ∈ (G.filter (·.dirty)).map fun g => wnm pre g.first
    · exact .inr (h1 hy)
    · exact .inl (h2 hy)
  obtain ⟨n, hn, hc⟩ := h.ch
  have hm : ∀ g ∈ G.map Wg.clean, ∃ q ∈ G, g = q.clean := fun g hg => by
    obtain ⟨q, hq, rfl⟩ := List.mem_map.1 hg; exact ⟨q, hq, rfl⟩
  refine ⟨⟨n, hn, hc.cleanW⟩, fun g hg => ?_, fun g hg => ?_, fun g hg => ?_, fun y m f hy hm => ?_, fun g hg => ?_, by simp, h.afl⟩
  · obtain ⟨q, hq, rfl⟩ := hm g hg; exact h.first q hq
  · obtain ⟨q, hq, rfl⟩ := hm g hg
    obtain ⟨f, hf, hl⟩ := h.file q hq
    show ∃ f, getS (syncG pre S G) (wnm pre q.first) = some f ∧ f.d.length = q.size
    rcases hS' (wnm pre q.first) with h1 | h1
    · exact ⟨f, by rw [h1, hf], hl⟩
    · exact ⟨lastF f, by rw [h1, hf]; rfl, hl⟩
  · obtain ⟨q, hq, rfl⟩ := hm g hg; exact h.recs q hq
  · have hex : ∃ f', getS S y = some f' := by
      cases hg : getS S y with
      | none => rcases hS' y with h1 | h1 <;> rw [h1, hg] at hy <;> cases hy
      | some f' => exact ⟨f', rfl⟩
    obtain ⟨f', hf'⟩ := hex
    obtain ⟨g, hg, hgm⟩ := h.only y m f' hf' hm
    exact ⟨g.clean, List.mem_map.2 ⟨g, hg, rfl⟩, hgm⟩
  · obtain ⟨q, hq, rfl⟩ := hm g hg
    simp [Wg.clean]
theorem PlW.sync_get {pre : ByteArray} {S R : List Fl} {G : List Wg} {af : Nat} {D : List Nat} (h : PlW pre S G af D) (hg : ∀ x, getS R x = getS S x) : ∀ x, getS (syncD pre R D) x = getS (syncG pre S G) x := fun x => by
  rw [syncD_names, syncG_names]
  obtain ⟨d1, d2⟩ := getS_syncs (D.map fun n => wnm pre n) R x
  obtain ⟨g1, g2⟩ := getS_syncs ((G.filter (·.dirty)).map fun g => wnm pre g.first) S x
  cases hx : getS S x with
  | none =>
    have e : ∀ (ns : List ByteArray) (T : List Fl), getS T x = none → getS (ns.foldl syncS T) x = none := fun ns T hT => by
      obtain ⟨a, b⟩ := getS_syncs ns T x
      by_cases h1 : x ∈ ns
      · rw [a h1, hT]; rfl
      · rw [b h1, hT]
    rw [e _ R (by rw [hg, hx]), e _ S hx]
  | some f =>
    have hiff : x ∈ (D.map fun n => wnm pre n) ↔ x ∈ (G.filter (·.dirty)).map fun g => wnm pre g.first := by
      constructor
      · intro hm
        obtain ⟨n, hn, rfl⟩ := List.mem_map.1 hm
        obtain ⟨g, hgm, hgn⟩ := h.only _ n f hx (numG_wnm (h.dn n hn))
        exact List.mem_map.2 ⟨g, List.mem_filter.2 ⟨hgm, (h.dirt g hgm).2 (hgn ▸ hn)⟩, by rw [hgn]⟩
      · intro hm
        obtain ⟨g, hgm, rfl⟩ := List.mem_map.1 hm
        obtain ⟨h1, h2⟩ := List.mem_filter.1 hgm
        exact List.mem_map.2 ⟨g.first, (h.dirt g h1).1 h2, rfl⟩
    by_cases hm : x ∈ (D.map fun n => wnm pre n)
    · rw [d1 hm, g1 (hiff.1 hm), hg]
    · rw [d2 hm, g2 (fun h => hm (hiff.2 h)), hg]
/-- segments' files are removed -/
def delG (pre : ByteArray) (S : List Fl) (A : List Wg) : List Fl := A.foldl (fun S g => delS S (wnm pre g.first)) S
theorem getS_delG {pre : ByteArray} : ∀ (A : List Wg) {S : List Fl} (_ : NdS S), NdS (delG pre S A) ∧ ∀ x, ((∃ g ∈ A, wnm pre g.first = x) → getS (delG pre S A) x = none) ∧ ((¬ ∃ g ∈ A, wnm pre g.first = x) → getS (delG pre S A) x = getS S x)
  | [], S, h => ⟨h, fun x => ⟨by simp, fun _ => rfl⟩⟩
  | a :: A, S, h => by
    obtain ⟨i1, i2⟩ := getS_delG A (h.del (wnm pre a.first))
    refine ⟨i1, fun x => ?_⟩
    obtain ⟨j1, j2⟩ := i2 x
    rw [getS_del h] at j2
    show ((∃ g ∈ a :: A, wnm pre g.first = x) → getS (delG pre (delS S (wnm pre a.first)) A) x = none) ∧ _
    by_cases hA : ∃ g ∈ A, wnm pre g.first = x
    · refine ⟨fun _ => j1 hA, fun h1 => absurd ?_ h1⟩
      obtain ⟨g, h2, h3⟩ := hA
      exact ⟨g, List.mem_cons_of_mem _ h2, h3⟩
    · refine ⟨fun h1 => ?_, fun h1 => ?_⟩
      · rw [j2 hA, if_pos]
        obtain ⟨g, h2, h3⟩ := h1
        rcases List.mem_cons.1 h2 with rfl | h2
        · exact h3.symm
        · exact absurd ⟨g, h2, h3⟩ hA
      · show getS (delG pre (delS S (wnm pre a.first)) A) x = _
        rw [j2 hA, if_neg fun e => h1 ⟨a, List.mem_cons_self .., e.symm⟩]
theorem dropR_spec (pre : ByteArray) (i : Int) (af : Nat) : ∀ (G : List Wg) (S : List Fl), ∃ A B, G = A ++ B ∧ dropR pre i af G S = (B, delG pre S A)
  | [], S => ⟨[], [], rfl, rfl⟩
  | g :: G, S => by
    rw [dropR]
    split
    · exact ⟨[], g :: G, rfl, rfl⟩
    · obtain ⟨A, B, h1, h2⟩ := dropR_spec pre i af G (delS S (wnm pre g.first))
      exact ⟨g :: A, B, by rw [h1]; rfl, h2⟩
theorem dropR_get (pre : ByteArray) (i : Int) (af : Nat) : ∀ (G : List Wg) {S R : List Fl}, NdS S → NdS R → (∀ x, getS R x = getS S x) → (dropR pre i af G R).1 = (dropR pre i af G S).1 ∧ ∀ x, getS (dropR pre i af G R).2 x = getS (dropR pre i af G S).2 x
  | [], S, R, _, _, h => ⟨rfl, h⟩
  | g :: G, S, R, hS, hR, h => by
    rw [dropR, dropR]
    split
    · exact ⟨rfl, h⟩
    · exact dropR_get pre i af G (hS.del _) (hR.del _) fun x => by rw [getS_del hS, getS_del hR, h]
theorem PlW.drop {pre : ByteArray} {S : List Fl} {G : List Wg} {af : Nat} {D : List Nat} (h : PlW pre S G af D) (hS : NdS S) (i : Int) : PlW pre (dropR pre i af G S).2 (dropR pre i af G S).1 af D := by
  obtain ⟨A, B, rfl, he⟩ := dropR_spec pre i af G S
  rw [he]
  obtain ⟨n, hn, hc⟩ := h.ch
  obtain ⟨m, h1, h2⟩ := hc.split
  obtain ⟨_, hg⟩ := getS_delG (pre := pre) A hS
  have hAB : ∀ g ∈ B, ¬ ∃ q ∈ A, wnm pre q.first = wnm pre g.first := fun g hgB ⟨q, hq, e⟩ => by
    have h3 := wnm_inj (h.first q (List.mem_append_left _ hq)).2 (h.first g (List.mem_append_right _ hgB)).2 e
    have h4 := (List.pairwise_append.1 hc.rises).2.2 q hq g hgB
    omega
  refine ⟨⟨m, Nat.le_trans hn h1.ge, h2⟩, fun g hgB => h.first g (List.mem_append_right _ hgB), fun g hgB => ?_, fun g hgB => h.recs g (List.mem_append_right _ hgB), fun x k f hx hk => ?_, fun g hgB => h.dirt g (List.mem_append_right _ hgB), h.dn, h.afl⟩
  · rw [(hg _).2 (hAB g hgB)]
    exact h.file g (List.mem_append_right _ hgB)
  · by_cases hx2 : ∃ q ∈ A, wnm pre q.first = x
    · rw [(hg x).1 hx2] at hx; cases hx
    · rw [(hg x).2 hx2] at hx
      obtain ⟨g, hgm, hgn⟩ := h.only x k f hx hk
      rcases List.mem_append.1 hgm with h5 | h5
      · exact absurd ⟨g, h5, by rw [hgn]; exact (numG_nm hk).symm⟩ hx2
      · exact ⟨g, h5, hgn⟩
end Go.Proofs.YtjafamiaahabgaaGreatDoor
namespace Go.Proofs.YtjafamiaahabgaaGreatDoor
open Go.RowKit Go.Lib
set_option linter.unusedVariables false
set_option linter.unusedSimpArgs false
set_option maxRecDepth 100000

theorem cutRev_spec (pre : ByteArray) (i : Int) : ∀ (Gs : List Wg) (S : List Fl), cutRev pre i Gs S = (Gs.dropWhile (fun g => decide (i ≤ (g.first : Int))), delG pre S (Gs.takeWhile (fun g => decide (i ≤ (g.first : Int)))))
  | [], S => rfl
  | g :: Gs, S => by
    rw [cutRev, List.dropWhile_cons, List.takeWhile_cons]
    by_cases h : i ≤ (g.first : Int)
    · rw [if_pos h, if_pos (decide_eq_true h), if_pos (decide_eq_true h), cutRev_spec pre i Gs]
      rfl
    · rw [if_neg h, if_neg (by simpa using h), if_neg (by simpa using h)]
      rfl
theorem rcP_del (pre : ByteArray) (i : Nat) : ∀ (B : List Wg) (R : List Fl), (∀ g ∈ B, i ≤ g.first) → rcP pre i (B.map Wg.fe) R = ([], delG pre R B)
  | [], R, _ => rfl
  | g :: B, R, h => by
    rw [List.map_cons, rcP, show (Wg.fe g).1 = g.first from rfl, if_pos (h g (List.mem_cons_self ..)), rcP_del pre i B _ fun q hq => h q (List.mem_cons_of_mem _ hq)]
    rfl
theorem rcP_keep (pre : ByteArray) (i : Nat) (ps : List (Nat × List (List UInt8))) : ∀ (A : List Wg) (R : List Fl), (∀ g ∈ A, g.first < i ∧ g.next ≤ i) → rcP pre i (A.map Wg.fe ++ ps) R = (A.map Wg.fe ++ (rcP pre i ps R).1, (rcP pre i ps R).2)
  | [], R, _ => rfl
  | g :: A, R, h => by
    have h1 := h g (List.mem_cons_self ..)
    rw [Wg.next] at h1
    rw [List.map_cons, List.cons_append, rcP, show (Wg.fe g).1 = g.first from rfl, show (Wg.fe g).2 = g.es from rfl, if_neg (by omega), if_neg (by omega), rcP_keep pre i ps A _ fun q hq => h q (List.mem_cons_of_mem _ hq)]
    rfl
theorem lenW_take2 (n : Nat) (xs : List (List UInt8)) (k : Nat) : lenW n (xs.take k) ≤ lenW n xs := by
  have := endsW_last 0 n xs
  induction xs generalizing n k with
  | nil => simp
  | cons x xs ih =>
    cases k with
    | zero => simp [lenW]
    | succ k =>
      have := ih (n + 1) k (endsW_last 0 (n + 1) xs)
      rw [List.take_succ_cons, lenW, lenW]; omega
theorem takeWhile_all {α : Type} (p : α → Bool) : ∀ l : List α, ∀ x ∈ l.takeWhile p, p x = true
  | y :: l, x, h => by
    rw [List.takeWhile_cons] at h
    split at h
    · rcases List.mem_cons.1 h with rfl | h
      · assumption
      · exact takeWhile_all p l x h
    · cases h
theorem dropWhile_head {α : Type} (p : α → Bool) : ∀ (l : List α) (y : α) (r : List α), l.dropWhile p = y :: r → p y = false
  | x :: l, y, r, h => by
    rw [List.dropWhile_cons] at h
    split at h
    · exact dropWhile_head p l y r h
    · rename_i hh
      injection h with h1 h2
      rw [← h1]
      simpa using hh
theorem PlW.cut {pre : ByteArray} {S R : List Fl} {G : List Wg} {af : Nat} {D : List Nat} (h : PlW pre S G af D) (hS : NdS S) (hR : NdS R) (hg : ∀ x, getS R x = getS S x) (i : Nat) (hi : lowW G af ≤ i ∧ i ≤ af) :
    PlW pre (cutG pre (i : Int) G S).2 (cutG pre (i : Int) G S).1 i D ∧ (rcP pre i (G.map Wg.fe) R).1 = (cutG pre (i : Int) G S).1.map Wg.fe ∧ ∀ x, getS (rcP pre i (G.map Wg.fe) R).2 x = getS (cutG pre (i : Int) G S).2 x := by
  obtain ⟨n, hn, hc⟩ := h.ch
  have hlow : lowW G af = n := by
    cases G with
    | nil => exact (show n = af from hc).symm
    | cons g gs => exact hc.1
  rw [hlow] at hi
  rw [cutG, cutRev_spec]
  generalize hT : G.reverse.takeWhile (fun g => decide ((i : Int) ≤ (g.first : Int))) = T
  generalize hR' : G.reverse.dropWhile (fun g => decide ((i : Int) ≤ (g.first : Int))) = Q
  have hTall : ∀ g ∈ T, i ≤ g.first := fun g hg2 => by
    have := takeWhile_all _ _ g (hT ▸ hg2)
    simpa using this
  have hG : G = Q.reverse ++ T.reverse := by
    have h1 := List.takeWhile_append_dropWhile (p := fun g : Wg => decide ((i : Int) ≤ (g.first : Int))) (l := G.reverse)
    rw [hT, hR'] at h1
    have h2 := congrArg List.reverse h1
    rw [List.reverse_append, List.reverse_reverse] at h2
    exact h2.symm
  have hTall2 : ∀ g ∈ T.reverse, i ≤ g.first := fun g hg2 => hTall g (by simpa using hg2)
  obtain ⟨t1, t2⟩ := getS_delG (pre := pre) T hS
  rw [hG] at hc
  obtain ⟨m, hA, hB⟩ := hc.split
  have him : i ≤ m := by
    cases hTr : T.reverse with
    | nil => rw [hTr] at hB; have : m = af := hB; omega
    | cons t T' =>
      rw [hTr] at hB
      have := hTall2 t (by rw [hTr]; exact List.mem_cons_self ..)
      have h2 : t.first = m := hB.1
      omega
  have hmT : ∀ x, (∃ g ∈ T, wnm pre g.first = x) ↔ (∃ g ∈ T.reverse, wnm pre g.first = x) := fun x => by simp
  have hsubG : ∀ g ∈ Q.reverse, g ∈ G := fun g hg2 => by rw [hG]; exact List.mem_append_left _ hg2
  have hTG : ∀ g ∈ T, g ∈ G := fun g hg2 => by rw [hG]; exact List.mem_append_right _ (by simpa using hg2)
  have hQT : ∀ g ∈ Q.reverse, ¬ ∃ q ∈ T, wnm pre q.first = wnm pre g.first := fun g hgQ ⟨q, hq, e⟩ => by
    have h3 := wnm_inj (h.first q (hTG q hq)).2 (h.first g (hsubG g hgQ)).2 e
    have h4 := (List.pairwise_append.1 hc.rises).2.2 g hgQ q (by simpa using hq)
    omega
  cases Q with
  | nil =>
    have hnm : n = m := hA
    obtain rfl : i = n := by omega
    have hGT : G = T.reverse := by rw [hG]; rfl
    obtain ⟨r1, r2⟩ := getS_delG (pre := pre) T.reverse hR
    have hrc : rcP pre i (G.map Wg.fe) R = ([], delG pre R T.reverse) := by
      rw [hGT]; exact rcP_del pre i _ R hTall2
    rw [hrc]
    show PlW pre (delG pre S T) [] i D ∧ ([] : List (Nat × List (List UInt8))) = [] ∧ ∀ x, getS (delG pre R T.reverse) x = getS (delG pre S T) x
    refine ⟨⟨⟨i, hn, rfl⟩, by simp, by simp, by simp, fun x k f hx hk => ?_, by simp, h.dn, by have := h.afl; omega⟩, rfl, fun x => ?_⟩
    · by_cases hx2 : ∃ q ∈ T, wnm pre q.first = x
      · rw [(t2 x).1 hx2] at hx; cases hx
      · rw [(t2 x).2 hx2] at hx
        obtain ⟨g, hgm, hgn⟩ := h.only x k f hx hk
        rw [hGT] at hgm
        exact absurd ⟨g, by simpa using hgm, by rw [hgn]; exact (numG_nm hk).symm⟩ hx2
    · by_cases hx2 : ∃ q ∈ T, wnm pre q.first = x
      · rw [(t2 x).1 hx2, (r2 x).1 ((hmT x).1 hx2)]
      · rw [(t2 x).2 hx2, (r2 x).2 (fun h => hx2 ((hmT x).2 h)), hg]
  | cons a Q =>
    have hai := dropWhile_head _ _ a Q hR'
    have hai : a.first < i := by simpa using hai
    have hrev : (a :: Q).reverse = Q.reverse ++ [a] := List.reverse_cons
    rw [hrev] at hA hG hsubG hQT
    obtain ⟨m1, hA1, hA2⟩ := hA.split
    have hm1 : a.first = m1 := hA2.1
    have hnx : a.next = m := hA2.2.2
    have hnx2 : a.first + a.es.length = m := hnx
    have haG := hsubG a (by simp)
    have haf := h.first a haG
    obtain ⟨fa, hfa, hfl⟩ := h.file a haG
    have hkeep : ∀ g ∈ Q.reverse, g.first < i ∧ g.next ≤ i := fun g hg2 => by
      have h1 := hA1.mem g hg2
      have h2 : g.next = g.first + g.es.length := rfl
      omega
    have hQa : ∀ g ∈ Q.reverse, wnm pre g.first ≠ wnm pre a.first := fun g hg2 e => by
      have h3 := wnm_inj (h.first g (hsubG g (List.mem_append_left _ hg2))).2 haf.2 e
      have h4 := (List.pairwise_append.1 hA.rises).2.2 g hg2 a (List.mem_singleton.2 rfl)
      omega
    have haT := hQT a (by simp)
    have hrc : rcP pre i (G.map Wg.fe) R = (Q.reverse.map Wg.fe ++ (rcP pre i (([a] ++ T.reverse).map Wg.fe) R).1, (rcP pre i (([a] ++ T.reverse).map Wg.fe) R).2) := by
      rw [hG, List.append_assoc, List.map_append]
      exact rcP_keep pre i _ _ R hkeep
    have hstepR : rcP pre i (([a] ++ T.reverse).map Wg.fe) R = if i < a.next then ((a.first, a.es.take (i - a.first)) :: (rcP pre i (T.reverse.map Wg.fe) (cutS R (wnm pre a.first) (lenW a.first (a.es.take (i - a.first)) : Nat))).1, (rcP pre i (T.reverse.map Wg.fe) (cutS R (wnm pre a.first) (lenW a.first (a.es.take (i - a.first)) : Nat))).2) else (a.fe :: (rcP pre i (T.reverse.map Wg.fe) R).1, (rcP pre i (T.reverse.map Wg.fe) R).2) := by
      show rcP pre i (a.fe :: T.reverse.map Wg.fe) R = _
      rw [rcP, show (Wg.fe a).1 = a.first from rfl, show (Wg.fe a).2 = a.es from rfl, if_neg (by omega)]
      rfl
    rw [hrc, hstepR]
    have honly : ∀ x k f, getS S x = some f → ¬ (∃ q ∈ T, wnm pre q.first = x) → numG pre x = some k → ∃ g ∈ Q.reverse ++ [a], g.first = k := fun x k f hx hx2 hk => by
      obtain ⟨g, hgm, hgn⟩ := h.only x k f hx hk
      rw [hG] at hgm
      rcases List.mem_append.1 hgm with h5 | h5
      · exact ⟨g, h5, hgn⟩
      · exact absurd ⟨g, by simpa using h5, by rw [hgn]; exact (numG_nm hk).symm⟩ hx2
    have hcf : cutFin pre (i : Int) (a :: Q, delG pre S T) = if (i : Int) < (a.next : Nat) then ((a.cut i :: Q).reverse, cutS (delG pre S T) (wnm pre a.first) ((a.cut i).size : Int)) else ((a :: Q).reverse, delG pre S T) := rfl
    rw [hcf]
    by_cases hlt : i < a.next
    · have hj : ((i : Int) - (a.first : Nat)).toNat = i - a.first := by omega
      have hcut : a.cut i = ⟨a.first, a.es.take (i - a.first), a.dirty⟩ := by rw [Wg.cut, hj]
      have hsz : (a.cut i).size = lenW a.first (a.es.take (i - a.first)) := by rw [hcut]; rfl
      rw [if_pos (by omega : (i : Int) < (a.next : Nat)), if_pos hlt, rcP_del pre i _ _ hTall2, hsz]
      have hcl := lenW_take2 a.first a.es (i - a.first)
      have hk : lenW a.first (a.es.take (i - a.first)) ≤ fa.d.length := by rw [hfl]; exact hcl
      have hSa : getS (delG pre S T) (wnm pre a.first) = some fa := by rw [(t2 _).2 haT, hfa]
      have cS := fun x => getS_cut (delG pre S T) (wnm pre a.first) x (n := lenW a.first (a.es.take (i - a.first))) (fun f hf => by rw [hSa] at hf; injection hf with hf; subst hf; exact hk)
      have cR := fun x => getS_cut R (wnm pre a.first) x (n := lenW a.first (a.es.take (i - a.first))) (fun f hf => by rw [hg, hfa] at hf; injection hf with hf; subst hf; exact hk)
      obtain ⟨r1, r2⟩ := getS_delG (pre := pre) T.reverse (hR.cut (wnm pre a.first) (lenW a.first (a.es.take (i - a.first)) : Nat))
      rw [List.reverse_cons]
      dsimp only
      refine ⟨⟨⟨n, hn, ChG.app hA1 (fun g hg2 he => ?_) ⟨by rw [hcut]; exact hm1, fun h => absurd rfl h, ?_⟩⟩, fun g hg2 => ?_, fun g hg2 => ?_, fun g hg2 => ?_, fun x k f hx hk2 => ?_, fun g hg2 => ?_, h.dn, by have := h.afl; omega⟩, ?_, fun x => ?_⟩
      · obtain ⟨A', C', hAC⟩ := List.append_of_mem hg2
        rw [hAC, List.append_assoc] at hA
        obtain ⟨_, _, h2⟩ := hA.split
        exact h2.2.1 (by simp) he
      · show (a.cut i).next = i
        rw [hcut, Wg.next]
        simp only [List.length_take]
        omega
      · rcases List.mem_append.1 hg2 with hg2 | hg2
        · exact h.first g (hsubG g (List.mem_append_left _ hg2))
        · rw [List.mem_singleton.1 hg2, hcut]; exact haf
      · rcases List.mem_append.1 hg2 with hg2 | hg2
        · rw [cS, if_neg (hQa g hg2), (t2 _).2 (hQT g (List.mem_append_left _ hg2))]
          exact h.file g (hsubG g (List.mem_append_left _ hg2))
        · rw [List.mem_singleton.1 hg2, hsz, hcut, cS, if_pos rfl, hSa]
          exact ⟨_, rfl, by show (fa.d.take _).length = lenW a.first (a.es.take (i - a.first)); rw [List.length_take]; omega⟩
      · rcases List.mem_append.1 hg2 with hg2 | hg2
        · exact h.recs g (hsubG g (List.mem_append_left _ hg2))
        · rw [List.mem_singleton.1 hg2, hcut]
          intro k x hx
          dsimp only at hx ⊢
          rw [List.getElem?_take] at hx
          split at hx
          · exact h.recs a haG k x hx
          · cases hx
      · rw [cS] at hx
        have h9 : ∃ f', getS (delG pre S T) x = some f' := by
          split at hx
          · rename_i he; rw [he]; exact ⟨fa, hSa⟩
          · exact ⟨f, hx⟩
        obtain ⟨f', hf'⟩ := h9
        have hxT : ¬ ∃ q ∈ T, wnm pre q.first = x := fun h10 => by rw [(t2 x).1 h10] at hf'; cases hf'
        rw [(t2 x).2 hxT] at hf'
        obtain ⟨g, hgm, hgn⟩ := honly x k f' hf' hxT hk2
        rcases List.mem_append.1 hgm with h5 | h5
        · exact ⟨g, List.mem_append_left _ h5, hgn⟩
        · rw [List.mem_singleton.1 h5] at hgn
          exact ⟨a.cut i, List.mem_append_right _ (List.mem_singleton.2 rfl), by rw [hcut]; exact hgn⟩
      · rcases List.mem_append.1 hg2 with hg2 | hg2
        · exact h.dirt g (hsubG g (List.mem_append_left _ hg2))
        · rw [List.mem_singleton.1 hg2, hcut]; exact h.dirt a haG
      · rw [List.map_append]
        simp [Wg.fe, hcut]
      · by_cases hx2 : ∃ q ∈ T, wnm pre q.first = x
        · have hne : x ≠ wnm pre a.first := fun e => haT (e ▸ hx2)
          rw [(r2 x).1 ((hmT x).1 hx2), cS, if_neg hne, (t2 x).1 hx2]
        · rw [(r2 x).2 (fun h => hx2 ((hmT x).2 h)), cR, cS]
          split
          · rw [hg, hfa, hSa]
          · rw [hg, (t2 x).2 hx2]
    · have hie : i = m := by omega
      rw [if_neg (by omega : ¬ (i : Int) < (a.next : Nat)), if_neg hlt, rcP_del pre i _ _ hTall2, List.reverse_cons]
      obtain ⟨r1, r2⟩ := getS_delG (pre := pre) T.reverse hR
      dsimp only
      refine ⟨⟨⟨n, hn, by rw [hie]; exact hA⟩, fun g hg2 => h.first g (hsubG g hg2), fun g hg2 => ?_, fun g hg2 => h.recs g (hsubG g hg2), fun x k f hx hk2 => ?_, fun g hg2 => h.dirt g (hsubG g hg2), h.dn, by have := h.afl; omega⟩, ?_, fun x => ?_⟩
      · rw [(t2 _).2 (hQT g hg2)]
        exact h.file g (hsubG g hg2)
      · have hxT : ¬ ∃ q ∈ T, wnm pre q.first = x := fun h10 => by rw [(t2 x).1 h10] at hx; cases hx
        rw [(t2 x).2 hxT] at hx
        exact honly x k f hx hxT hk2
      · rw [List.map_append]; rfl
      · by_cases hx2 : ∃ q ∈ T, wnm pre q.first = x
        · rw [(r2 x).1 ((hmT x).1 hx2), (t2 x).1 hx2]
        · rw [(r2 x).2 (fun h => hx2 ((hmT x).2 h)), (t2 x).2 hx2, hg]
end Go.Proofs.YtjafamiaahabgaaGreatDoor
