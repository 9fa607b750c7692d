/- wal, plain: one log alone on its disk: Sync, Drop, Cut. Nothing is claimed here. -/
import Derived.Test.YtjafamiaahabgaaGreatDoorAw
namespace Go.Proofs.YtjafamiaahabgaaGreatDoor
open Go.RowKit Go.Lib
set_option linter.unusedVariables false
set_option linter.unusedSimpArgs false
set_option maxRecDepth 100000

def synW (g : Wg × Nat) : Wg × Nat := (g.1.clean, g.1.size)
theorem gsW_app (A B : List (Wg × Nat)) : gsW (A ++ B) = gsW A ++ gsW B := List.map_append
theorem fsW_app (pre : ByteArray) (A B : List (Wg × Nat)) : fsW pre (A ++ B) = fsW pre A ++ fsW pre B := List.map_append
theorem get_mid {pre : ByteArray} {A : List (Wg × Nat)} {g : Wg × Nat} {C : List Fl} (hn : g.1.first ≤ 99999999) (hA : ∀ q ∈ A, q.1.first < g.1.first) : getS (fsW pre A ++ fileW pre g :: C) (wnm pre g.1.first) = some (fileW pre g) :=
  getS_at (A := fsW pre A) (nm_apart hn hA) rfl
theorem put_mid {pre : ByteArray} {A : List (Wg × Nat)} {g : Wg × Nat} {C : List Fl} (hn : g.1.first ≤ 99999999) (hA : ∀ q ∈ A, q.1.first < g.1.first) (d : List UInt8) (la : Nat) : putS (fsW pre A ++ fileW pre g :: C) ⟨wnm pre g.1.first, d, la⟩ = fsW pre A ++ ⟨wnm pre g.1.first, d, la⟩ :: C :=
  putS_at (A := fsW pre A) (nm_apart (n := g.1.first) hn hA) rfl
theorem sync_fold (pre : ByteArray) : ∀ (B A : List (Wg × Nat)), (A ++ B).Pairwise (fun a b => a.1.first < b.1.first) → (∀ g ∈ B, g.1.first ≤ 99999999 ∧ (g.1.dirty = true ∨ g.2 = g.1.size)) →
    (gsW B).foldl (syncStep pre) (fsW pre (A ++ B)) = fsW pre (A ++ B.map synW)
  | [], A, _, _ => by simp [gsW]
  | g :: B, A, hr, hb => by
    have hg := hb g (List.mem_cons_self ..)
    have hA : ∀ q ∈ A, q.1.first < g.1.first := fun q hq => (List.pairwise_append.1 hr).2.2 q hq g (List.mem_cons_self ..)
    have hst : syncStep pre (fsW pre (A ++ g :: B)) g.1 = fsW pre ((A ++ [synW g]) ++ B) := by
      have e1 : fsW pre (A ++ g :: B) = fsW pre A ++ fileW pre g :: fsW pre B := by rw [fsW_app]; rfl
      have e2 : fsW pre ((A ++ [synW g]) ++ B) = fsW pre A ++ fileW pre (synW g) :: fsW pre B := by rw [fsW_app, fsW_app]; simp [fsW]
      have e3 : fileW pre (synW g) = ⟨wnm pre g.1.first, recsW g.1.first g.1.es, g.1.size⟩ := rfl
      rw [syncStep, e1, e2, e3]
      split
      · rw [syncS, get_mid hg.1 hA]
        dsimp only
        rw [put_mid hg.1 hA]
        rw [show (fileW pre g).d.length = g.1.size from recsW_len _ _]
        rfl
      · rename_i hd
        rcases hg.2 with h | h
        · exact absurd h hd
        · rw [← h]; rfl
    rw [gsW, List.map_cons, List.foldl_cons, hst]
    have ih := sync_fold pre B (A ++ [synW g]) (by
      have e : ((A ++ [synW g]) ++ B).map (fun q => q.1.first) = (A ++ g :: B).map (fun q => q.1.first) := by simp [synW, Wg.clean]
      have h1 : ((A ++ g :: B).map fun q => q.1.first).Pairwise (· < ·) := List.pairwise_map.2 hr
      rw [← e] at h1
      exact List.pairwise_map.1 h1) (fun q hq => hb q (List.mem_cons_of_mem _ hq))
    rw [gsW] at ih
    rw [ih]
    simp [synW]
theorem Lone.rise {n k af : Nat} {H : List (Wg × Nat)} {xs : List (List UInt8)} (h : Lone n k H af xs) : H.Pairwise fun a b => a.1.first < b.1.first := by
  have := h.ch.rises
  rw [gsW, List.pairwise_map] at this
  exact this
theorem gsW_syn (H : List (Wg × Nat)) : gsW (H.map synW) = (gsW H).map Wg.clean := by simp [gsW, synW, Function.comp_def]
theorem ChG.clean : ∀ {G : List Wg} {n af : Nat}, ChG n G af → ChG n (G.map Wg.clean) af
  | [], _, _, h => h
  | g :: gs, n, af, ⟨h1, h2, h3⟩ => ⟨h1, fun hc => h2 (by intro h; exact hc (by rw [h]; rfl)), ChG.clean h3⟩
theorem flatG_clean (G : List Wg) : flatG (G.map Wg.clean) = flatG G := by rw [flatG, flatG, List.flatMap_map]; rfl
/-- behind a Sync all lasts -/
theorem Lone.sync {pre : ByteArray} {n k af : Nat} {H : List (Wg × Nat)} {xs : List (List UInt8)} (k' : Nat) (h : Lone n k H af xs) :
    Lone n k' (H.map synW) af xs ∧ syncG pre (fsW pre H) (gsW H) = fsW pre (H.map synW) ∧ (gsW H).map Wg.clean = gsW (H.map synW) ∧ ∀ g ∈ H.map synW, g.2 = g.1.size := by
  have hs := sync_fold pre H [] h.rise (fun g hg => ⟨(h.hfs g.1 (List.mem_map.2 ⟨g, hg, rfl⟩)).1, (h.la g hg).2.1⟩)
  have hall : ∀ g ∈ H.map synW, g.2 = g.1.size := fun g hg => by
    obtain ⟨q, _, rfl⟩ := List.mem_map.1 hg; rfl
  refine ⟨⟨?_, ?_, ?_, ?_, ?_, h.one, h.lim, h.wt⟩, hs, (gsW_syn H).symm, hall⟩
  · rw [gsW_syn]; exact h.ch.clean
  · intro g hg
    obtain ⟨q, hq, rfl⟩ := List.mem_map.1 hg
    exact h.ne q hq
  · rw [gsW_syn, flatG_clean]; exact h.flat
  · intro g hg
    rw [← List.map_dropLast] at hg
    obtain ⟨q, hq, rfl⟩ := List.mem_map.1 hg
    exact h.big q hq
  · intro g hg
    have he := hall g hg
    exact ⟨by omega, .inr he, by rw [he]; exact lenW_take _ _ _⟩
/-- a beginning, an end of a log -/
theorem Lone.tail {n k af : Nat} {A B : List (Wg × Nat)} {xs : List (List UInt8)} (h : Lone n k (A ++ B) af xs) : ∃ m, n ≤ m ∧ Lone m k B af (xs.drop (m - n)) ∧ (∀ g ∈ A, g.1.next ≤ m) ∧ (A = [] → m = n) := by
  have hc := h.ch
  rw [gsW_app] at hc
  obtain ⟨m, hA, hB⟩ := hc.split
  have hm := hA.ge
  have h1 := h.one
  have hfl := h.flat
  rw [gsW_app, flatG_app] at hfl
  have hlen := hA.af
  have hdrop : xs.drop (m - n) = flatG (gsW B) := by rw [← hfl, List.drop_left' (by omega)]
  have hwt : wtW xs = wtW (flatG (gsW A)) + wtW (flatG (gsW B)) := by rw [← hfl, wtW_app]
  refine ⟨m, hm, ⟨hB, fun g hg => h.ne g (List.mem_append_right _ hg), hdrop.symm, fun g hg => ?_, fun g hg => h.la g (List.mem_append_right _ hg), by omega, h.lim, by rw [hdrop]; have := h.wt; omega⟩, fun g hg => (hA.mem g.1 (List.mem_map.2 ⟨g, hg, rfl⟩)).2, fun he => ?_⟩
  · refine h.big g ?_
    cases B with
    | nil => simp at hg
    | cons b B =>
      rw [List.dropLast_append_of_ne_nil (by simp)]
      exact List.mem_append_right _ hg
  · subst he
    exact (show n = m from hA).symm
/-- a Drop -/
theorem drop_fold (pre : ByteArray) (i : Int) (af : Nat) : ∀ (H : List (Wg × Nat)), ∃ A B, H = A ++ B ∧ dropR pre i af (gsW H) (fsW pre H) = (gsW B, fsW pre B) ∧ (∀ g ∈ A, (g.1.next : Int) ≤ i) ∧ (A ≠ [] → B = [] → i = (af : Int))
  | [] => ⟨[], [], rfl, rfl, by simp, by simp⟩
  | g :: H => by
    have hd : dropR pre i af (gsW (g :: H)) (fsW pre (g :: H)) = if i < (g.1.next : Nat) ∨ (gsW H = [] ∧ i ≠ (af : Int)) then (gsW (g :: H), fsW pre (g :: H)) else dropR pre i af (gsW H) (delS (fsW pre (g :: H)) (wnm pre g.1.first)) := rfl
    have he : delS (fsW pre (g :: H)) (wnm pre g.1.first) = fsW pre H := delS_at (A := []) (by simp) rfl
    rw [hd, he]
    by_cases hc : i < (g.1.next : Nat) ∨ (gsW H = [] ∧ i ≠ (af : Int))
    · rw [if_pos hc]
      exact ⟨[], g :: H, rfl, rfl, by simp, by simp⟩
    · rw [if_neg hc]
      obtain ⟨A, B, h1, h2, h3, h4⟩ := drop_fold pre i af H
      refine ⟨g :: A, B, by rw [h1]; rfl, h2, fun q hq => ?_, fun _ hB => ?_⟩
      · rcases List.mem_cons.1 hq with rfl | hq
        · omega
        · exact h3 q hq
      · by_cases hA : A = []
        · subst hA; subst hB
          have : gsW H = [] := by rw [h1]; rfl
          refine Decidable.byContradiction fun hne => hc (.inr ⟨this, hne⟩)
        · exact h4 hA hB
theorem low_ch {G : List Wg} {n af : Nat} (h : ChG n G af) : lowW G af = n := by
  cases G with
  | nil => exact (show n = af from h).symm
  | cons g gs => exact h.1
theorem Lone.drop {pre : ByteArray} {n k af : Nat} {H : List (Wg × Nat)} {xs : List (List UInt8)} {i : Int} (h : Lone n k H af xs) (hi : (n : Int) ≤ i ∧ i ≤ (af : Int)) :
    ∃ H' m, n ≤ m ∧ (m : Int) ≤ i ∧ Lone m k H' af (xs.drop (m - n)) ∧ mayW (gsW H) af i = true ∧ dropR pre i af (gsW H) (fsW pre H) = (gsW H', fsW pre H') := by
  obtain ⟨A, B, h1, h2, h3, h4⟩ := drop_fold pre i af H
  subst h1
  obtain ⟨m, hm, hB, hA, hn⟩ := h.tail
  refine ⟨B, m, hm, ?_, hB, ?_, h2⟩
  · rcases List.eq_nil_or_concat A with rfl | ⟨A, g, rfl⟩
    · rw [hn rfl]; exact hi.1
    · have hg := h3 g (by simp)
      rw [List.concat_eq_append] at *
      by_cases hb : B = []
      · have := hB.ch
        subst hb
        have : m = af := this
        rw [this]
        have := h4 (by simp) rfl
        omega
      · have hc := h.ch
        rw [gsW_app, gsW_app] at hc
        obtain ⟨m1, hc1, hc2⟩ := hc.split
        have e1 := hc1.last g.1 (by simp [gsW])
        have e2 : m1 = m := by
          cases B with
          | nil => exact absurd rfl hb
          | cons b B => exact hc2.1.symm.trans hB.ch.1
        omega
  · rw [mayW, low_ch h.ch]
    simpa using hi
theorem dropWhile_spec {α : Type} (p : α → Bool) : ∀ l : List α, ∃ t, l = t ++ l.dropWhile p ∧ (∀ x ∈ t, p x = true) ∧ ∀ y r, l.dropWhile p = y :: r → p y = false
  | [] => ⟨[], rfl, by simp, by simp⟩
  | x :: l => by
    rw [List.dropWhile_cons]
    by_cases hx : p x = true
    · rw [if_pos hx]
      obtain ⟨t, h1, h2, h3⟩ := dropWhile_spec p l
      refine ⟨x :: t, by rw [List.cons_append, ← h1], fun y hy => ?_, h3⟩
      rcases List.mem_cons.1 hy with rfl | hy
      · exact hx
      · exact h2 y hy
    · rw [if_neg hx]
      refine ⟨[], rfl, by simp, fun y r h => ?_⟩
      injection h with h1 h2
      rw [← h1]; simpa using hx
/-- a Cut, from behind -/
theorem cut_fold (pre : ByteArray) (i : Int) : ∀ (R : List (Wg × Nat)), (R.reverse).Pairwise (fun a b => a.1.first < b.1.first) → (∀ g ∈ R, g.1.first ≤ 99999999) →
    cutRev pre i (gsW R) (fsW pre R.reverse) = (gsW (R.dropWhile fun g => decide (i ≤ (g.1.first : Int))), fsW pre (R.dropWhile fun g => decide (i ≤ (g.1.first : Int))).reverse)
  | [], _, _ => rfl
  | g :: R, hr, hf => by
    rw [List.reverse_cons] at hr
    have hA : ∀ q ∈ R.reverse, q.1.first < g.1.first := fun q hq => (List.pairwise_append.1 hr).2.2 q hq g (List.mem_singleton.2 rfl)
    have hd : cutRev pre i (gsW (g :: R)) (fsW pre (g :: R).reverse) = if i ≤ (g.1.first : Int) then cutRev pre i (gsW R) (delS (fsW pre (g :: R).reverse) (wnm pre g.1.first)) else (gsW (g :: R), fsW pre (g :: R).reverse) := rfl
    have he : delS (fsW pre (g :: R).reverse) (wnm pre g.1.first) = fsW pre R.reverse := by
      rw [List.reverse_cons, fsW_app]
      have := delS_at (A := fsW pre R.reverse) (C := []) (f := fileW pre g) (nm := wnm pre g.1.first) (nm_apart (hf g (List.mem_cons_self ..)) hA) rfl
      rw [List.append_nil] at this
      exact this
    rw [hd, he, List.dropWhile_cons]
    by_cases hc : i ≤ (g.1.first : Int)
    · rw [if_pos hc, if_pos (decide_eq_true hc)]
      exact cut_fold pre i R (List.pairwise_append.1 hr).1 (fun q hq => hf q (List.mem_cons_of_mem _ hq))
    · rw [if_neg hc, if_neg (by simpa using hc)]
theorem Lone.cut {pre : ByteArray} {n af : Nat} {H : List (Wg × Nat)} {xs : List (List UInt8)} {i : Nat} (h : Lone n 0 H af xs) (hi : n ≤ i ∧ i ≤ af) :
    ∃ H', Lone n 0 H' i (xs.take (i - n)) ∧ mayW (gsW H) af (i : Int) = true ∧ cutG pre (i : Int) (gsW H) (fsW pre H) = (gsW H', fsW pre H') := by
  have hmay : mayW (gsW H) af (i : Int) = true := by
    rw [mayW, low_ch h.ch]; simp; omega
  obtain ⟨R, rfl⟩ : ∃ R, H = R.reverse := ⟨H.reverse, by simp⟩
  have hcf := cut_fold pre (i : Int) R h.rise (fun g hg => (h.hfs g.1 (List.mem_map.2 ⟨g, by simpa using hg, rfl⟩)).1)
  obtain ⟨T, h1, h2, h3⟩ := dropWhile_spec (fun g : Wg × Nat => decide ((i : Int) ≤ (g.1.first : Int))) R
  generalize hR' : R.dropWhile (fun g : Wg × Nat => decide ((i : Int) ≤ (g.1.first : Int))) = R' at *
  have hrev : (gsW R.reverse).reverse = gsW R := by simp [gsW]
  rw [cutG, hrev, hcf]
  have hone := h.one
  have hlim := h.lim
  have hwt : ∀ j, wtW (xs.take j) ≤ 20010 := fun j => by
    have := wtW_app (xs.take j) (xs.drop j)
    rw [List.take_append_drop] at this
    have := h.wt
    omega
  have hsp : R.reverse = R'.reverse ++ T.reverse := by rw [h1, List.reverse_append]
  have hc := h.ch
  rw [hsp, gsW_app] at hc
  obtain ⟨m, hA, hB⟩ := hc.split
  have hfl := h.flat
  rw [hsp, gsW_app, flatG_app] at hfl
  have hml := hA.af
  have him : i ≤ m := by
    cases hT : T.reverse with
    | nil =>
      rw [hT] at hB
      have : m = af := hB
      omega
    | cons t T' =>
      rw [hT] at hB
      have e1 : t.1.first = m := hB.1
      have e2 := h2 t (by rw [← List.mem_reverse, hT]; exact List.mem_cons_self ..)
      simp only [decide_eq_true_eq] at e2
      omega
  cases R' with
  | nil =>
    have hm : n = m := hA
    obtain rfl : i = n := by omega
    refine ⟨[], ⟨rfl, by simp, by simp [gsW, flatG], by simp, by simp, hone, by omega, hwt _⟩, hmay, rfl⟩
  | cons g R' =>
    have hgi := h3 g R' rfl
    simp only [decide_eq_false_iff_not] at hgi
    have hgi : g.1.first < i := by omega
    have hrc : (g :: R').reverse = R'.reverse ++ [g] := List.reverse_cons
    have hgm : g ∈ R.reverse := by rw [hsp, hrc]; simp
    have hnx : g.1.next = m := hA.last g.1 (by rw [hrc, gsW_app]; simp [gsW])
    have hn2 : g.1.first + g.1.es.length = m := hnx
    have hlt : ∀ q ∈ R'.reverse, q.1.first < g.1.first := fun q hq => by
      have := h.rise
      rw [hsp, hrc] at this
      exact (List.pairwise_append.1 (List.pairwise_append.1 this).1).2.2 q hq g (List.mem_singleton.2 rfl)
    have hgf : g.1.first ≤ 99999999 := (h.hfs g.1 (List.mem_map.2 ⟨g, hgm, rfl⟩)).1
    have hsub : ∀ q ∈ R'.reverse, q ∈ R.reverse := fun q hq => by rw [hsp, hrc]; simp only [List.mem_append]; exact .inl (.inl hq)
    have hdl : ∀ q ∈ R'.reverse, 1024 ≤ q.1.size := fun q hq => h.big q (by
      rw [hsp, hrc]
      by_cases hT : T = []
      · subst hT
        rw [List.reverse_nil, List.append_nil, List.dropLast_concat]; exact hq
      · rw [List.dropLast_append_of_ne_nil (by simpa using hT)]
        simp only [List.mem_append]; exact .inl (.inl hq))
    rw [hrc, gsW_app] at hA
    obtain ⟨m1, hA1, hA2⟩ := hA.split
    have hm1 : g.1.first = m1 := hA2.1
    have hl1 := hA1.af
    have hcf2 : cutFin pre (i : Int) (gsW (g :: R'), fsW pre (g :: R').reverse) = if (i : Int) < (g.1.next : Nat) then ((g.1.cut i :: gsW R').reverse, cutS (fsW pre (g :: R').reverse) (wnm pre g.1.first) ((g.1.cut i).size : Int)) else ((gsW (g :: R')).reverse, fsW pre (g :: R').reverse) := rfl
    rw [hcf2]
    by_cases hlast : (i : Int) < (g.1.next : Nat)
    · rw [if_pos hlast]
      have hj : ((i : Int) - (g.1.first : Nat)).toNat = i - g.1.first := by omega
      have hcut : g.1.cut i = ⟨g.1.first, g.1.es.take (i - g.1.first), g.1.dirty⟩ := by rw [Wg.cut, hj]
      have hcs : (g.1.cut i).size = lenW g.1.first (g.1.es.take (i - g.1.first)) := by rw [hcut]; rfl
      have hle : (g.1.cut i).size ≤ g.1.size := by rw [hcs]; exact lenW_take _ _ _
      have hgl := h.la g hgm
      have hS : fsW pre (g :: R').reverse = fsW pre R'.reverse ++ [fileW pre g] := by rw [hrc, fsW_app]; rfl
      refine ⟨R'.reverse ++ [(g.1.cut i, min (g.1.cut i).size g.2)], ⟨?_, ?_, ?_, ?_, ?_, hone, by omega, hwt _⟩, hmay, ?_⟩
      · rw [gsW_app]
        refine ChG.app hA1 (fun q hq => ?_) ⟨by rw [hcut]; exact hm1, fun hc => absurd rfl hc, ?_⟩
        · obtain ⟨p, hp, rfl⟩ := List.mem_map.1 hq
          exact h.ne p (hsub p hp)
        · show (g.1.cut i).next = i
          rw [hcut, Wg.next]
          simp only [List.length_take]
          omega
      · intro q hq
        rcases List.mem_append.1 hq with hq | hq
        · exact h.ne q (hsub q hq)
        · rw [List.mem_singleton.1 hq, hcut]
          simp only
          intro h0
          have := congrArg List.length h0
          rw [List.length_take, List.length_nil] at this
          omega
      · rw [gsW_app, flatG_app, ← hfl, hrc, gsW_app, flatG_app, List.append_assoc]
        rw [List.take_append, List.take_of_length_le (show (flatG (gsW R'.reverse)).length ≤ i - n by omega)]
        congr 1
        have e1 : flatG (gsW [g]) = g.1.es := by simp [flatG, gsW]
        have e2 : flatG (gsW [(g.1.cut i, min (g.1.cut i).size g.2)]) = g.1.es.take (i - g.1.first) := by rw [hcut]; simp [flatG, gsW]
        rw [e1, e2, List.take_append_of_le_length (by omega)]
        congr 1; omega
      · rw [List.dropLast_concat]; exact hdl
      · intro q hq
        rcases List.mem_append.1 hq with hq | hq
        · exact h.la q (hsub q hq)
        · rw [List.mem_singleton.1 hq]
          refine ⟨Nat.min_le_left _ _, ?_, ?_⟩
          · rcases hgl.2.1 with hd | hd
            · exact .inl (by rw [hcut]; exact hd)
            · exact .inr (by dsimp only; omega)
          · have := (h.sz g.1 (List.mem_map.2 ⟨g, hgm, rfl⟩)).1
            rw [hcut]
            dsimp only
            rw [show 0 + 1 - g.1.first = 0 by omega, List.take_zero, lenW]
            exact Nat.zero_le _
      · have hlf : (fileW pre g).d.length = g.1.size := recsW_len _ _
        have hcu : cutS (fsW pre (g :: R').reverse) (wnm pre g.1.first) ((g.1.cut i).size : Int) = fsW pre (R'.reverse ++ [(g.1.cut i, min (g.1.cut i).size g.2)]) := by
          rw [hS, cutS, get_mid hgf hlt]
          dsimp only
          rw [if_neg (by rw [hlf]; omega), Int.toNat_natCast, put_mid hgf hlt, fsW_app]
          congr 1
          have e1 : (fileW pre g).d.take (g.1.cut i).size = recsW g.1.first (g.1.es.take (i - g.1.first)) := by rw [hcs]; exact recsW_take _ _ _
          rw [e1]
          have e2 : fsW pre [(g.1.cut i, min (g.1.cut i).size g.2)] = [⟨wnm pre (g.1.cut i).first, recsW (g.1.cut i).first (g.1.cut i).es, min (g.1.cut i).size g.2⟩] := rfl
          rw [e2, hcut]
          rfl
        rw [hcu]
        refine Prod.ext ?_ rfl
        show (g.1.cut i :: gsW R').reverse = _
        rw [gsW_app, List.reverse_cons]
        simp [gsW]
    · rw [if_neg hlast]
      obtain rfl : i = m := by omega
      refine ⟨(g :: R').reverse, ⟨?_, ?_, ?_, ?_, ?_, hone, by omega, hwt _⟩, hmay, ?_⟩
      · rw [hrc, gsW_app]
        exact ChG.app hA1 (fun q hq => by
          obtain ⟨p, hp, rfl⟩ := List.mem_map.1 hq
          exact h.ne p (hsub p hp)) hA2
      · intro q hq
        exact h.ne q (by rw [hsp]; exact List.mem_append_left _ hq)
      · rw [← hfl, List.take_left' (by omega)]
      · rw [hrc, List.dropLast_concat]; exact hdl
      · intro q hq
        exact h.la q (by rw [hsp]; exact List.mem_append_left _ hq)
      · simp [gsW]
end Go.Proofs.YtjafamiaahabgaaGreatDoor
