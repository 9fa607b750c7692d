/- strip.ReadIndex: the walk. Nothing is claimed here. -/
import Derived.Test.YtlldgodjfpgbcaaEb
namespace Go.Proofs.Ytlldgodjfpgbcaa
open Go.RowKit
set_option linter.unusedVariables false
set_option linter.unusedSimpArgs false
set_option maxRecDepth 100000

def idxPost (b : List UInt8) (r : Value) (w' : World) : Prop := ∃ rv, r = .tuple #[rv, .int .i64 ((idxS b).1 : Int)] ∧ SlN w' 5 rv (idxS b).2.length ((idxS b).2.flatMap plC)
theorem plC_one (l : List Plc) : ∀ u ∈ l.flatMap plC, u.oneCell' = true := by
  intro u hu
  obtain ⟨p, _, hp⟩ := List.mem_flatMap.1 hu
  simp only [plC, List.mem_cons, List.not_mem_nil, or_false] at hp
  rcases hp with rfl | rfl | rfl | rfl | rfl <;> rfl
theorem num1_max {m : Nat} {l r : List UInt8} {v : Nat} (h : num1 m l = some (v, r)) : v ≤ m := (num1_lt h).2
theorem idxS_err {b : List UInt8} (h : decE b ≠ 0) : idxS b = (decE b, []) := if_pos h
theorem idxS_n {b : List UInt8} (h : decE b = 0) (h' : 8 + decN b ≠ b.length) : idxS b = (3, []) := by rw [idxS, if_neg (fun h0 => h0 h), if_pos h']
theorem idxS_num {b : List UInt8} (h : decE b = 0) (h' : num1 65536 (decP b) = none) : idxS b = (3, []) := by
  by_cases hn : 8 + decN b = b.length
  · rw [idxS, if_neg (fun h0 => h0 h), if_neg (fun h0 => h0 hn), h']
  · exact idxS_n h hn
theorem idxS_none {b r : List UInt8} {c : Nat} (h : decE b = 0) (h' : num1 65536 (decP b) = some (c, r)) (h2 : plcs c r [] = none) : idxS b = (3, []) := by
  by_cases hn : 8 + decN b = b.length
  · rw [idxS, if_neg (fun h0 => h0 h), if_neg (fun h0 => h0 hn), h']
    dsimp only
    rw [h2]
  · exact idxS_n h hn
theorem idxS_some {b r r' : List UInt8} {c : Nat} {l : List Plc} (h : decE b = 0) (h' : num1 65536 (decP b) = some (c, r)) (h2 : plcs c r [] = some (l, r')) : idxS b = if r' = [] ∧ 8 + decN b = b.length then (0, l) else (3, []) := by
  by_cases hn : 8 + decN b = b.length
  · rw [idxS, if_neg (fun h0 => h0 h), if_neg (fun h0 => h0 hn), h']
    dsimp only
    rw [h2]
    dsimp only
    simp [hn]
  · rw [idxS_n h hn, if_neg (fun h => hn h.2)]
theorem plcs_len : ∀ (c : Nat) (r : List UInt8) (acc l : List Plc) (r' : List UInt8), plcs c r acc = some (l, r') → l.length = acc.length + c
  | 0, r, acc, l, r', h => by simp only [plcs, Option.some.injEq, Prod.mk.injEq] at h; rw [← h.1]; rfl
  | c + 1, r, acc, l, r', h => by
    unfold plcs at h
    split at h
    · cases h
    · split at h
      · rw [plcs_len c _ _ _ _ h]; simp; omega
      · cases h

set_option maxHeartbeats 8000000 in
theorem readIndex_fn (v : Value) (b : List UInt8) (w0 : World) (hs : Sl w0 v (bv b)) (hlen : b.length ≤ 1000000000) : Fn Try.prog 22 #[v] w0 fun r w' => idxPost b r w' ∧ Below w0.heap.size w0 w' := by
  obtain ⟨a, c, rfl⟩ := hs.shape
  simp only [bv_length] at *
  have hL := Sep.start Try.prog w0
  have hB := Nat.le_refl w0.heap.size
  refine Fn.mk Try.func22 rfl (by kernel_rfl) Try.ntmps22 rfl (by rw [Try.results22]) ?_
  repeat (first | (refine RunH ?_; intro w hL hB; try clear w) | (refine Both.mk ?_ ?_ <;> conv => whnf) | fail)
  refine (decode_fn _ b _ hs).mono fun r w1 ⟨hr, b1⟩ => ?_
  clear hL hB
  have hL := Sep.start Try.prog w1
  have hB := Nat.le_refl w1.heap.size
  unfold decPost at hr
  by_cases he : decE b = 0
  case neg =>
    rw [if_neg he] at hr
    subst hr
    conv => whnf
    repeat (first | (refine RunH ?_; intro w hL hB; try clear w) | (refine Both.mk ?_ ?_ <;> conv => whnf) | fail)
    exact ⟨⟨_, by rw [idxS_err he], by rw [idxS_err he]; exact SlN.nil _ _⟩, b1⟩
  rw [if_pos he] at hr
  obtain ⟨hn8, hpl, pv, hr, hpo⟩ := hr
  subst hr
  have hps := Sl.of_own hpo
  obtain ⟨pa, pc, rfl⟩ := hps.shape
  rw [bv_length] at hps ⊢
  have hps0 := hps
  conv => whnf
  repeat (first | (refine RunH ?_; intro w hL hB; try clear w) | (refine Both.mk ?_ ?_ <;> conv => whnf) | (refine Nw.sep hL hB (fun b7 w hL hB hb7 => ?_); conv => whnf) | fail)
  dsimp only [cellsL, List.flatMap, List.map, List.flatten, List.append] at hL
  refine (number_fn b7 _ (decP b) false 65536 w1 _ _ hps (by decide) hL hB).mono fun r w ⟨hr, rv1, hs1, hL, hB⟩ => ?_
  subst hr
  cases hnum : num1 65536 (decP b) with
  | none =>
    rw [numS_none hnum] at hs1 hL ⊢
    dsimp only at hs1 hL ⊢
    replace hL := hL.nilRow 56 5
    conv => whnf
    repeat (first | (refine RunH ?_; intro w hL hB; try clear w) | (refine Both.mk ?_ ?_ <;> conv => whnf) | fail)
    refine V.loop (α := Unit) (fun z => [(23, .int .u64 0), (24, .int .u64 0), (7, .pointer (some ⟨b7, 0, none⟩)), (8, .slice none 0 0), (5, .int .i64 ((8 + decN b : Nat) : Int)), (0, .slice a b.length c)]) (fun z w' => w' = w) (fun z => 0) () ⟨rfl, rfl, rfl, rfl, rfl, rfl, trivial⟩ rfl ?_
    rintro _ _ rfl
    repeat (first | (refine RunH ?_; intro w hL hB; try clear w) | (refine Both.mk ?_ ?_ <;> conv => whnf) | fail)
    exact ⟨⟨_, by rw [idxS_num he hnum]; rfl, by rw [idxS_num he hnum]; exact SlN.nil _ _⟩, b1.trans (hL.below.mono b1.size)⟩
  | some y =>
  obtain ⟨cnt, r1⟩ := y
  rw [numS_some hnum] at hs1 hL ⊢
  dsimp only at hs1 hL ⊢
  have hcnt := num1_max hnum
  replace hL := hL.nilRow 56 5
  conv => whnf
  repeat (first | (refine RunH ?_; intro w hL hB; try clear w) | (refine Both.mk ?_ ?_ <;> conv => whnf) | fail)
  refine V.loop (α := Nat × Value × List Plc × List UInt8 × Value) (fun z => [(23, .int .u64 (cnt : Int)), (24, .int .u64 (z.1 : Int)), (7, .pointer (some ⟨b7, 0, none⟩)), (8, z.2.1), (5, .int .i64 ((8 + decN b : Nat) : Int)), (0, .slice a b.length c)])
    (fun z w' => z.1 ≤ cnt ∧ z.2.2.1.length = z.1 ∧ plcs cnt r1 [] = plcs (cnt - z.1) z.2.2.2.1 z.2.2.1 ∧ Sl w1 z.2.2.2.2 (bv z.2.2.2.1) ∧ w1.heap.size ≤ w'.heap.size ∧ Sep Try.prog w1.heap.size w1 w' [.row 56 5 z.2.1 z.1 (z.2.2.1.flatMap plC), .blk b7 [z.2.2.2.2, .bool false] 80])
    (fun z => cnt - z.1) (0, .slice none 0 0, [], r1, rv1) ⟨rfl, rfl, rfl, rfl, rfl, rfl, trivial⟩ ⟨by simp, rfl, rfl, hs1, hB, hL⟩ ?_
  clear hL hB hs1
  rintro ⟨k, lv, acc, rest, rv⟩ w ⟨hk, hacc, hplcs, hs1, hB, hL⟩
  dsimp only at *
  obtain ⟨la, lc, rfl⟩ := (hL.rowN (i := 0) rfl).shape
  repeat (first | (refine RunH ?_; intro w hL hB; try clear w) | (refine Both.mk ?_ ?_ <;> conv => whnf) | fail)
  refine Br.dec (fun hlt => ?_) (fun hlt => ?_)
  · have hkc : k < cnt := by omega
    obtain ⟨d, hd⟩ : ∃ d, cnt - k = d + 1 := ⟨cnt - k - 1, by omega⟩
    rw [hd] at hplcs
    repeat (first | (refine RunH ?_; intro w hL hB; try clear w) | (refine Both.mk ?_ ?_ <;> conv => whnf) | fail)
    replace hL := hL.front (i := 1) rfl
    dsimp only [List.eraseIdx] at hL
    refine (place_fn b7 _ rest false w1 _ _ hs1 hL hB).mono fun r w ⟨hsome, hnone, hB⟩ => ?_
    clear hL
    cases hp : plc1 rest with
    | none =>
      obtain ⟨q1, q2, q3, hr, rv', l', hs', hL⟩ := hnone (.inr hp)
      subst hr
      have hpn : plcs cnt r1 [] = none := by rw [hplcs, plcs, hp]
      obtain ⟨sa, sc, rfl⟩ := hs'.shape
      conv => whnf
      repeat (first | (refine RunK ?_; intro w hL hB; try clear w) | (refine V.quiet ttOk (fun x => x = World.drew _) mixed (by kernel_rfl) rfl ?_; replace hL := hL.drew; conv => whnf) | (refine V.tailA ttOk mixed (by decide +kernel) ?_; replace hL := hL.drew; conv => whnf) | (refine Both.mk ?_ ?_ <;> conv => whnf) | (refine Nw.sep hL hB (fun b9 w hL hB hb9 => ?_); conv => whnf) | (intro w9 hw9; subst hw9; conv => whnf) | fail)
      exact ⟨⟨_, by rw [idxS_none he hnum hpn]; rfl, by rw [idxS_none he hnum hpn]; exact SlN.nil _ _⟩, b1.trans (hL.below.mono b1.size)⟩
    | some y =>
      obtain ⟨p, l'⟩ := y
      obtain ⟨hr, rv', hs', hL⟩ := hsome rfl p l' hp
      subst hr
      unfold plC at ⊢
      obtain ⟨sa, sc, rfl⟩ := hs'.shape
      conv => whnf
      by_cases hk0 : k = 0
      · subst hk0
        obtain rfl : acc = [] := List.length_eq_zero_iff.1 hacc
        repeat (first | (refine RunK ?_; intro w hL hB; try clear w) | (refine V.quiet ttOk (fun x => x = World.drew _) mixed (by kernel_rfl) rfl ?_; replace hL := hL.drew; conv => whnf) | (refine V.tailA ttOk mixed (by decide +kernel) ?_; replace hL := hL.drew; conv => whnf) | (refine Both.mk ?_ ?_ <;> conv => whnf) | (refine Nw.sep hL hB (fun b9 w hL hB hb9 => ?_); conv => whnf) | (intro w9 hw9; subst hw9; conv => whnf) | fail)
        refine Rv.buildS (len := 1) (vs := [.agg (plC p).toArray]) ttOk hL tl45 tl56 rfl rfl (by intro u hu; simp only [List.mem_singleton] at hu; subst hu; rfl) (by decide) (by decide) hB fun bo w hL hB => ?_
        conv => whnf
        refine Rv.appendS ttOk hL tl45 tl56 rfl (by decide) 3 rfl (hL.rowN (i := 0) rfl) (by intro u hu; exact plC_one [p] u (by simpa [cellsL] using hu)) (by simp only [maxLen]; omega) (by omega) hB fun vo w hL hB => ?_
        dsimp only [List.set] at hL
        conv => whnf
        repeat (first | (refine RunH ?_; intro w hL hB; try clear w) | (refine Both.mk ?_ ?_ <;> conv => whnf) | fail)
        replace hL := hL.tl.tl.front (i := 1) rfl
        dsimp only [List.eraseIdx] at hL
        refine ⟨(0 + 1, vo, [] ++ [p], l', _), ⟨rfl, rfl, rfl, rfl, rfl, rfl, trivial⟩, ⟨by dsimp only; omega, rfl, ?_, hs', hB, ?_⟩, (by first | omega | (dsimp only; omega))⟩
        · dsimp only
          rw [hplcs, show cnt - (0 + 1) = d by omega]
          rw [plcs, hp]; rfl
        · have e : List.flatMap plC [] ++ List.flatMap cellsL [Value.agg (plC p).toArray] = List.flatMap plC ([] ++ [p]) := by simp [cellsL]
          rw [e] at hL
          exact hL
      · obtain ⟨bb, o, rfl, _⟩ := (show SlN _ 5 (.slice la k lc) k _ from hL.rowN (i := 1) rfl).addr (by omega)
        obtain ⟨A, q, rfl⟩ : ∃ A q, acc = A ++ [q] := ⟨acc.dropLast, acc.getLast (by rintro rfl; exact hk0 hacc.symm), (List.dropLast_concat_getLast _).symm⟩
        have hAl : A.length + 1 = k := by simpa using hacc
        have hq : (A ++ [q])[A.length]? = some q := by simp
        have hri : rises (A ++ [q]) p = decide (q.key < p.key) := by simp [rises]
        rw [plcs, hp] at hplcs
        dsimp only at hplcs
        rw [hri] at hplcs
        repeat (first | (refine RunK ?_; intro w hL hB; try clear w) | (refine V.quiet ttOk (fun x => x = World.drew _) mixed (by kernel_rfl) rfl ?_; replace hL := hL.drew; conv => whnf) | (refine V.tailA ttOk mixed (by decide +kernel) ?_; replace hL := hL.drew; conv => whnf) | (refine Both.mk ?_ ?_ <;> conv => whnf) | (refine Nw.sep hL hB (fun b9 w hL hB hb9 => ?_); conv => whnf) | (intro w9 hw9; subst hw9; conv => whnf) | fail)
        intro o1 ho1
        conv => whnf
        repeat (first | (refine RunH ?_; intro w hL hB; try clear w) | (refine Both.mk ?_ ?_ <;> conv => whnf) | fail)
        have hrow : Row w.drew bb o _ := (show SlN w.drew 5 (.slice (some ⟨bb, o, none⟩) k lc) k ((A ++ [q]).flatMap plC) from hL.rowN (i := 2) rfl).rowOf
        refine Lq.of_row (Ld.rowF ttOk plC_len (ss := A ++ [q]) (k := A.length) (s := q) 0 hrow rfl rfl hq rfl (by omega) rfl) ?_
        conv => whnf
        repeat (first | (refine RunH ?_; intro w hL hB; try clear w) | (refine Both.mk ?_ ?_ <;> conv => whnf) | (intro w9 hw9; subst hw9; conv => whnf) | fail)
        by_cases hqp : q.key < p.key
        · rw [if_pos (decide_eq_true hqp)] at hplcs
          repeat (first | (refine RunH ?_; intro w hL hB; try clear w) | (refine Both.mk ?_ ?_ <;> conv => whnf) | (intro w9 hw9; subst hw9; conv => whnf) | fail)
          refine Rv.buildS (len := 1) (vs := [.agg (plC p).toArray]) ttOk hL tl45 tl56 rfl rfl (by intro u hu; simp only [List.mem_singleton] at hu; subst hu; rfl) (by decide) (by decide) hB fun bo w hL hB => ?_
          conv => whnf
          refine Rv.appendS ttOk hL tl45 tl56 rfl (by decide) 3 rfl (hL.rowN (i := 0) rfl) (by intro u hu; exact plC_one [p] u (by simpa [cellsL] using hu)) (by simp only [maxLen]; omega) (by omega) hB fun vo w hL hB => ?_
          dsimp only [List.set] at hL
          conv => whnf
          repeat (first | (refine RunH ?_; intro w hL hB; try clear w) | (refine Both.mk ?_ ?_ <;> conv => whnf) | fail)
          replace hL := hL.tl.tl.front (i := 1) rfl
          dsimp only [List.eraseIdx] at hL
          refine ⟨(k + 1, vo, (A ++ [q]) ++ [p], l', _), ⟨rfl, vint (by push_cast; omega), rfl, rfl, rfl, rfl, trivial⟩, ⟨by dsimp only; omega, by simpa using hacc, ?_, hs', hB, ?_⟩, (by first | omega | (dsimp only; omega))⟩
          · dsimp only
            rw [hplcs, show cnt - (k + 1) = d by omega]
          · have e : List.flatMap plC (A ++ [q]) ++ List.flatMap cellsL [Value.agg (plC p).toArray] = List.flatMap plC ((A ++ [q]) ++ [p]) := by simp [cellsL]
            rw [e] at hL
            exact hL
        · have hpn : plcs cnt r1 [] = none := by rw [hplcs, if_neg (by simpa using hqp)]
          repeat (first | (refine RunH ?_; intro w hL hB; try clear w) | (refine Both.mk ?_ ?_ <;> conv => whnf) | (intro w9 hw9; subst hw9; conv => whnf) | fail)
          exact ⟨⟨_, by rw [idxS_none he hnum hpn]; rfl, by rw [idxS_none he hnum hpn]; exact SlN.nil _ _⟩, b1.trans (hL.below.mono b1.size)⟩
  · obtain rfl : k = cnt := by omega
    have hpn : plcs k r1 [] = some (acc, rest) := by rw [hplcs, Nat.sub_self]; rfl
    have hix := idxS_some he hnum hpn
    have hl0 : rest = [] ↔ rest.length = 0 := List.length_eq_zero_iff.symm
    obtain ⟨sa, sc, rfl⟩ := hs1.shape
    simp only [bv_length] at *
    by_cases hr0 : rest.length = 0
    · by_cases hn : 8 + decN b = b.length
      · rw [if_pos ⟨hl0.2 hr0, hn⟩] at hix
        repeat (first | (refine RunH ?_; intro w hL hB; try clear w) | (refine Both.mk ?_ ?_ <;> conv => whnf) | fail)
        exact ⟨⟨_, by rw [hix]; rfl, by rw [hix, hacc]; exact hL.rowN (i := 0) rfl⟩, b1.trans (hL.below.mono b1.size)⟩
      · rw [if_neg (fun h => hn h.2)] at hix
        repeat (first | (refine RunH ?_; intro w hL hB; try clear w) | (refine Both.mk ?_ ?_ <;> conv => whnf) | fail)
        exact ⟨⟨_, by rw [hix]; rfl, by rw [hix]; exact SlN.nil _ _⟩, b1.trans (hL.below.mono b1.size)⟩
    · rw [if_neg (fun h => hr0 (hl0.1 h.1))] at hix
      repeat (first | (refine RunH ?_; intro w hL hB; try clear w) | (refine Both.mk ?_ ?_ <;> conv => whnf) | fail)
      exact ⟨⟨_, by rw [hix]; rfl, by rw [hix]; exact SlN.nil _ _⟩, b1.trans (hL.below.mono b1.size)⟩
end Go.Proofs.Ytlldgodjfpgbcaa
