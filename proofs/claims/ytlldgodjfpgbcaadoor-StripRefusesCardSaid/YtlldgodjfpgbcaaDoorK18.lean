/- StripCuts. strip.good, row. Nothing is claimed here. -/
import Derived.Test.YtlldgodjfpgbcaaDoorK17
import Derived.Test.YtlldgodjfpgbcaaDoorK15
namespace Go.Proofs.YtlldgodjfpgbcaaDoor
open Go.RowKit
set_option linter.unusedVariables false
set_option linter.unusedSimpArgs false
set_option maxRecDepth 100000

theorem SS.same {w : World} {v : Value} (L : List (List UInt8)) (h : SS w v L) : ∃ a c, v = .slice a L.length c := by
  obtain ⟨us, h1, h2⟩ := h.of
  obtain ⟨a, c, rfl⟩ := h1.shape
  exact ⟨a, c, by rw [h2.len]⟩

end Go.Proofs.YtlldgodjfpgbcaaDoor
namespace Go.Proofs.YtlldgodjfpgbcaaDoor
open Go.RowKit
set_option linter.unusedVariables false
set_option linter.unusedSimpArgs false
set_option maxRecDepth 100000

/-- shards, their rows, their bytes -/
structure S3 (w : World) (v : Value) (ls : List (List (List UInt8))) : Prop where
  of : ∃ us, Sl w v us ∧ us.length = ls.length ∧ ∀ (i : Nat) (u : Value) (l : List (List UInt8)), us[i]? = some u → ls[i]? = some l → SS w u l
theorem S3.below {w w' : World} {v : Value} {ls : List (List (List UInt8))} (h : S3 w v ls) (hb : Below w.heap.size w w') : S3 w' v ls := by
  obtain ⟨us, h1, h2, h3⟩ := h.of
  exact ⟨us, h1.below hb, h2, fun i u l a b => (h3 i u l a b).below hb⟩
def codeOk (k m : Int) : Prop := ¬ (k < 1 ∨ m < 0 ∨ 14 < k ∨ 14 - k < m)
instance (k m : Int) : Decidable (codeOk k m) := by unfold codeOk; infer_instance
def fitL (h : Int) (l : List (List UInt8)) : Prop := (l.length = 0 ∨ (l.length : Int) = h) ∧ ∀ r ∈ l, r.length = 0 ∨ r.length = 16
instance (h : Int) (l : List (List UInt8)) : Decidable (fitL h l) := by unfold fitL; infer_instance
def goodP (ls : List (List (List UInt8))) (k m size : Int) : Prop := codeOk k m ∧ 1 ≤ size ∧ size ≤ 4194304 ∧ (ls.length : Int) = k + m ∧ ∀ l ∈ ls, fitL (hgt size.toNat k.toNat : Nat) l
instance (ls : List (List (List UInt8))) (k m size : Int) : Decidable (goodP ls k m size) := by unfold goodP; infer_instance

set_option maxHeartbeats 8000000 in
theorem good_fn (v : Value) (ls : List (List (List UInt8))) (k m size : Int) (hk : -1000 < k ∧ k < 1000) (hm : -1000 < m ∧ m < 1000) (hsz : size ≤ 1000000) (w0 : World) (hs : S3 w0 v ls) :
    Fn Tryd.prog 17 #[v, .int .i64 k, .int .i64 m, .int .i64 size] w0 fun r w' => r = .bool (decide (goodP ls k m size)) ∧ Below w0.heap.size w0 w' := by
  obtain ⟨us, hus, hul, hin⟩ := hs.of
  have hle := hus.le
  obtain ⟨a, cp, rfl⟩ := hus.shape
  rw [hul] at hus hle ⊢
  refine Fn.mk Tryd.func17 rfl (by kernel_rfl) Tryd.ntmps17 rfl (by rw [Tryd.results17]) ?_
  refine RunR ?_
  by_cases hc : codeOk k m
  case neg =>
    have hc' : k < 1 ∨ m < 0 ∨ 14 < k ∨ 14 - k < m := Classical.byContradiction hc
    refine (code_bad k m hc' hk hm w0).mono fun r w1 ⟨hr, hw⟩ => ?_
    subst hr; subst hw
    conv => whnf
    refine RunR ?_
    exact ⟨by rw [decide_eq_false (fun h => hc h.1)], Below.refl _ _⟩
  have hc' : 1 ≤ k ∧ 0 ≤ m ∧ k ≤ 14 ∧ m ≤ 14 - k := by unfold codeOk at hc; omega
  obtain ⟨hk1, hm0, hk14, hm14⟩ := hc'
  obtain ⟨k, rfl⟩ := Int.eq_ofNat_of_zero_le (show 0 ≤ k by omega)
  obtain ⟨m, rfl⟩ := Int.eq_ofNat_of_zero_le hm0
  refine (code_fn k m (by omega) (by omega) w0).mono fun r w1 ⟨u, hr, _, hW1⟩ => ?_
  subst hr
  by_cases hg : 1 ≤ size ∧ size ≤ 4194304 ∧ (ls.length : Int) = k + m
  case neg =>
    have hfin : decide (goodP ls k m size) = false := decide_eq_false fun h => hg ⟨h.2.1, h.2.2.1, h.2.2.2.1⟩
    rw [hfin]
    conv => whnf
    by_cases h1 : size < 1
    · refine RunR ?_
      exact ⟨rfl, hW1⟩
    · by_cases h2 : 4194304 < size
      · refine RunR ?_
        exact ⟨rfl, hW1⟩
      · refine RunR ?_
        exact ⟨rfl, hW1⟩
  obtain ⟨hs1, hs2, hln⟩ := hg
  obtain ⟨size, rfl⟩ := Int.eq_ofNat_of_zero_le (show 0 ≤ size by omega)
  have hgood : goodP ls k m size ↔ ∀ l ∈ ls, fitL (hgt size k : Nat) l := by
    unfold goodP
    rw [Int.toNat_natCast, Int.toNat_natCast]
    exact ⟨fun h => h.2.2.2.2, fun h => ⟨hc, hs1, hs2, hln, h⟩⟩
  obtain ⟨vb, vo, rfl, _⟩ := hus.addr (by omega)
  have hvr := (hus.below hW1).toN.rowOf
  have hh := fun w => height_fn size k (by omega) (by omega) (by omega) w
  generalize hgt size k = H at *
  have hbad : ∀ l ∈ ls, ¬ fitL (H : Nat) l → decide (goodP ls k m size) = false := fun l hl hn => decide_eq_false fun h => hn (hgood.1 h l hl)
  conv => whnf
  refine RunR ?_
  refine V.loop (α := Nat) (fun i => [(1, .int .i64 (k : Int)), (3, .int .i64 (size : Int)), (39, .slice (some ⟨vb, vo, none⟩) ls.length cp), (40, .int .i64 (ls.length : Int)), (41, .int .i64 (i : Int))])
    (fun i w' => i ≤ ls.length ∧ (∀ l ∈ ls.take i, fitL (H : Nat) l) ∧ w' = w1) (fun i => ls.length - i) 0 ⟨rfl, rfl, rfl, rfl, rfl, trivial⟩ ⟨Nat.zero_le _, by simp, rfl⟩ ?_
  rintro i w ⟨hi, hfit, hww⟩
  subst hww
  refine RunR ?_
  refine Br.dec (fun hlt => ?_) (fun hlt => ?_)
  · have hil : i < ls.length := by omega
    have hgi : ls[i]? = some ls[i] := List.getElem?_eq_getElem hil
    have hmem := List.getElem_mem hil
    have hts := List.take_succ_eq_append_getElem hil
    have hui : us[i]? = some us[i] := List.getElem?_eq_getElem (by omega)
    have hsi := (hin i _ _ hui hgi).below hW1
    generalize ls[i] = l at *
    generalize us[i] = u at *
    obtain ⟨ul, huls, huli⟩ := hsi.of
    have hull := huli.len
    obtain ⟨ua, uc, rfl⟩ := huls.shape
    rw [hull] at hui huls
    have hule := huls.le
    refine RunR ?_
    intro o3 ho3
    conv => whnf
    refine RunR ?_
    refine Ld.row1 ttOk hvr rfl rfl (k := i) hui (by omega) ?_
    conv => whnf
    have inner : fitL (H : Nat) l ∨ ¬ (l.length = 0 ∨ (l.length : Int) = (H : Nat)) ∨ ((l.length = 0 ∨ (l.length : Int) = (H : Nat)) ∧ ¬ ∀ r ∈ l, r.length = 0 ∨ r.length = 16) := by
      unfold fitL
      by_cases h1 : (l.length = 0 ∨ (l.length : Int) = (H : Nat))
      · by_cases h2 : ∀ r ∈ l, r.length = 0 ∨ r.length = 16
        · exact .inl ⟨h1, h2⟩
        · exact .inr (.inr ⟨h1, h2⟩)
      · exact .inr (.inl h1)
    by_cases hH : l.length = 0 ∨ (l.length : Int) = (H : Nat)
    case neg =>
      have hf := hbad l hmem fun h => hH h.1
      refine RunR ?_
      refine (hh _).mono fun r w' ⟨hw', hr'⟩ => ?_
      subst hr'
      replace hw' := hw'.symm
      subst hw'
      conv => whnf
      refine RunR ?_
      exact ⟨by rw [hf], hW1⟩
    rcases (show l.length = 0 ∨ l.length ≠ 0 by omega) with h0 | h0
    rotate_left
    · refine RunR ?_
      refine (hh _).mono fun r w' ⟨hw', hr'⟩ => ?_
      subst hr'
      replace hw' := hw'.symm
      subst hw'
      conv => whnf
      have hH2 : (l.length : Int) = (H : Nat) := by omega
      refine RunR ?_
      refine V.loop (α := Nat) (fun r => [(1, .int .i64 (k : Int)), (3, .int .i64 (size : Int)), (39, .slice (some ⟨vb, vo, none⟩) ls.length cp), (40, .int .i64 (ls.length : Int)), (41, .int .i64 (i : Int)), (56, .slice ua l.length uc), (57, .int .i64 (l.length : Int)), (58, .int .i64 (r : Int))])
        (fun r w' => r ≤ l.length ∧ (∀ x ∈ l.take r, x.length = 0 ∨ x.length = 16) ∧ w' = w) (fun r => l.length - r) 0 ⟨rfl, rfl, rfl, rfl, rfl, rfl, rfl, rfl, trivial⟩ ⟨Nat.zero_le _, by simp, rfl⟩ ?_
      rintro r w2 ⟨hr, hrf, hww⟩
      replace hww := hww.symm
      subst hww
      refine RunR ?_
      refine Br.dec (fun hlt2 => ?_) (fun hlt2 => ?_)
      · have hrl : r < l.length := by omega
        have hgr : l[r]? = some l[r] := List.getElem?_eq_getElem hrl
        have hmr := List.getElem_mem hrl
        have htr := List.take_succ_eq_append_getElem hrl
        obtain ⟨x, hx, hsx⟩ := huli.get hgr
        generalize l[r] = row at *
        obtain ⟨xa, xc, rfl⟩ := hsx.shape
        rw [bv_length] at hx
        obtain ⟨ub, uo, rfl, hur⟩ := huls.addr (by omega)
        refine RunR ?_
        intro o4 ho4
        conv => whnf
        refine RunR ?_
        refine Ld.row1 ttOk hur rfl rfl (k := r) hx (by omega) ?_
        conv => whnf
        rcases (show row.length = 0 ∨ row.length = 16 ∨ (row.length ≠ 0 ∧ row.length ≠ 16) by omega) with h5 | h5 | h5
        · refine RunR ?_
          refine ⟨r + 1, ⟨rfl, rfl, rfl, rfl, rfl, rfl, rfl, rfl, trivial⟩, ⟨by omega, ?_, rfl⟩, (by first | omega | (dsimp only; omega))⟩
          rw [htr]
          intro y hy
          rcases List.mem_append.1 hy with hy | hy
          · exact hrf y hy
          · rw [List.mem_singleton] at hy; subst hy; omega
        · refine RunR ?_
          refine ⟨r + 1, ⟨rfl, rfl, rfl, rfl, rfl, rfl, rfl, rfl, trivial⟩, ⟨by omega, ?_, rfl⟩, (by first | omega | (dsimp only; omega))⟩
          rw [htr]
          intro y hy
          rcases List.mem_append.1 hy with hy | hy
          · exact hrf y hy
          · rw [List.mem_singleton] at hy; subst hy; omega
        · have hf := hbad l hmem fun h => by have := h.2 row hmr; omega
          refine RunR ?_
          exact ⟨by rw [hf], hW1⟩
      · obtain rfl : l.length = r := by omega
        rw [List.take_length] at hrf
        refine RunR ?_
        refine ⟨i + 1, ⟨rfl, rfl, rfl, rfl, rfl, trivial⟩, ⟨by omega, ?_, rfl⟩, (by first | omega | (dsimp only; omega))⟩
        rw [hts]
        intro y hy
        rcases List.mem_append.1 hy with hy | hy
        · exact hfit y hy
        · rw [List.mem_singleton] at hy; subst hy; exact ⟨hH, hrf⟩
    · refine RunR ?_
      clear h0
      refine V.loop (α := Nat) (fun r => [(1, .int .i64 (k : Int)), (3, .int .i64 (size : Int)), (39, .slice (some ⟨vb, vo, none⟩) ls.length cp), (40, .int .i64 (ls.length : Int)), (41, .int .i64 (i : Int)), (56, .slice ua l.length uc), (57, .int .i64 (l.length : Int)), (58, .int .i64 (r : Int))])
        (fun r w' => r ≤ l.length ∧ (∀ x ∈ l.take r, x.length = 0 ∨ x.length = 16) ∧ w' = w) (fun r => l.length - r) 0 ⟨rfl, rfl, rfl, rfl, rfl, rfl, rfl, rfl, trivial⟩ ⟨Nat.zero_le _, by simp, rfl⟩ ?_
      rintro r w2 ⟨hr, hrf, hww⟩
      replace hww := hww.symm
      subst hww
      refine RunR ?_
      refine Br.dec (fun hlt2 => ?_) (fun hlt2 => ?_)
      · have hrl : r < l.length := by omega
        have hgr : l[r]? = some l[r] := List.getElem?_eq_getElem hrl
        have hmr := List.getElem_mem hrl
        have htr := List.take_succ_eq_append_getElem hrl
        obtain ⟨x, hx, hsx⟩ := huli.get hgr
        generalize l[r] = row at *
        obtain ⟨xa, xc, rfl⟩ := hsx.shape
        rw [bv_length] at hx
        obtain ⟨ub, uo, rfl, hur⟩ := huls.addr (by omega)
        refine RunR ?_
        intro o4 ho4
        conv => whnf
        refine RunR ?_
        refine Ld.row1 ttOk hur rfl rfl (k := r) hx (by omega) ?_
        conv => whnf
        rcases (show row.length = 0 ∨ row.length = 16 ∨ (row.length ≠ 0 ∧ row.length ≠ 16) by omega) with h5 | h5 | h5
        · refine RunR ?_
          refine ⟨r + 1, ⟨rfl, rfl, rfl, rfl, rfl, rfl, rfl, rfl, trivial⟩, ⟨by omega, ?_, rfl⟩, (by first | omega | (dsimp only; omega))⟩
          rw [htr]
          intro y hy
          rcases List.mem_append.1 hy with hy | hy
          · exact hrf y hy
          · rw [List.mem_singleton] at hy; subst hy; omega
        · refine RunR ?_
          refine ⟨r + 1, ⟨rfl, rfl, rfl, rfl, rfl, rfl, rfl, rfl, trivial⟩, ⟨by omega, ?_, rfl⟩, (by first | omega | (dsimp only; omega))⟩
          rw [htr]
          intro y hy
          rcases List.mem_append.1 hy with hy | hy
          · exact hrf y hy
          · rw [List.mem_singleton] at hy; subst hy; omega
        · have hf := hbad l hmem fun h => by have := h.2 row hmr; omega
          refine RunR ?_
          exact ⟨by rw [hf], hW1⟩
      · obtain rfl : l.length = r := by omega
        rw [List.take_length] at hrf
        refine RunR ?_
        refine ⟨i + 1, ⟨rfl, rfl, rfl, rfl, rfl, trivial⟩, ⟨by omega, ?_, rfl⟩, (by first | omega | (dsimp only; omega))⟩
        rw [hts]
        intro y hy
        rcases List.mem_append.1 hy with hy | hy
        · exact hfit y hy
        · rw [List.mem_singleton] at hy; subst hy; exact ⟨hH, hrf⟩
  · obtain rfl : ls.length = i := by omega
    rw [List.take_length] at hfit
    refine RunR ?_
    have hg := hgood.2 hfit
    exact ⟨congrArg Value.bool (decide_eq_true hg).symm, hW1⟩

/-! ### one row of each shard -/
def rowsAt (ls : List (List (List UInt8))) (r : Nat) : List (List UInt8) := ls.map fun l => rw_ l r
theorem rowsAt_len (ls : List (List (List UInt8))) (r : Nat) : (rowsAt ls r).length = ls.length := by simp [rowsAt]
theorem rowsAt_take {ls : List (List (List UInt8))} {r i : Nat} (h : i < ls.length) : (rowsAt ls r).take (i + 1) = (rowsAt ls r).take i ++ [rw_ ls[i] r] := by
  rw [List.take_add_one, rowsAt, List.getElem?_map, List.getElem?_eq_getElem h]; rfl
set_option maxHeartbeats 8000000 in
theorem row_fn (v : Value) (ls : List (List (List UInt8))) (r : Nat) (hl : ls.length ≤ 14) (hr : r ≤ 1000000) (w0 : World) (hs : S3 w0 v ls) :
    Fn Tryd.prog 18 #[v, .int .i64 (r : Int)] w0 fun x w' => SS w' x (rowsAt ls r) ∧ Below w0.heap.size w0 w' := by
  obtain ⟨us, hus, hul, hin⟩ := hs.of
  obtain ⟨a, cp, rfl⟩ := hus.shape
  rw [hul] at hus ⊢
  have hL := Sep.start Tryd.prog w0
  have hB := Nat.le_refl w0.heap.size
  refine Fn.mk Tryd.func18 rfl (by kernel_rfl) Tryd.ntmps18 rfl (by rw [Tryd.results18]) ?_
  repeat (first | (refine RunH ?_; intro w hL hB; try clear w) | (refine Both.mk ?_ ?_ <;> conv => whnf) | fail)
  refine Rv.makeS ttOk hL ls.length ls.length tl29 tl22 rfl rfl rfl (Nat.le_refl _) (by omega) (by simp only [maxLen]; omega) hB fun g w hL hB => ?_
  conv => whnf
  repeat (first | (refine RunH ?_; intro w hL hB; try clear w) | (refine Both.mk ?_ ?_ <;> conv => whnf) | fail)
  refine V.loop (α := Nat × List Value) (fun z => [(1, .int .i64 (r : Int)), (5, .slice (some ⟨g, 0, none⟩) ls.length ls.length), (11, .slice a ls.length cp), (12, .int .i64 (ls.length : Int)), (13, .int .i64 (z.1 : Int))])
    (fun z w' => z.1 ≤ ls.length ∧ Ins w0 z.2 ((rowsAt ls r).take z.1) ∧ w0.heap.size ≤ w'.heap.size ∧ Sep Tryd.prog w0.heap.size w0 w' [.row 22 1 (.slice (some ⟨g, 0, none⟩) ls.length ls.length) ls.length (z.2 ++ List.replicate (ls.length - z.1) (.slice none 0 0))]) (fun z => ls.length - z.1) (0, []) ⟨rfl, rfl, rfl, rfl, rfl, trivial⟩ ⟨Nat.zero_le _, by simpa using Ins.nil w0, hB, hL⟩ ?_
  clear hL hB
  rintro ⟨i, vs⟩ w ⟨hi, hvs, hB, hL⟩
  dsimp only at hi hvs hL
  have hvl : vs.length = i := by rw [hvs.len, List.length_take, rowsAt_len]; omega
  repeat (first | (refine RunH ?_; intro w hL hB; try clear w) | (refine Both.mk ?_ ?_ <;> conv => whnf) | fail)
  refine Br.dec (fun hlt => ?_) (fun hlt => ?_)
  · have hil : i < ls.length := by omega
    have htk := rowsAt_take (r := r) hil
    have hgi : ls[i]? = some ls[i] := List.getElem?_eq_getElem hil
    have hui : us[i]? = some us[i] := List.getElem?_eq_getElem (by omega)
    have hsi := hin i _ _ hui hgi
    generalize ls[i] = l at *
    generalize us[i] = u at *
    obtain ⟨ul, huls, huli⟩ := hsi.of
    have hull := huli.len
    obtain ⟨ua, uc, rfl⟩ := huls.shape
    rw [hull] at hui huls
    have hule := huls.le
    obtain ⟨vb, vo, rfl, _⟩ := hus.addr (by omega)
    have hvr := (hus.below hL.below).toN.rowOf
    have hset : ∀ x : Value, (vs ++ List.replicate (ls.length - i) (Value.slice none 0 0)).set i x = (vs ++ [x]) ++ List.replicate (ls.length - (i + 1)) (Value.slice none 0 0) := fun x => by
      rw [(by omega : ls.length - i = (ls.length - (i + 1)) + 1), fill_set _ _ _ _ hvl.symm]
    repeat (first | (refine RunH ?_; intro w hL hB; try clear w) | (refine Both.mk ?_ ?_ <;> conv => whnf) | fail)
    intro o3 ho3
    conv => whnf
    repeat (first | (refine RunH ?_; intro w hL hB; try clear w) | (refine Both.mk ?_ ?_ <;> conv => whnf) | fail)
    refine Ld.row1 ttOk hvr rfl rfl (k := i) hui (by omega) ?_
    conv => whnf
    by_cases hrl : r < l.length
    · obtain ⟨x, hx, hsx⟩ := huli.get (rw_some hrl)
      obtain ⟨xa, xc, rfl⟩ := hsx.shape
      obtain ⟨ub, uo, rfl, _⟩ := huls.addr (by omega)
      have hur := (huls.below hL.below).toN.rowOf
      repeat (first | (refine RunH ?_; intro w hL hB; try clear w) | (refine Both.mk ?_ ?_ <;> conv => whnf) | fail)
      intro o4 ho4
      conv => whnf
      repeat (first | (refine RunH ?_; intro w hL hB; try clear w) | (refine Both.mk ?_ ?_ <;> conv => whnf) | fail)
      refine Ld.row1 ttOk hur rfl rfl (k := r) hx (by omega) ?_
      conv => whnf
      repeat (first | (refine RunH ?_; intro w hL hB; try clear w) | (refine Both.mk ?_ ?_ <;> conv => whnf) | fail)
      intro o5 ho5
      obtain rfl : i = o5 := by omega
      conv => whnf
      refine St.rowS ttOk hL 0 rfl rfl rfl rfl (by rw [List.length_append, List.length_replicate, hvl]; show i + 1 ≤ _; omega) hB (fun w hL hB => ?_)
      dsimp only [List.set, cellsL] at hL
      rw [splice_one (by rw [List.length_append, List.length_replicate, hvl]; omega), hset] at hL
      conv => whnf
      repeat (first | (refine RunH ?_; intro w hL hB; try clear w) | (refine Both.mk ?_ ?_ <;> conv => whnf) | fail)
      refine ⟨(i + 1, vs ++ [_]), ⟨rfl, rfl, rfl, rfl, rfl, trivial⟩, ⟨by dsimp only; omega, ?_, hB, hL⟩, (by first | omega | (dsimp only; omega))⟩
      dsimp only
      rw [htk]
      exact hvs.snoc hsx
    · have hnil : rw_ l r = [] := by unfold rw_; simp [List.getD, List.getElem?_eq_none (show l.length ≤ r by omega)]
      repeat (first | (refine RunH ?_; intro w hL hB; try clear w) | (refine Both.mk ?_ ?_ <;> conv => whnf) | fail)
      refine ⟨(i + 1, vs ++ [.slice none 0 0]), ⟨rfl, rfl, rfl, rfl, rfl, trivial⟩, ⟨by dsimp only; omega, ?_, hB, ?_⟩, (by first | omega | (dsimp only; omega))⟩
      · dsimp only
        rw [htk, hnil]
        exact hvs.snoc (Sl.nil w0)
      · dsimp only
        rw [List.append_assoc, show [Value.slice none 0 0] ++ List.replicate (ls.length - (i + 1)) (Value.slice none 0 0) = List.replicate (ls.length - i) (Value.slice none 0 0) by rw [(by omega : ls.length - i = (ls.length - (i + 1)) + 1), List.replicate_succ]; rfl]
        exact hL
  · obtain rfl : ls.length = i := by omega
    rw [Nat.sub_self, List.replicate_zero, List.append_nil] at hL
    rw [List.take_of_length_le (by rw [rowsAt_len]; exact Nat.le_refl _)] at hvs
    repeat (first | (refine RunH ?_; intro w hL hB; try clear w) | (refine Both.mk ?_ ?_ <;> conv => whnf) | fail)
    exact ⟨sl_ss (hL.row (i := 0) rfl) (hvs.below hL.below), hL.below⟩
end Go.Proofs.YtlldgodjfpgbcaaDoor
