/- KeepPlays: a step and what stands, in both disks. Nothing is claimed here. -/
import Derived.Test.YtjgiailgidbkmaaJp
import Derived.Test.YtjgiailgidbkmaaJk
import Derived.Test.YtjgiailgidbkmaaTk
import Derived.Test.YtjgiailgidbkmaaTi
namespace Go.Proofs.Ytjgiailgidbkmaa
open Go.RowKit
set_option linter.unusedVariables false
set_option linter.unusedSimpArgs false
set_option maxRecDepth 100000

/-- a step of a script -/
structure Ktp where
  kind : Int
  n : Int
  a : ByteArray
  bV : Value
  b : List UInt8
  by_ : UInt8
def ktpC (s : Ktp) : List Value := [.int .i64 s.kind, .int .i64 s.n, .string s.a, s.bV, .int .u8 (s.by_.toNat : Int)]
theorem ktpC_len (s : Ktp) : (ktpC s).length = 5 := rfl
structure OkKtp (w0 : World) (s : Ktp) : Prop where
  n : -9223372036854775808 ≤ s.n ∧ s.n ≤ 9223372036854775807
  a : s.a.size ≤ 8000
  b : s.b.length ≤ 8000
  sl : Sl w0 s.bV (bv s.b)
set_option maxHeartbeats 8000000 in
theorem does_fn {w0 w : World} {d k room : Nat} {S : List Fl} {F : List Res} (s : Ktp) (ok : OkKtp w0 s) (h2 : Two w0.heap.size w0 w d k room S F) :
    Fn Try.prog 17 #[ptr d, ptr k, .agg (ktpC s).toArray] w fun r w' => r = .bool true ∧ ∃ S', Two w0.heap.size w0 w' d k room S' F := by
  obtain ⟨⟨R, dR, hp, hD, clR⟩⟩ := h2
  have hnd := hD.nd
  obtain ⟨kind, n, a, bV, l, x⟩ := s
  obtain ⟨hn, ha, hl, hsl⟩ := ok
  dsimp only at *
  obtain ⟨pa, pc, rfl⟩ := hsl.shape
  rw [bv_length] at *
  have p1 : ∀ {L : List Res} (w' : World), Sep Try.prog w0.heap.size w0 w' L → Sl w' (.slice pa l.length pc) (bv l) := fun w' h => h.sl hsl rfl
  have ha6 : a.size ≤ 1000000 := by omega
  have ha7 : a.size ≤ 140737488355328 := by omega
  obtain ⟨dD, hL, hB, clD⟩ := hD.open
  clear hD
  rw [ktpC]
  refine Fn.mk Try.func17 rfl (by kernel_rfl) Try.ntmps17 rfl (by rw [Try.results17]) ?_
  repeat (first | (refine RunH ?_; intro w hL hB; try clear w) | (refine Both.mk ?_ ?_ <;> conv => whnf) | fail)
  (refine Nw.sep hL hB (fun t5 w hL hB ht5 => ?_); conv => whnf)
  by_cases h1 : kind = 1
  · subst h1
    repeat (first | (refine RunH ?_; intro w hL hB; try clear w) | (refine Both.mk ?_ ?_ <;> conv => whnf) | fail)
    refine (roomy_fn _ l (by omega) (p1 _ hL) hL hB).mono fun r w ⟨g, c, hr, hgc, hL, hB, _⟩ => ?_
    subst hr
    replace hL := hL.perm (.swap _ _ _)
    conv => whnf
    repeat (first | (refine RunK ?_; intro w hL hB; try clear w) | (refine V.tree ttOk (fun x0 => Sep Try.prog _ w0 x0 (.blk t5 [.int .i64 1, .int .i64 n, .string a, .slice pa l.length pc, .int .u8 (x.toNat : Int)] 47 :: [])) (.q 0 (.q 1 (.q 2 (.q 3 (.q 4 (.q 5 (.q 6 (.q 7 (.q 9 (.q 10 (.q 11 (.q 12 (.q 13 (.alt 8 (.alt 14 (.q 15 (.q 16 (.q 17 (.q 18 (.q 19 (.alt 20 (.q 21 (.q 22 .nil)) .stop)))))) .stop) .stop)))))))))))))) mixed (by decide +kernel) (hL.drew.sub (.cons_cons _ (List.nil_sublist _))) ?_; replace hL := hL.drew; conv => whnf) | (refine V.tailA ttOk mixed (by decide +kernel) ?_; replace hL := hL.drew; conv => whnf) | (refine Both.mk ?_ ?_ <;> conv => whnf) | fail)
    intro n3 c3 q1 q2
    obtain rfl : n3 = l.length := by omega
    conv => whnf
    repeat (first | (refine RunH ?_; intro w hL hB; try clear w) | (refine Both.mk ?_ ?_ <;> conv => whnf) | fail)
    refine (save_fn a ha6 _ l (by omega) (fun w' h => ?_) (clD (F' := _ :: _ :: (F ++ dR)) hL hB)).mono fun r w ⟨hr, hD⟩ => ?_
    · have h1 : Sl w' (.slice (some ⟨g, 0, none⟩) (l.length + 1) c) (bv (l ++ [171])) := RowC.sl (show RowC w' 5 _ (l ++ [(171 : UInt8)]).length (bv (l ++ [171])) from h.at (i := 1) rfl)
      have := h1.take (k := l.length) (by simp) (c' := c3) (by omega) (by omega)
      rwa [← bv_take, List.take_left' rfl] at this
    subst hr
    clear clD hL hB
    obtain ⟨dD, hL, hB, clD⟩ := hD.open
    clear hD
    replace hL := Sep.swl (F := _ :: _ :: F) hL
    conv => whnf
    refine ⟨hL.sub (.cons_cons _ (List.nil_sublist _)), ?_⟩
    conv => whnf
    repeat (first | (refine RunH ?_; intro w hL hB; try clear w) | (refine Both.mk ?_ ?_ <;> conv => whnf) | fail)
    refine (saveR9_fn a ha6 _ l (by omega) (fun w' h => p1 _ h) (clR (F' := _ :: _ :: (F ++ dD)) hL hB)).mono fun r w ⟨hr, R', hp', hD⟩ => ?_
    subst hr
    clear clR hL hB
    replace hp' := hp'.trans (saveS_perm hnd hp room a l)
    rw [saveE_perm hnd hp]
    obtain ⟨dR, hL, hB, clR⟩ := hD.open
    clear hD
    conv => whnf
    refine ⟨hL.sub (.cons_cons _ (List.nil_sublist _)), ?_⟩
    conv => whnf
    repeat (first | (refine RunH ?_; intro w hL hB; try clear w) | (refine Both.mk ?_ ?_ <;> conv => whnf) | fail)
    refine (stands_fn _ _ l [] _ (RowC.sl (show RowC w 5 _ (l ++ [(171 : UInt8)]).length (bv (l ++ [171])) from hL.at (i := 1) rfl)) (p1 _ hL) (by omega)).mono fun r w ⟨hr, hw⟩ => ?_
    subst hr
    replace hL := hL.call hB (Turns.of_below hw)
    replace hB := Nat.le_trans hB hw.size
    conv => whnf
    refine ⟨hL.sub (.cons_cons _ (List.nil_sublist _)), ?_⟩
    conv => whnf
    repeat (first | (refine RunH ?_; intro w hL hB; try clear w) | (refine Both.mk ?_ ?_ <;> conv => whnf) | fail)
    exact ⟨rfl, _, (Two.mk' (F := _ :: _ :: F) hp' (clR (F' := _ :: _ :: (F ++ dD)) hL hB) clD).tl.tl⟩
  by_cases h2 : kind = 2
  · subst h2
    repeat (first | (refine RunH ?_; intro w hL hB; try clear w) | (refine Both.mk ?_ ?_ <;> conv => whnf) | fail)
    refine (load_fn a ha6 (clD (F' := _ :: (F ++ dR)) hL hB)).mono fun r w hD => ?_
    clear clD hL hB
    have hE := loadE_perm hnd hp a
    have hP := loadP_perm hnd hp a
    unfold loadPost at hD
    by_cases hz : loadE S a = 0
    case neg =>
      rw [if_neg hz] at hD
      obtain ⟨hr, hD⟩ := hD
      subst hr
      obtain ⟨dD, hL, hB, clD⟩ := hD.open
      clear hD
      replace hL := Sep.swl (F := _ :: F) hL
      conv => whnf
      repeat (first | (refine RunH ?_; intro w hL hB; try clear w) | (refine Both.mk ?_ ?_ <;> conv => whnf) | fail)
      refine (loadR9_fn a (clR (F' := _ :: (F ++ dD)) hL hB)).mono fun r w hD => ?_
      clear clR hL hB
      unfold loadPostR at hD
      rw [hE, if_neg hz] at hD
      obtain ⟨hr, hD⟩ := hD
      subst hr
      obtain ⟨dR, hL, hB, clR⟩ := hD.open
      clear hD
      conv => whnf
      repeat (first | (refine RunH ?_; intro w hL hB; try clear w) | (refine Both.mk ?_ ?_ <;> conv => whnf) | fail)
      refine (same_fn _ _ [] [] _ (Sl.nil _) (Sl.nil _)).mono fun r w ⟨hr, hw⟩ => ?_
      subst hr
      replace hL := hL.call hB (Turns.of_below hw)
      replace hB := Nat.le_trans hB hw.size
      rw [decide_eq_true rfl]
      conv => whnf
      repeat (first | (refine RunH ?_; intro w hL hB; try clear w) | (refine Both.mk ?_ ?_ <;> conv => whnf) | fail)
      refine (spoil_fn _ [] (by simp) (hL.nilC 5) hB).mono fun r w ⟨hL, hB⟩ => ?_
      conv => whnf
      repeat (first | (refine RunH ?_; intro w hL hB; try clear w) | (refine Both.mk ?_ ?_ <;> conv => whnf) | fail)
      exact ⟨by simp, _, (Two.mk' (F := _ :: F) hp (clR (F' := _ :: (F ++ dD)) hL hB) clD).tl⟩
    rw [if_pos hz] at hD
    obtain ⟨u, hr, hD⟩ := hD
    subst hr
    have hfl : (loadP S a).length ≤ 2147483648 := by
      rw [loadP]
      cases hg : getS S a with
      | none => simp
      | some f =>
        have := hD.big hg
        have h2 : (decP f.d).length ≤ f.d.length := by rw [decP, win]; simp; omega
        dsimp only
        omega
    obtain ⟨dD, hL, hB, clD⟩ := hD.open
    clear hD
    replace hL := Sep.swl (F := _ :: _ :: F) hL
    obtain ⟨ua, uc, rfl⟩ := (show SlN w 1 u _ _ from hL.rowN (i := 0) rfl).shape
    conv => whnf
    repeat (first | (refine RunH ?_; intro w hL hB; try clear w) | (refine Both.mk ?_ ?_ <;> conv => whnf) | fail)
    refine (loadR9_fn a (clR (F' := _ :: _ :: (F ++ dD)) hL hB)).mono fun r w hD => ?_
    clear clR hL hB
    unfold loadPostR at hD
    rw [hE, if_pos hz, hP] at hD
    obtain ⟨v, hr, hD⟩ := hD
    subst hr
    obtain ⟨dR, hL, hB, clR⟩ := hD.open
    clear hD
    obtain ⟨xa, xc, rfl⟩ := (show SlN w 1 v _ _ from hL.rowN (i := 0) rfl).shape
    conv => whnf
    repeat (first | (refine RunH ?_; intro w hL hB; try clear w) | (refine Both.mk ?_ ?_ <;> conv => whnf) | fail)
    refine (same_fn _ _ (loadP S a) (loadP S a) _ (hL.row (i := 1) rfl) (hL.row (i := 0) rfl)).mono fun r w ⟨hr, hw⟩ => ?_
    subst hr
    replace hL := hL.call hB (Turns.of_below hw)
    replace hB := Nat.le_trans hB hw.size
    rw [decide_eq_true rfl]
    conv => whnf
    repeat (first | (refine RunH ?_; intro w hL hB; try clear w) | (refine Both.mk ?_ ?_ <;> conv => whnf) | fail)
    have hL3 := hL.tl.says (R' := .rc 5 (.slice ua (loadP S a).length uc) (loadP S a).length (bv (loadP S a))) (RowC.of_own (hL.tl.ownR (i := 0) rfl)) rfl
    refine (spoil_fn _ (loadP S a) hfl hL3 hB).mono fun r w ⟨hL, hB⟩ => ?_
    conv => whnf
    repeat (first | (refine RunH ?_; intro w hL hB; try clear w) | (refine Both.mk ?_ ?_ <;> conv => whnf) | fail)
    exact ⟨rfl, _, (Two.mk' (F := _ :: F) hp (clR (F' := _ :: (F ++ dD)) hL hB) clD).tl⟩
  by_cases h3 : kind = 3
  · subst h3
    repeat (first | (refine RunH ?_; intro w hL hB; try clear w) | (refine Both.mk ?_ ?_ <;> conv => whnf) | fail)
    refine (crash_fn n hn.2 (clD (F' := _ :: (F ++ dR)) hL hB)).mono fun r w hD => ?_
    clear clD hL hB
    obtain ⟨dD, hL, hB, clD⟩ := hD.open
    clear hD
    replace hL := Sep.swl (F := _ :: F) hL
    conv => whnf
    repeat (first | (refine RunH ?_; intro w hL hB; try clear w) | (refine Both.mk ?_ ?_ <;> conv => whnf) | fail)
    refine (crashR_fn n hn (clR (F' := _ :: (F ++ dD)) hL hB)).mono fun r w hD => ?_
    clear clR hL hB
    have hp' := crashS_perm hp n
    obtain ⟨dR, hL, hB, clR⟩ := hD.open
    clear hD
    conv => whnf
    repeat (first | (refine RunH ?_; intro w hL hB; try clear w) | (refine Both.mk ?_ ?_ <;> conv => whnf) | fail)
    exact ⟨rfl, _, (Two.mk' (F := _ :: F) hp' (clR (F' := _ :: (F ++ dD)) hL hB) clD).tl⟩
  by_cases h4 : kind = 4
  · subst h4
    repeat (first | (refine RunK ?_; intro w hL hB; try clear w) | (refine V.tree ttOk (fun x0 => Sep Try.prog _ w0 x0 (.blk t5 [.int .i64 4, .int .i64 n, .string a, .slice pa l.length pc, .int .u8 (x.toNat : Int)] 47 :: [])) (.q 0 (.q 1 (.q 2 (.q 3 (.q 4 (.q 5 (.q 6 (.q 8 (.q 9 (.q 10 (.q 11 (.q 12 (.q 13 (.q 14 (.alt 7 (.alt 15 (.q 16 (.q 17 .nil)) .stop) .stop))))))))))))))) mixed (by decide +kernel) (hL.drew.sub (.cons_cons _ (List.nil_sublist _))) ?_; replace hL := hL.drew; conv => whnf) | (refine V.tailA ttOk mixed (by decide +kernel) ?_; replace hL := hL.drew; conv => whnf) | (refine Both.mk ?_ ?_ <;> conv => whnf) | fail)
    refine (rot_fn a ha6 n x (clD (F' := _ :: (F ++ dR)) hL hB)).mono fun r w ⟨hr, hD⟩ => ?_
    subst hr
    clear clD hL hB
    obtain ⟨dD, hL, hB, clD⟩ := hD.open
    clear hD
    replace hL := Sep.swl (F := _ :: F) hL
    conv => whnf
    refine ⟨hL.sub (.cons_cons _ (List.nil_sublist _)), ?_⟩
    conv => whnf
    repeat (first | (refine RunH ?_; intro w hL hB; try clear w) | (refine Both.mk ?_ ?_ <;> conv => whnf) | fail)
    refine (rotR_fn a n x (clR (F' := _ :: (F ++ dD)) hL hB)).mono fun r w ⟨hr, hD⟩ => ?_
    subst hr
    clear clR hL hB
    have hp' := rotS_perm hnd hp a n x
    rw [rotE_perm hnd hp]
    obtain ⟨dR, hL, hB, clR⟩ := hD.open
    clear hD
    conv => whnf
    refine ⟨hL.sub (.cons_cons _ (List.nil_sublist _)), ?_⟩
    conv => whnf
    repeat (first | (refine RunH ?_; intro w hL hB; try clear w) | (refine Both.mk ?_ ?_ <;> conv => whnf) | fail)
    exact ⟨by simp, _, (Two.mk' (F := _ :: F) hp' (clR (F' := _ :: (F ++ dD)) hL hB) clD).tl⟩
  by_cases h5 : kind = 5
  · subst h5
    repeat (first | (refine RunK ?_; intro w hL hB; try clear w) | (refine V.tree ttOk (fun x0 => Sep Try.prog _ w0 x0 (.blk t5 [.int .i64 5, .int .i64 n, .string a, .slice pa l.length pc, .int .u8 (x.toNat : Int)] 47 :: [])) (.q 0 (.q 1 (.q 2 (.q 3 (.q 4 (.q 6 (.q 7 (.q 8 (.q 9 (.q 10 (.alt 5 (.alt 11 (.q 12 (.q 13 .nil)) .stop) .stop))))))))))) mixed (by decide +kernel) (hL.drew.sub (.cons_cons _ (List.nil_sublist _))) ?_; replace hL := hL.drew; conv => whnf) | (refine V.tailA ttOk mixed (by decide +kernel) ?_; replace hL := hL.drew; conv => whnf) | (refine Both.mk ?_ ?_ <;> conv => whnf) | fail)
    refine (cut_fn a ha6 n (clD (F' := _ :: (F ++ dR)) hL hB)).mono fun r w ⟨hr, hD⟩ => ?_
    subst hr
    clear clD hL hB
    obtain ⟨dD, hL, hB, clD⟩ := hD.open
    clear hD
    replace hL := Sep.swl (F := _ :: F) hL
    conv => whnf
    refine ⟨hL.sub (.cons_cons _ (List.nil_sublist _)), ?_⟩
    conv => whnf
    repeat (first | (refine RunH ?_; intro w hL hB; try clear w) | (refine Both.mk ?_ ?_ <;> conv => whnf) | fail)
    refine (cutR_fn a n (clR (F' := _ :: (F ++ dD)) hL hB)).mono fun r w ⟨hr, hD⟩ => ?_
    subst hr
    clear clR hL hB
    have hp' := cutS_perm hnd hp a n
    rw [cutE_perm hnd hp]
    obtain ⟨dR, hL, hB, clR⟩ := hD.open
    clear hD
    conv => whnf
    refine ⟨hL.sub (.cons_cons _ (List.nil_sublist _)), ?_⟩
    conv => whnf
    repeat (first | (refine RunH ?_; intro w hL hB; try clear w) | (refine Both.mk ?_ ?_ <;> conv => whnf) | fail)
    exact ⟨by simp, _, (Two.mk' (F := _ :: F) hp' (clR (F' := _ :: (F ++ dD)) hL hB) clD).tl⟩
  repeat (first | (refine RunK ?_; intro w hL hB; try clear w) | (refine V.tree ttOk (fun x0 => Sep Try.prog _ w0 x0 (.blk t5 [.int .i64 kind, .int .i64 n, .string a, .slice pa l.length pc, .int .u8 (x.toNat : Int)] 47 :: [])) (.q 0 (.q 1 (.q 2 (.q 3 (.q 4 (.q 6 (.q 7 (.q 8 (.q 9 (.q 10 (.alt 5 (.alt 11 (.q 12 (.q 13 .nil)) .stop) .stop))))))))))) mixed (by decide +kernel) (hL.drew.sub (.cons_cons _ (List.nil_sublist _))) ?_; replace hL := hL.drew; conv => whnf) | (refine V.tailA ttOk mixed (by decide +kernel) ?_; replace hL := hL.drew; conv => whnf) | (refine Both.mk ?_ ?_ <;> conv => whnf) | fail)
  refine (append_fn a ha6 _ l (fun w' h => p1 _ h) (clD (F' := _ :: (F ++ dR)) hL hB)).mono fun r w ⟨hr, hD⟩ => ?_
  subst hr
  clear clD hL hB
  obtain ⟨dD, hL, hB, clD⟩ := hD.open
  clear hD
  replace hL := Sep.swl (F := _ :: F) hL
  conv => whnf
  refine ⟨hL.sub (.cons_cons _ (List.nil_sublist _)), ?_⟩
  conv => whnf
  repeat (first | (refine RunH ?_; intro w hL hB; try clear w) | (refine Both.mk ?_ ?_ <;> conv => whnf) | fail)
  refine (appendR_fn a ha7 _ l (by omega) (fun w' h => p1 _ h) (clR (F' := _ :: (F ++ dD)) hL hB)).mono fun r w ⟨hr, R', hp', hD⟩ => ?_
  subst hr
  clear clR hL hB
  replace hp' := hp'.trans (appS_perm hnd hp room a l)
  rw [appE_perm hnd hp]
  obtain ⟨dR, hL, hB, clR⟩ := hD.open
  clear hD
  conv => whnf
  refine ⟨hL.sub (.cons_cons _ (List.nil_sublist _)), ?_⟩
  conv => whnf
  repeat (first | (refine RunH ?_; intro w hL hB; try clear w) | (refine Both.mk ?_ ?_ <;> conv => whnf) | fail)
  exact ⟨by simp, _, (Two.mk' (F := _ :: F) hp' (clR (F' := _ :: (F ++ dD)) hL hB) clD).tl⟩
set_option maxHeartbeats 8000000 in
theorem stood_fn {B : Nat} {w0 w : World} {d k room : Nat} {S : List Fl} {F : List Res} (h2 : Two B w0 w d k room S F) :
    Fn Try.prog 18 #[ptr d, ptr k] w fun r w' => r = .bool true ∧ Two B w0 w' d k room S F := by
  obtain ⟨⟨R, dR, hp, hD, clR⟩⟩ := h2
  have hnd := hD.nd
  obtain ⟨dD, hL, hB, clD⟩ := hD.open
  clear hD
  refine Fn.mk Try.func18 rfl (by kernel_rfl) Try.ntmps18 rfl (by rw [Try.results18]) ?_
  refine RunR ?_
  refine (list_fn (clD (F' := F ++ dR) hL hB)).mono fun r w hD => ?_
  clear clD hL hB
  obtain ⟨dD, hL, hB, clD⟩ := hD.open
  clear hD
  replace hL := Sep.swl (F := _ :: F) hL
  obtain ⟨ua, uc, rfl⟩ := (show SlN w 1 r _ _ from hL.rowN (i := 0) rfl).shape
  have hR0 := clR (F' := _ :: (F ++ dD)) hL hB
  have hsrt := hR0.srt
  clear clR hL hB
  obtain ⟨⟨L, fs, hR, hok, hLr⟩, hB⟩ := hR0
  have e1 : (names S).map encStr = fs.map fun f => Value.string f.nm := by
    rw [← names_perm' hp, strs_eq hsrt, ← hR, List.map_map, List.map_map]; rfl
  have e2 : S.length = fs.length := by rw [← hp.length_eq, ← hR, List.length_map]
  rw [e1, e2] at hLr
  rw [e2]
  have hlen := hok.ok.len
  have hD : DkS B w0 w d room S (_ :: (rkRes k room L fs ++ F)) := clD (hLr.perm (by rw [List.cons_append, List.append_assoc]; exact List.perm_middle)) hB
  clear clD hLr hB
  obtain ⟨dD, hL, hB, clD⟩ := hD.open
  clear hD
  simp only [rkRes, List.cons_append] at hL
  obtain ⟨ga, gc, rfl⟩ := (show SlN w 3 L fs.length _ from hL.rowN (i := 2) rfl).shape
  conv => whnf
  repeat (first | (refine RunH ?_; intro w hL hB; try clear w) | (refine Both.mk ?_ ?_ <;> conv => whnf) | fail)
  replace hD := clD (F' := _ :: (rkRes k room (.slice ga fs.length gc) fs ++ F)) hL hB
  clear clD hL hB
  refine V.loop (α := Nat) (fun i => [(0, ptr d), (1, ptr k), (5, .slice ua fs.length uc), (6, .int .i64 (i : Int))])
    (fun i w' => i ≤ fs.length ∧ DkS B w0 w' d room S (.row 9 1 (.slice ua fs.length uc) fs.length (fs.map fun f => Value.string f.nm) :: (rkRes k room (.slice ga fs.length gc) fs ++ F))) (fun i => fs.length - i) 0 ⟨rfl, rfl, rfl, rfl, trivial⟩ ⟨by omega, hD⟩ ?_
  clear hD
  rintro i w ⟨hi, hD⟩
  obtain ⟨dD, hL, hB, clD⟩ := hD.open
  simp only [rkRes, List.cons_append] at hL
  by_cases hil : i < fs.length
  case neg =>
    obtain rfl : i = fs.length := by omega
    repeat (first | (refine RunH ?_; intro w hL hB; try clear w) | (refine Both.mk ?_ ?_ <;> conv => whnf) | fail)
    refine ⟨rfl, ⟨⟨fs.map Fv.fl, rkRes k room (.slice ga fs.length gc) fs, hR ▸ hp, (hD.sub (List.sublist_cons_self _ _)).perm List.perm_append_comm, fun hL hB => RkS.mk' hok (hL.perm List.perm_append_comm) hB⟩⟩⟩
  clear hD
  have hget := List.getElem?_eq_getElem hil
  have hmem := List.getElem_mem hil
  have hl1 := len1 hok.ok _ hmem
  have hnmf := hok.ok.nm _ hmem
  have hgS : getS S (fs[i]).nm = some (fs[i]).fl := (getS_iff hnd).2 ⟨hp.mem_iff.1 (hR ▸ List.mem_map_of_mem hmem), rfl⟩
  have hfr : ∀ {w : World} {X Y : List Res}, Sep Try.prog B w0 w (X ++ (fs.map Fv.row ++ Y)) → ∃ va vc, (fs[i]).v = .slice va (fs[i]).d.length vc ∧ Sl w (.slice va (fs[i]).d.length vc) (bv (fs[i]).d) := fun h => by
    obtain ⟨va, vc, hv⟩ := rk_shape h _ hmem
    refine ⟨va, vc, hv, ?_⟩
    have := RowC.sl (show RowC _ 5 (fs[i]).v (fs[i]).d.length (bv (fs[i]).d) from h.hold (Fv.row fs[i]) (by simp only [List.mem_append, List.mem_map]; exact .inr (.inl ⟨_, hmem, rfl⟩)))
    rwa [hv] at this
  have hgn : (fs.map fun f => Value.string f.nm)[i]? = some (.string (fs[i]).nm) := by simp [hil]
  generalize fs[i] = f at *
  obtain ⟨ba, oa, rfl, _⟩ := SlN.addr (show SlN w 1 (.slice ua fs.length uc) fs.length _ from hL.rowN (i := 0) rfl) (by omega)
  obtain ⟨bb, o, rfl, _⟩ := SlN.addr (show SlN w 3 (.slice ga fs.length gc) fs.length _ from hL.rowN (i := 2) rfl) (by omega)
  repeat (first | (refine RunH ?_; intro w hL hB; try clear w) | (refine Both.mk ?_ ?_ <;> conv => whnf) | fail)
  intro o1 ho1
  conv => whnf
  refine Ld.row1 ttOk (hL.rowN (i := 0) rfl).rowOf (k := i) tl9 rfl hgn (by omega) ?_
  conv => whnf
  repeat (first | (refine RunH ?_; intro w hL hB; try clear w) | (refine Both.mk ?_ ?_ <;> conv => whnf) | fail)
  refine (read_fn f.nm (by omega) (clD (F' := _ :: _ :: _ :: (fs.map Fv.row ++ F)) (by simpa using hL) hB)).mono fun r w hD => ?_
  rw [hgS] at hD
  obtain ⟨u, hr, hD⟩ := hD
  subst hr
  clear clD hL hB
  obtain ⟨dD, hL, hB, clD⟩ := hD.open
  clear hD
  obtain ⟨xa, xc, rfl⟩ := (show SlN w 1 u _ _ from hL.rowN (i := 0) rfl).shape
  conv => whnf
  repeat (first | (refine RunH ?_; intro w hL hB; try clear w) | (refine Both.mk ?_ ?_ <;> conv => whnf) | fail)
  intro o2 ho2
  conv => whnf
  refine Lq.of_row (Ld.row1 ttOk (hL.rowN (i := 1) rfl).rowOf (k := i) tl9 rfl hgn (by omega) rfl) ?_
  conv => whnf
  repeat (first | (refine RunH ?_; intro w hL hB; try clear w) | (refine Both.mk ?_ ?_ <;> conv => whnf) | fail)
  intro o3 ho3
  conv => whnf
  refine Lq.of_row (Ld.rowF ttOk f3_len 0 (hL.rowN (i := 3) rfl).rowOf tl9 rfl hget rfl (by omega) rfl) ?_
  conv => whnf
  obtain ⟨va, vc, hfv, hS⟩ := hfr (X := [_, _, _, _]) (Y := F ++ dD) (by simpa using hL)
  obtain ⟨fn, fv, fd, fla⟩ := f
  dsimp only [Fv.fl] at *
  subst hfv
  repeat (first | (refine RunH ?_; intro w hL hB; try clear w) | (refine Both.mk ?_ ?_ <;> conv => whnf) | (refine Br.yes (by simp) ?_; conv => whnf) | fail)
  intro o4 ho4
  conv => whnf
  repeat (first | (refine RunH ?_; intro w hL hB; try clear w) | (refine Both.mk ?_ ?_ <;> conv => whnf) | fail)
  refine Lq.of_row (Ld.rowF ttOk f3_len 1 (hL.rowN (i := 3) rfl).rowOf tl22 rfl hget rfl (by omega) rfl) ?_
  conv => whnf
  repeat (first | (refine RunH ?_; intro w hL hB; try clear w) | (refine Both.mk ?_ ?_ <;> conv => whnf) | fail)
  refine (same_fn _ _ fd fd _ (hL.row (i := 0) rfl) hS).mono fun r w ⟨hr, hw⟩ => ?_
  subst hr
  replace hL := hL.call hB (Turns.of_below hw)
  replace hB := Nat.le_trans hB hw.size
  rw [decide_eq_true rfl]
  conv => whnf
  repeat (first | (refine RunH ?_; intro w hL hB; try clear w) | (refine Both.mk ?_ ?_ <;> conv => whnf) | fail)
  exact ⟨i + 1, ⟨rfl, rfl, rfl, vint (by push_cast; omega), trivial⟩, ⟨by omega, (clD (F' := _ :: _ :: _ :: _ :: (fs.map Fv.row ++ F)) hL hB).tl⟩, (by first | omega | (dsimp only; omega))⟩
end Go.Proofs.Ytjgiailgidbkmaa
