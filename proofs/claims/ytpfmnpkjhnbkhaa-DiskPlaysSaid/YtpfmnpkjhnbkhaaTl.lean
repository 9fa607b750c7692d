/- DiskPlays: one step, in both disks. Nothing is claimed here. -/
import Derived.Test.YtpfmnpkjhnbkhaaTk
import Derived.Test.YtpfmnpkjhnbkhaaTi
namespace Go.Proofs.Ytpfmnpkjhnbkhaa
open Go.RowKit
set_option linter.unusedVariables false
set_option linter.unusedSimpArgs false
set_option maxRecDepth 100000

/-- a step of a script -/
structure Stp where
  kind : Int
  n : Int
  a : ByteArray
  z : ByteArray
  bV : Value
  b : List UInt8
  by_ : UInt8
def stpC (s : Stp) : List Value := [.int .i64 s.kind, .int .i64 s.n, .string s.a, .string s.z, s.bV, .int .u8 (s.by_.toNat : Int)]
theorem stpC_len (s : Stp) : (stpC s).length = 6 := rfl
structure OkStp (w0 : World) (s : Stp) : Prop where
  n : -9223372036854775808 ≤ s.n ∧ s.n ≤ 9223372036854775807
  a : s.a.size ≤ 8000
  z : s.z.size ≤ 8000
  b : s.b.length ≤ 8000
  sl : Sl w0 s.bV (bv s.b)
set_option maxHeartbeats 8000000 in
theorem does_fn {w0 w : World} {d k room : Nat} {S : List Fl} {F : List Res} (s : Stp) (ok : OkStp w0 s) (h2 : Two w0.heap.size w0 w d k room S F) :
    Fn Try.prog 27 #[ptr d, ptr k, .agg (stpC s).toArray] w fun r w' => r = .bool true ∧ ∃ S', Two w0.heap.size w0 w' d k room S' F := by
  obtain ⟨⟨R, dR, hp, hD, clR⟩⟩ := h2
  have hnd := hD.nd
  obtain ⟨kind, n, a, z, bV, l, x⟩ := s
  obtain ⟨hn, ha, hz, hl, hsl⟩ := ok
  dsimp only at *
  obtain ⟨pa, pc, rfl⟩ := hsl.shape
  rw [bv_length] at *
  have p1 : ∀ {L : List Res} (w' : World), Sep Try.prog w0.heap.size w0 w' L → Sl w' (.slice pa l.length pc) (bv l) := fun w' h => h.sl hsl rfl
  have ha6 : a.size ≤ 1000000 := by omega
  have hz6 : z.size ≤ 1000000 := by omega
  have ha7 : a.size ≤ 140737488355328 := by omega
  have hz7 : z.size ≤ 140737488355328 := by omega
  obtain ⟨dD, hL, hB, clD⟩ := hD.open
  clear hD
  rw [stpC]
  refine Fn.mk Try.func27 rfl (by kernel_rfl) Try.ntmps27 rfl (by rw [Try.results27]) ?_
  repeat (first | (refine RunH ?_; intro w hL hB; try clear w) | (refine Both.mk ?_ ?_ <;> conv => whnf) | fail)
  (refine Nw.sep hL hB (fun t5 w hL hB ht5 => ?_); conv => whnf)
  by_cases h1 : kind = 1
  · subst h1
    repeat (first | (refine RunH ?_; intro w hL hB; try clear w) | (refine Both.mk ?_ ?_ <;> conv => whnf) | fail)
    refine (roomy_fn _ l (by omega) (p1 _ hL) hL hB).mono fun r w ⟨g, c, hr, hgc, hL, hB, _⟩ => ?_
    subst hr
    replace hL := hL.perm (.swap _ _ _)
    conv => whnf
    repeat (first | (refine RunK ?_; intro w hL hB; try clear w) | (refine V.tree ttOk (fun x0 => Sep Try.prog _ w0 x0 (.blk t5 [.int .i64 1, .int .i64 n, .string a, .string z, .slice pa l.length pc, .int .u8 (x.toNat : Int)] 54 :: [])) (.q 0 (.q 1 (.q 2 (.q 3 (.q 4 (.q 5 (.q 6 (.q 7 (.q 9 (.q 10 (.q 11 (.q 12 (.q 13 (.alt 8 (.alt 14 (.q 15 (.q 16 (.q 17 (.q 18 (.q 19 (.alt 20 (.q 21 (.q 22 .nil)) .stop)))))) .stop) .stop)))))))))))))) mixed (by decide +kernel) (hL.drew.sub (.cons_cons _ (List.nil_sublist _))) ?_; replace hL := hL.drew; conv => whnf) | (refine V.tailA ttOk mixed (by decide +kernel) ?_; replace hL := hL.drew; conv => whnf) | (refine Both.mk ?_ ?_ <;> conv => whnf) | fail)
    intro n3 c3 q1 q2
    obtain rfl : n3 = l.length := by omega
    conv => whnf
    repeat (first | (refine RunH ?_; intro w hL hB; try clear w) | (refine Both.mk ?_ ?_ <;> conv => whnf) | fail)
    refine (append_fn a ha6 _ l (fun w' h => ?_) (clD (F' := _ :: _ :: (F ++ dR)) hL hB)).mono fun r w ⟨hr, hD⟩ => ?_
    · have h1 : Sl w' (.slice (some ⟨g, 0, none⟩) (l.length + 1) c) (bv (l ++ [171])) := RowC.sl (show RowC w' 5 _ (l ++ [(171 : UInt8)]).length (bv (l ++ [171])) from h.at (i := 1) rfl)
      have := h1.take (k := l.length) (by simp) (c' := c3) (by omega) (by omega)
      rwa [← bv_take, List.take_left' rfl] at this
    subst hr
    clear clD hL hB
    obtain ⟨dD, hL, hB, clD⟩ := hD.open
    clear hD
    replace hL := Sep.swl (F := _ :: _ :: F) hL
    conv => whnf
    refine ⟨hL.sub (.cons_cons _ (List.nil_sublist _)), ?_⟩
    conv => whnf
    repeat (first | (refine RunH ?_; intro w hL hB; try clear w) | (refine Both.mk ?_ ?_ <;> conv => whnf) | fail)
    refine (appendR_fn a ha7 _ l (by omega) (fun w' h => p1 _ h) (clR (F' := _ :: _ :: (F ++ dD)) hL hB)).mono fun r w ⟨hr, R', hp', hD⟩ => ?_
    subst hr
    clear clR hL hB
    replace hp' := hp'.trans (appS_perm hnd hp room a l)
    rw [appE_perm hnd hp]
    obtain ⟨dR, hL, hB, clR⟩ := hD.open
    clear hD
    conv => whnf
    refine ⟨hL.sub (.cons_cons _ (List.nil_sublist _)), ?_⟩
    conv => whnf
    repeat (first | (refine RunH ?_; intro w hL hB; try clear w) | (refine Both.mk ?_ ?_ <;> conv => whnf) | fail)
    refine (stands_fn _ _ l [] _ (RowC.sl (show RowC w 5 _ (l ++ [(171 : UInt8)]).length (bv (l ++ [171])) from hL.at (i := 1) rfl)) (p1 _ hL) (by omega)).mono fun r w ⟨hr, hw⟩ => ?_
    subst hr
    replace hL := hL.call hB (Turns.of_below hw)
    replace hB := Nat.le_trans hB hw.size
    conv => whnf
    refine ⟨hL.sub (.cons_cons _ (List.nil_sublist _)), ?_⟩
    conv => whnf
    repeat (first | (refine RunH ?_; intro w hL hB; try clear w) | (refine Both.mk ?_ ?_ <;> conv => whnf) | fail)
    refine (spoil_fn _ (l ++ [171]) (by simp; omega) (hL.perm (.swap _ _ _)) hB).mono fun r w ⟨hL, hB⟩ => ?_
    conv => whnf
    repeat (first | (refine RunH ?_; intro w hL hB; try clear w) | (refine Both.mk ?_ ?_ <;> conv => whnf) | fail)
    exact ⟨rfl, _, (Two.mk' (F := _ :: F) hp' (clR (F' := _ :: (F ++ dD)) hL hB) clD).tl⟩
  by_cases h2 : kind = 2
  · subst h2
    repeat (first | (refine RunH ?_; intro w hL hB; try clear w) | (refine Both.mk ?_ ?_ <;> conv => whnf) | fail)
    refine (read_fn a ha6 (clD (F' := _ :: (F ++ dR)) hL hB)).mono fun r w hD => ?_
    clear clD hL hB
    have hgp := getS_perm hnd hp a
    cases hg : getS S a with
    | none =>
      rw [hg] at hD hgp
      obtain ⟨hr, hD⟩ := hD
      subst hr
      obtain ⟨dD, hL, hB, clD⟩ := hD.open
      clear hD
      replace hL := Sep.swl (F := _ :: F) hL
      conv => whnf
      repeat (first | (refine RunH ?_; intro w hL hB; try clear w) | (refine Both.mk ?_ ?_ <;> conv => whnf) | fail)
      refine (readR4_fn a (clR (F' := _ :: (F ++ dD)) hL hB)).mono fun r w hD => ?_
      clear clR hL hB
      rw [hgp] at hD
      obtain ⟨hr, hD⟩ := hD
      subst hr
      obtain ⟨dR, hL, hB, clR⟩ := hD.open
      clear hD
      conv => whnf
      repeat (first | (refine RunH ?_; intro w hL hB; try clear w) | (refine Both.mk ?_ ?_ <;> conv => whnf) | fail)
      refine (same_fn _ _ [] [] _ (Sl.nil _) (Sl.nil _)).mono fun r w ⟨hr, hw⟩ => ?_
      subst hr
      replace hL := hL.call hB (Turns.of_below hw)
      replace hB := Nat.le_trans hB hw.size
      rw [decide_eq_true rfl]
      conv => whnf
      repeat (first | (refine RunH ?_; intro w hL hB; try clear w) | (refine Both.mk ?_ ?_ <;> conv => whnf) | fail)
      refine (spoil_fn _ [] (by simp) (hL.nilC 5) hB).mono fun r w ⟨hL, hB⟩ => ?_
      conv => whnf
      repeat (first | (refine RunH ?_; intro w hL hB; try clear w) | (refine Both.mk ?_ ?_ <;> conv => whnf) | fail)
      exact ⟨rfl, _, (Two.mk' (F := _ :: F) hp (clR (F' := _ :: (F ++ dD)) hL hB) clD).tl⟩
    | some f =>
      rw [hg] at hD hgp
      obtain ⟨u, hr, hD⟩ := hD
      subst hr
      have hfl : f.d.length ≤ 1073741824 := hD.big hg
      obtain ⟨dD, hL, hB, clD⟩ := hD.open
      clear hD
      replace hL := Sep.swl (F := _ :: _ :: F) hL
      obtain ⟨ua, uc, rfl⟩ := (show SlN w 1 u _ _ from hL.rowN (i := 0) rfl).shape
      conv => whnf
      repeat (first | (refine RunH ?_; intro w hL hB; try clear w) | (refine Both.mk ?_ ?_ <;> conv => whnf) | fail)
      refine (readR4_fn a (clR (F' := _ :: _ :: (F ++ dD)) hL hB)).mono fun r w hD => ?_
      clear clR hL hB
      rw [hgp] at hD
      obtain ⟨v, hr, hD⟩ := hD
      subst hr
      obtain ⟨dR, hL, hB, clR⟩ := hD.open
      clear hD
      obtain ⟨xa, xc, rfl⟩ := (show SlN w 1 v _ _ from hL.rowN (i := 0) rfl).shape
      conv => whnf
      repeat (first | (refine RunH ?_; intro w hL hB; try clear w) | (refine Both.mk ?_ ?_ <;> conv => whnf) | fail)
      refine (same_fn _ _ f.d f.d _ (hL.row (i := 1) rfl) (hL.row (i := 0) rfl)).mono fun r w ⟨hr, hw⟩ => ?_
      subst hr
      replace hL := hL.call hB (Turns.of_below hw)
      replace hB := Nat.le_trans hB hw.size
      rw [decide_eq_true rfl]
      conv => whnf
      repeat (first | (refine RunH ?_; intro w hL hB; try clear w) | (refine Both.mk ?_ ?_ <;> conv => whnf) | fail)
      have hL3 := hL.tl.says (R' := .rc 5 (.slice ua f.d.length uc) f.d.length (bv f.d)) (RowC.of_own (hL.tl.ownR (i := 0) rfl)) rfl
      refine (spoil_fn _ f.d (by omega) hL3 hB).mono fun r w ⟨hL, hB⟩ => ?_
      conv => whnf
      repeat (first | (refine RunH ?_; intro w hL hB; try clear w) | (refine Both.mk ?_ ?_ <;> conv => whnf) | fail)
      exact ⟨rfl, _, (Two.mk' (F := _ :: F) hp (clR (F' := _ :: (F ++ dD)) hL hB) clD).tl⟩
  by_cases h3 : kind = 3
  · subst h3
    repeat (first | (refine RunK ?_; intro w hL hB; try clear w) | (refine V.tree ttOk (fun x0 => Sep Try.prog _ w0 x0 (.blk t5 [.int .i64 3, .int .i64 n, .string a, .string z, .slice pa l.length pc, .int .u8 (x.toNat : Int)] 54 :: [])) (.q 0 (.q 1 (.q 2 (.q 4 (.q 5 (.q 6 (.alt 3 (.alt 7 (.q 8 (.q 9 .nil)) .stop) .stop))))))) mixed (by decide +kernel) (hL.drew.sub (.cons_cons _ (List.nil_sublist _))) ?_; replace hL := hL.drew; conv => whnf) | (refine V.tailA ttOk mixed (by decide +kernel) ?_; replace hL := hL.drew; conv => whnf) | (refine Both.mk ?_ ?_ <;> conv => whnf) | fail)
    refine (sync_fn a ha6 (clD (F' := _ :: (F ++ dR)) hL hB)).mono fun r w ⟨hr, hD⟩ => ?_
    subst hr
    clear clD hL hB
    obtain ⟨dD, hL, hB, clD⟩ := hD.open
    clear hD
    replace hL := Sep.swl (F := _ :: F) hL
    conv => whnf
    refine ⟨hL.sub (.cons_cons _ (List.nil_sublist _)), ?_⟩
    conv => whnf
    repeat (first | (refine RunH ?_; intro w hL hB; try clear w) | (refine Both.mk ?_ ?_ <;> conv => whnf) | fail)
    refine (syncR_fn a (clR (F' := _ :: (F ++ dD)) hL hB)).mono fun r w ⟨hr, hD⟩ => ?_
    subst hr
    clear clR hL hB
    have hp' := syncS_perm hnd hp a
    rw [getS_perm hnd hp]
    obtain ⟨dR, hL, hB, clR⟩ := hD.open
    clear hD
    conv => whnf
    refine ⟨hL.sub (.cons_cons _ (List.nil_sublist _)), ?_⟩
    conv => whnf
    repeat (first | (refine RunH ?_; intro w hL hB; try clear w) | (refine Both.mk ?_ ?_ <;> conv => whnf) | fail)
    exact ⟨by simp, _, (Two.mk' (F := _ :: F) hp' (clR (F' := _ :: (F ++ dD)) hL hB) clD).tl⟩
  by_cases h4 : kind = 4
  · subst h4
    repeat (first | (refine RunK ?_; intro w hL hB; try clear w) | (refine V.tree ttOk (fun x0 => Sep Try.prog _ w0 x0 (.blk t5 [.int .i64 4, .int .i64 n, .string a, .string z, .slice pa l.length pc, .int .u8 (x.toNat : Int)] 54 :: [])) (.q 0 (.q 1 (.q 2 (.q 3 (.q 4 (.q 6 (.q 7 (.q 8 (.q 9 (.q 10 (.alt 5 (.alt 11 (.q 12 (.q 13 .nil)) .stop) .stop))))))))))) mixed (by decide +kernel) (hL.drew.sub (.cons_cons _ (List.nil_sublist _))) ?_; replace hL := hL.drew; conv => whnf) | (refine V.tailA ttOk mixed (by decide +kernel) ?_; replace hL := hL.drew; conv => whnf) | (refine Both.mk ?_ ?_ <;> conv => whnf) | fail)
    refine (rename_fn a z ha6 hz6 (clD (F' := _ :: (F ++ dR)) hL hB)).mono fun r w ⟨hr, hD⟩ => ?_
    subst hr
    clear clD hL hB
    obtain ⟨dD, hL, hB, clD⟩ := hD.open
    clear hD
    replace hL := Sep.swl (F := _ :: F) hL
    conv => whnf
    refine ⟨hL.sub (.cons_cons _ (List.nil_sublist _)), ?_⟩
    conv => whnf
    repeat (first | (refine RunH ?_; intro w hL hB; try clear w) | (refine Both.mk ?_ ?_ <;> conv => whnf) | fail)
    refine (renameR_fn a z ha7 hz7 (clR (F' := _ :: (F ++ dD)) hL hB)).mono fun r w ⟨hr, R', hp', hD⟩ => ?_
    subst hr
    clear clR hL hB
    replace hp' : R'.Perm (if renE S a z = 1 then S else renS S a z) := hp'.trans (by rw [renE_perm hnd hp]; split; exact hp; exact renS_perm hnd hp a z)
    rw [renE_perm hnd hp]
    obtain ⟨dR, hL, hB, clR⟩ := hD.open
    clear hD
    conv => whnf
    refine ⟨hL.sub (.cons_cons _ (List.nil_sublist _)), ?_⟩
    conv => whnf
    repeat (first | (refine RunH ?_; intro w hL hB; try clear w) | (refine Both.mk ?_ ?_ <;> conv => whnf) | fail)
    exact ⟨by simp, _, (Two.mk' (F := _ :: F) hp' (clR (F' := _ :: (F ++ dD)) hL hB) clD).tl⟩
  by_cases h5 : kind = 5
  · subst h5
    repeat (first | (refine RunK ?_; intro w hL hB; try clear w) | (refine V.tree ttOk (fun x0 => Sep Try.prog _ w0 x0 (.blk t5 [.int .i64 5, .int .i64 n, .string a, .string z, .slice pa l.length pc, .int .u8 (x.toNat : Int)] 54 :: [])) (.q 0 (.q 1 (.q 2 (.q 4 (.q 5 (.q 6 (.alt 3 (.alt 7 (.q 8 (.q 9 .nil)) .stop) .stop))))))) mixed (by decide +kernel) (hL.drew.sub (.cons_cons _ (List.nil_sublist _))) ?_; replace hL := hL.drew; conv => whnf) | (refine V.tailA ttOk mixed (by decide +kernel) ?_; replace hL := hL.drew; conv => whnf) | (refine Both.mk ?_ ?_ <;> conv => whnf) | fail)
    refine (remove_fn a ha6 (clD (F' := _ :: (F ++ dR)) hL hB)).mono fun r w ⟨hr, hD⟩ => ?_
    subst hr
    clear clD hL hB
    obtain ⟨dD, hL, hB, clD⟩ := hD.open
    clear hD
    replace hL := Sep.swl (F := _ :: F) hL
    conv => whnf
    refine ⟨hL.sub (.cons_cons _ (List.nil_sublist _)), ?_⟩
    conv => whnf
    repeat (first | (refine RunH ?_; intro w hL hB; try clear w) | (refine Both.mk ?_ ?_ <;> conv => whnf) | fail)
    refine (removeR_fn a (clR (F' := _ :: (F ++ dD)) hL hB)).mono fun r w ⟨hr, hD⟩ => ?_
    subst hr
    clear clR hL hB
    have hp' := delS_perm hnd hp a
    rw [getS_perm hnd hp]
    obtain ⟨dR, hL, hB, clR⟩ := hD.open
    clear hD
    conv => whnf
    refine ⟨hL.sub (.cons_cons _ (List.nil_sublist _)), ?_⟩
    conv => whnf
    repeat (first | (refine RunH ?_; intro w hL hB; try clear w) | (refine Both.mk ?_ ?_ <;> conv => whnf) | fail)
    exact ⟨by simp, _, (Two.mk' (F := _ :: F) hp' (clR (F' := _ :: (F ++ dD)) hL hB) clD).tl⟩
  by_cases h6 : kind = 6
  · subst h6
    repeat (first | (refine RunK ?_; intro w hL hB; try clear w) | (refine V.tree ttOk (fun x0 => Sep Try.prog _ w0 x0 (.blk t5 [.int .i64 6, .int .i64 n, .string a, .string z, .slice pa l.length pc, .int .u8 (x.toNat : Int)] 54 :: [])) (.q 0 (.q 1 (.q 2 (.q 3 (.q 4 (.q 6 (.q 7 (.q 8 (.q 9 (.q 10 (.alt 5 (.alt 11 (.q 12 (.q 13 .nil)) .stop) .stop))))))))))) mixed (by decide +kernel) (hL.drew.sub (.cons_cons _ (List.nil_sublist _))) ?_; replace hL := hL.drew; conv => whnf) | (refine V.tailA ttOk mixed (by decide +kernel) ?_; replace hL := hL.drew; conv => whnf) | (refine Both.mk ?_ ?_ <;> conv => whnf) | fail)
    refine (cut_fn a ha6 n (clD (F' := _ :: (F ++ dR)) hL hB)).mono fun r w ⟨hr, hD⟩ => ?_
    subst hr
    clear clD hL hB
    obtain ⟨dD, hL, hB, clD⟩ := hD.open
    clear hD
    replace hL := Sep.swl (F := _ :: F) hL
    conv => whnf
    refine ⟨hL.sub (.cons_cons _ (List.nil_sublist _)), ?_⟩
    conv => whnf
    repeat (first | (refine RunH ?_; intro w hL hB; try clear w) | (refine Both.mk ?_ ?_ <;> conv => whnf) | fail)
    refine (cutR_fn a n (clR (F' := _ :: (F ++ dD)) hL hB)).mono fun r w ⟨hr, hD⟩ => ?_
    subst hr
    clear clR hL hB
    have hp' := cutS_perm hnd hp a n
    rw [cutE_perm hnd hp]
    obtain ⟨dR, hL, hB, clR⟩ := hD.open
    clear hD
    conv => whnf
    refine ⟨hL.sub (.cons_cons _ (List.nil_sublist _)), ?_⟩
    conv => whnf
    repeat (first | (refine RunH ?_; intro w hL hB; try clear w) | (refine Both.mk ?_ ?_ <;> conv => whnf) | fail)
    exact ⟨by simp, _, (Two.mk' (F := _ :: F) hp' (clR (F' := _ :: (F ++ dD)) hL hB) clD).tl⟩
  by_cases h7 : kind = 7
  · subst h7
    repeat (first | (refine RunH ?_; intro w hL hB; try clear w) | (refine Both.mk ?_ ?_ <;> conv => whnf) | fail)
    refine (crash_fn n hn.2 (clD (F' := _ :: (F ++ dR)) hL hB)).mono fun r w hD => ?_
    clear clD hL hB
    obtain ⟨dD, hL, hB, clD⟩ := hD.open
    clear hD
    replace hL := Sep.swl (F := _ :: F) hL
    conv => whnf
    repeat (first | (refine RunH ?_; intro w hL hB; try clear w) | (refine Both.mk ?_ ?_ <;> conv => whnf) | fail)
    refine (crashR_fn n hn (clR (F' := _ :: (F ++ dD)) hL hB)).mono fun r w hD => ?_
    clear clR hL hB
    have hp' := crashS_perm hp n
    obtain ⟨dR, hL, hB, clR⟩ := hD.open
    clear hD
    conv => whnf
    repeat (first | (refine RunH ?_; intro w hL hB; try clear w) | (refine Both.mk ?_ ?_ <;> conv => whnf) | fail)
    exact ⟨rfl, _, (Two.mk' (F := _ :: F) hp' (clR (F' := _ :: (F ++ dD)) hL hB) clD).tl⟩
  repeat (first | (refine RunK ?_; intro w hL hB; try clear w) | (refine V.tree ttOk (fun x0 => Sep Try.prog _ w0 x0 (.blk t5 [.int .i64 kind, .int .i64 n, .string a, .string z, .slice pa l.length pc, .int .u8 (x.toNat : Int)] 54 :: [])) (.q 0 (.q 1 (.q 2 (.q 3 (.q 4 (.q 5 (.q 6 (.q 8 (.q 9 (.q 10 (.q 11 (.q 12 (.q 13 (.q 14 (.alt 7 (.alt 15 (.q 16 (.q 17 .nil)) .stop) .stop))))))))))))))) mixed (by decide +kernel) (hL.drew.sub (.cons_cons _ (List.nil_sublist _))) ?_; replace hL := hL.drew; conv => whnf) | (refine V.tailA ttOk mixed (by decide +kernel) ?_; replace hL := hL.drew; conv => whnf) | (refine Both.mk ?_ ?_ <;> conv => whnf) | fail)
  refine (rot_fn a ha6 n x (clD (F' := _ :: (F ++ dR)) hL hB)).mono fun r w ⟨hr, hD⟩ => ?_
  subst hr
  clear clD hL hB
  obtain ⟨dD, hL, hB, clD⟩ := hD.open
  clear hD
  replace hL := Sep.swl (F := _ :: F) hL
  conv => whnf
  refine ⟨hL.sub (.cons_cons _ (List.nil_sublist _)), ?_⟩
  conv => whnf
  repeat (first | (refine RunH ?_; intro w hL hB; try clear w) | (refine Both.mk ?_ ?_ <;> conv => whnf) | fail)
  refine (rotR_fn a n x (clR (F' := _ :: (F ++ dD)) hL hB)).mono fun r w ⟨hr, hD⟩ => ?_
  subst hr
  clear clR hL hB
  have hp' := rotS_perm hnd hp a n x
  rw [rotE_perm hnd hp]
  obtain ⟨dR, hL, hB, clR⟩ := hD.open
  clear hD
  conv => whnf
  refine ⟨hL.sub (.cons_cons _ (List.nil_sublist _)), ?_⟩
  conv => whnf
  repeat (first | (refine RunH ?_; intro w hL hB; try clear w) | (refine Both.mk ?_ ?_ <;> conv => whnf) | fail)
  exact ⟨by simp, _, (Two.mk' (F := _ :: F) hp' (clR (F' := _ :: (F ++ dD)) hL hB) clD).tl⟩
end Go.Proofs.Ytpfmnpkjhnbkhaa
