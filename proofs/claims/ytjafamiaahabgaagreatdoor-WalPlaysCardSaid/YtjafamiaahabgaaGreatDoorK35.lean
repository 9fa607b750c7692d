/- wal: no log, no disk; Bounds of a log. wal: known. Nothing is claimed here. -/
import Derived.Test.YtjafamiaahabgaaGreatDoorK30
import Derived.Test.YtjafamiaahabgaaGreatDoorK26
import Derived.WalkSmall
namespace Go.Proofs.YtjafamiaahabgaaGreatDoor
open Go.RowKit Go.Lib
set_option linter.unusedVariables false
set_option linter.unusedSimpArgs false
set_option maxRecDepth 100000

theorem nilAppend_fn (v : Value) (w : World) : Fn Tryz.prog 9 #[.pointer none, v] w fun r w' => r = .tuple #[.int .i64 0, .int .i64 1] ∧ w' = w := by
  have hL := Sep.start Tryz.prog w
  have hB := Nat.le_refl w.heap.size
  refine Fn.mk Tryz.func9 rfl (by kernel_rfl) Tryz.ntmps9 rfl (by rw [Tryz.results9]) ?_
  refine RunR ?_
  exact ⟨rfl, rfl⟩
theorem nilGet_fn (i : Int) (w : World) : Fn Tryz.prog 13 #[.pointer none, .int .i64 i] w fun r w' => r = .tuple #[.slice none 0 0, .int .i64 7] ∧ w' = w := by
  refine Fn.mk Tryz.func13 rfl (by kernel_rfl) Tryz.ntmps13 rfl (by rw [Tryz.results13]) ?_
  refine RunR ?_
  exact ⟨rfl, rfl⟩
theorem nilBounds_fn (w : World) : Fn Tryz.prog 12 #[.pointer none] w fun r w' => r = .tuple #[.int .i64 0, .int .i64 0] ∧ w' = w := by
  refine Fn.mk Tryz.func12 rfl (by kernel_rfl) Tryz.ntmps12 rfl (by rw [Tryz.results12]) ?_
  refine RunR ?_
  exact ⟨rfl, rfl⟩
theorem nilSync_fn (w : World) : Fn Tryz.prog 11 #[.pointer none] w fun r w' => r = .int .i64 1 ∧ w' = w := by
  refine Fn.mk Tryz.func11 rfl (by kernel_rfl) Tryz.ntmps11 rfl (by rw [Tryz.results11]) ?_
  refine RunR ?_
  exact ⟨rfl, rfl⟩
theorem nilMay_fn (i : Int) (w : World) : Fn Tryz.prog 35 #[.pointer none, .int .i64 i] w fun r w' => r = .bool false ∧ w' = w := by
  refine Fn.mk Tryz.func35 rfl (by kernel_rfl) Tryz.ntmps35 rfl (by rw [Tryz.results35]) ?_
  refine RunR ?_
  refine (nilBounds_fn w).mono fun r w1 ⟨hr, hw⟩ => ?_
  subst hr; rw [hw]
  conv => whnf
  refine RunR ?_
  exact ⟨rfl, rfl⟩
theorem nilCut_fn (i : Int) (w : World) : Fn Tryz.prog 16 #[.pointer none, .int .i64 i] w fun r w' => r = .int .i64 1 ∧ w' = w := by
  refine Fn.mk Tryz.func16 rfl (by kernel_rfl) Tryz.ntmps16 rfl (by rw [Tryz.results16]) ?_
  refine RunR ?_
  refine (nilMay_fn i w).mono fun r w1 ⟨hr, hw⟩ => ?_
  subst hr; rw [hw]
  conv => whnf
  refine RunR ?_
  exact ⟨rfl, rfl⟩
theorem nilDrop_fn (i : Int) (w : World) : Fn Tryz.prog 10 #[.pointer none, .int .i64 i] w fun r w' => r = .int .i64 1 ∧ w' = w := by
  refine Fn.mk Tryz.func10 rfl (by kernel_rfl) Tryz.ntmps10 rfl (by rw [Tryz.results10]) ?_
  refine RunR ?_
  refine (nilMay_fn i w).mono fun r w1 ⟨hr, hw⟩ => ?_
  subst hr; rw [hw]
  conv => whnf
  refine RunR ?_
  exact ⟨rfl, rfl⟩
theorem nilOpen_fn (pre : ByteArray) (w : World) : Fn Tryz.prog 8 #[.pointer none, .string pre] w fun r w' => r = .tuple #[.pointer none, .int .i64 1] ∧ w' = w := by
  refine Fn.mk Tryz.func8 rfl (by kernel_rfl) Tryz.ntmps8 rfl (by rw [Tryz.results8]) ?_
  refine RunR ?_
  exact ⟨rfl, rfl⟩
theorem logBounds_fn {B d l room : Nat} {pre : ByteArray} {S : List Fl} {G : List Wg} {af : Nat} {F : List Res} {w0 w : World} (hG : LgS B w0 w d l pre room S G af F) :
    Fn Tryz.prog 12 #[.pointer (some ⟨l, 0, none⟩)] w fun r w' => r = .tuple #[.int .i64 (lowW G af : Int), .int .i64 (af : Int)] ∧ LgS B w0 w' d l pre room S G af F := by
  obtain ⟨n, sg, rfl, hok, hD⟩ := hG.of
  obtain ⟨dL, hL, hB, close⟩ := hD.open
  have hsl : Sl w (n.val (ptrs sg)) (ptrs sg) := Wn.sl hok hL (fun R hR => by simp [logR]; exact .inr (.inl hR))
  refine (bounds_fn (fi := lowW (sg.map Sg.wg) af) w (hL.hold (.blk l (logC d pre n sg af) 65) (.head _)) hsl (fun h => by
    cases sg with
    | nil => rfl
    | cons s r => cases h) (fun p ps' h => by
    cases sg with
    | nil => cases h
    | cons s r =>
      injection h with h1 h2
      exact ⟨s.b, _, _, _, h1.symm, hL.hold s.hd (by simp [logR, Sg.res])⟩)).mono fun r w ⟨hr, hw⟩ => ?_
  exact ⟨hr, ⟨n, sg, rfl, hok, close (F' := logR l d pre n sg af ++ F) (hL.call hB (Turns.of_below hw)) (Nat.le_trans hB hw.size)⟩⟩
end Go.Proofs.YtjafamiaahabgaaGreatDoor
namespace Go.Proofs.YtjafamiaahabgaaGreatDoor
open Go.RowKit Go.Lib
set_option linter.unusedVariables false
set_option linter.unusedSimpArgs false
set_option maxRecDepth 100000

theorem tab_belowW {P : Program} {w0 w : World} {name : String} {k : IntKind} {zs : List Int} (h : TabIs P w0 name k zs) (hb : Below w0.heap.size w0 w) : TabIs P w name k zs := by
  unfold TabIs at *
  cases hg : P.globalNamed name with
  | none => simp [World.var?, hg] at h
  | some g =>
    refine var?_below hb hg ?_ h
    refine Nat.lt_of_not_le fun hge => ?_
    simp only [World.var?, hg, Option.bind_some] at h
    rw [Array.getElem?_eq_none hge] at h
    cases h
theorem LgS.opn {B : Nat} {w0 w : World} {d l : Nat} {pre : ByteArray} {room : Nat} {S : List Fl} {G : List Wg} {af : Nat} {F : List Res} (h : LgS B w0 w d l pre room S G af F) :
    ∃ X, Sep Tryz.prog B w0 w (F ++ X) ∧ B ≤ w.heap.size ∧ ∀ {w' : World} {F' : List Res}, Sep Tryz.prog B w0 w' (F' ++ X) → B ≤ w'.heap.size → LgS B w0 w' d l pre room S G af F' := by
  obtain ⟨n, sg, h1, hok, hD⟩ := h.of
  obtain ⟨dL, hL, hB, close⟩ := hD.open
  have hp : ∀ F' : List Res, ((logR l d pre n sg af ++ F') ++ dL).Perm (F' ++ (logR l d pre n sg af ++ dL)) := fun F' => by
    rw [List.append_assoc]; exact List.perm_append_comm_assoc _ _ _
  exact ⟨_, hL.perm (hp F), hB, fun hL hB => ⟨n, sg, h1, hok, close (hL.perm (hp _).symm) hB⟩⟩
theorem LgS.disk {B : Nat} {w0 w : World} {d l : Nat} {pre : ByteArray} {room : Nat} {S : List Fl} {G : List Wg} {af : Nat} {F : List Res} (h : LgS B w0 w d l pre room S G af F) : DkS B w0 w d room S F := by
  obtain ⟨n, sg, h1, hok, hD⟩ := h.of
  exact hD.sub (List.sublist_append_right _ _)
def wB : ByteArray := ⟨#[119]⟩
def r1W : List UInt8 := encF (encU 1 ++ [97])
def r2W : List UInt8 := encF (encU 2 ++ [98])
def r3W : List UInt8 := encF (encU 3 ++ [99])
theorem k_nm : (wnm wB 1).size = 10 := wnm_size (by decide)
theorem k_l1 : r1W.length = 10 := by rw [r1W, encF_len]; decide
theorem k_l2 : r2W.length = 10 := by rw [r2W, encF_len]; decide
theorem k_l3 : r3W.length = 10 := by rw [r3W, encF_len]; decide
theorem k_r1 : recL 1 [97] = 10 := by decide
theorem k_r2 : recL 2 [98] = 10 := by decide
theorem k_r3 : recL 3 [99] = 10 := by decide
theorem k_e1 : apE wB 10000 [] [] 1 [97] = 0 ∧ apS wB 10000 [] [] 1 [97] = [⟨wnm wB 1, r1W, 0⟩] ∧ apG [] 1 [97] = [⟨1, [[97]], true⟩] := by
  have h : appE 10000 [] (wnm wB 1) 10 = 0 := by simp [appE, k_nm, getS, totS]
  refine ⟨?_, ?_, rfl⟩
  · rw [apE, if_neg (by decide), if_neg (by decide), show takesW [] 1 = 1 from rfl, k_r1]; exact h
  · rw [apS, if_neg (by decide), show takesW [] 1 = 1 from rfl, show encF (encU 1 ++ [97]) = r1W from rfl, appS, k_l1, if_pos h]; rfl
theorem k_e2 (g : Wg) (hg : g.first = 1 ∧ g.size < 1024) (D x : List UInt8) (la n : Nat) (hx : x.length ≤ 100) (hn : n < 1000) (hD : D.length + recL n x ≤ 1000) (hl : (encF (encU n ++ x)).length = recL n x) :
    apE wB 10000 [⟨wnm wB 1, D, la⟩] [g] n x = 0 ∧ apS wB 10000 [⟨wnm wB 1, D, la⟩] [g] n x = [⟨wnm wB 1, D ++ encF (encU n ++ x), la⟩] ∧ apG [g] n x = [⟨1, g.es ++ [x], true⟩] := by
  have ht : takesW [g] n = 1 := by simp [takesW, lastW, hg.1]; omega
  have h : appE 10000 [⟨wnm wB 1, D, la⟩] (wnm wB 1) (recL n x) = 0 := by
    simp [appE, k_nm, getS, totS]; omega
  refine ⟨?_, ?_, ?_⟩
  · rw [apE, if_neg (by omega), if_neg (by omega), ht]; exact h
  · rw [apS, if_neg (by omega), ht, appS, hl, if_pos h]; simp [putS, appF, getS]
  · have : freshW [g] = false := by simp [freshW, lastW]; omega
    rw [apG, this, if_neg (by simp)]
    simp [putW, hg.1]
theorem names_one (f : Fl) : names [f] = [nmB f.nm] := by simp [names]
theorem k_num : numG wB (wnm wB 1) = some 1 := by decide +kernel
theorem k_rd : rdW 24 1 ((r1W ++ r2W ++ r3W).take 23) = ([[97], [98]], 20) := by decide +kernel
theorem k_open : openG wB [⟨wnm wB 1, (r1W ++ r2W ++ r3W).take 23, 23⟩] = ⟨[⟨1, [[97], [98]], true⟩], 3, [⟨wnm wB 1, r1W ++ r2W, 20⟩], false⟩ := by
  have hl : ((r1W ++ r2W ++ r3W).take 23).length = 23 := by rw [List.length_take]; simp [k_l1, k_l2, k_l3]
  have hg : getS [(⟨wnm wB 1, (r1W ++ r2W ++ r3W).take 23, 23⟩ : Fl)] (wnm wB 1) = some ⟨wnm wB 1, (r1W ++ r2W ++ r3W).take 23, 23⟩ := by simp [getS]
  have hf : fileD [(⟨wnm wB 1, (r1W ++ r2W ++ r3W).take 23, 23⟩ : Fl)] (wnm wB 1) = (r1W ++ r2W ++ r3W).take 23 := by rw [fileD, hg]
  rw [openG, names_one]
  simp only [List.map_cons, List.map_nil, List.foldl_cons, List.foldl_nil]
  rw [show (⟨(nmB (wnm wB 1)).toArray⟩ : ByteArray) = wnm wB 1 from by simp [nmB], openStep, k_num]
  simp only [if_true]
  rw [readG, if_neg (by simp), hf]
  dsimp only
  rw [hl, k_rd]
  dsimp only
  rw [if_neg (by decide), if_neg (by decide), cutS, hg]
  simp only
  rw [hl, if_neg (by decide)]
  have ht : ((r1W ++ r2W ++ r3W).take 23).take ((20 : Nat) : Int).toNat = r1W ++ r2W := by
    rw [List.take_take, show min ((20 : Nat) : Int).toNat 23 = (r1W ++ r2W).length from by simp [k_l1, k_l2], List.take_left' rfl]
  rw [ht]
  simp [putS]
theorem k_crash : crashS [(⟨wnm wB 1, r1W ++ r2W ++ r3W, 20⟩ : Fl)] 3 = [⟨wnm wB 1, (r1W ++ r2W ++ r3W).take 23, 23⟩] := by
  have hl : (r1W ++ r2W ++ r3W).length = 30 := by simp [k_l1, k_l2, k_l3]
  have hs : stays 3 0 (⟨wnm wB 1, r1W ++ r2W ++ r3W, 20⟩ : Fl) = 23 := by
    simp only [stays, hl]; decide
  rw [crash_one, crash1, hs]
set_option maxHeartbeats 8000000 in
theorem known_fn (w0 : World) (htab : TabIs Tryz.prog w0 "internal/strconv.uint64pow10" .u64 pow10Tab) : Fn Tryz.prog 15 #[] w0 fun r w' => r = .bool true ∧ Below w0.heap.size w0 w' := by
  have ht : TabW w0.heap.size w0 := fun w h => tab_belowW htab h
  have hpw : 1 ≤ wB.size ∧ wB.size ≤ 55 := by decide
  have hL := Sep.start Tryz.prog w0
  have hB := Nat.le_refl w0.heap.size
  refine Fn.mk Tryz.func15 rfl (by kernel_rfl) Tryz.ntmps15 rfl (by rw [Tryz.results15]) ?_
  repeat (first | (refine RunH ?_; intro w hL hB; try clear w) | (refine Both.mk ?_ ?_ <;> conv => whnf) | fail)
  refine (new_fn 10000 hL hB).mono fun r w hr => ?_
  obtain ⟨d, rfl, hD⟩ := hr.1 (by decide)
  clear hr hL hB
  obtain ⟨dL, hL, hB, close⟩ := hD.open
  clear hD
  conv => whnf
  repeat (first | (refine RunH ?_; intro w hL hB; try clear w) | (refine Both.mk ?_ ?_ <;> conv => whnf) | fail)
  refine (logOpen_fn (pre := wB) hpw ht (close (F' := []) hL hB)).mono fun r w ⟨l, hr, hG⟩ => ?_
  have ho : openG wB [] = ⟨[], 1, [], true⟩ := by simp [openG, names]
  rw [ho] at hG
  replace hG : LgS w0.heap.size w0 w d l wB 10000 [] [] 1 [] := hG
  subst hr
  clear hL hB close
  obtain ⟨X, hL, hB, back⟩ := hG.opn
  clear hG
  conv => whnf
  repeat (first | (refine RunH ?_; intro w hL hB; try clear w) | (refine Both.mk ?_ ?_ <;> conv => whnf) | fail)
  refine Rv.lit hL [97] rfl (by decide) hB fun bo w hL hB => ?_
  conv => whnf
  repeat (first | (refine RunH ?_; intro w hL hB; try clear w) | (refine Both.mk ?_ ?_ <;> conv => whnf) | fail)
  refine Rv.sameS ttOk hL 0 tl23 tl5 rfl hB fun w hL hB => ?_
  conv => whnf
  repeat (first | (refine RunH ?_; intro w hL hB; try clear w) | (refine Both.mk ?_ ?_ <;> conv => whnf) | fail)
  refine (logAppend_fn _ [97] (by decide) hpw ht (by decide) (by simp) (by simp) (fun w' h => h.roSl (i := 0) rfl) (back (F' := [_]) hL hB)).mono fun r w ⟨hr, hG⟩ => ?_
  rw [k_e1.1] at hr
  rw [k_e1.1, k_e1.2.1, k_e1.2.2, if_pos rfl, if_pos rfl] at hG
  subst hr
  clear hL hB back
  obtain ⟨X, hL, hB, back⟩ := hG.opn
  clear hG
  replace hL := hL.tl
  conv => whnf
  repeat (first | (refine RunH ?_; intro w hL hB; try clear w) | (refine Both.mk ?_ ?_ <;> conv => whnf) | fail)
  refine Rv.lit hL [98] rfl (by decide) hB fun bo w hL hB => ?_
  conv => whnf
  repeat (first | (refine RunH ?_; intro w hL hB; try clear w) | (refine Both.mk ?_ ?_ <;> conv => whnf) | fail)
  refine Rv.sameS ttOk hL 0 tl23 tl5 rfl hB fun w hL hB => ?_
  conv => whnf
  repeat (first | (refine RunH ?_; intro w hL hB; try clear w) | (refine Both.mk ?_ ?_ <;> conv => whnf) | fail)
  have k2 := k_e2 ⟨1, [[97]], true⟩ ⟨rfl, by decide⟩ r1W [98] 0 2 (by decide) (by decide) (by rw [k_l1, k_r2]; decide) (by rw [k_r2]; exact k_l2)
  refine (logAppend_fn _ [98] (by decide) hpw ht (by decide) (by simp; decide) (by simp [Wg.next]) (fun w' h => h.roSl (i := 0) rfl) (back (F' := [_]) hL hB)).mono fun r w ⟨hr, hG⟩ => ?_
  rw [k2.1] at hr
  rw [k2.1, k2.2.1, k2.2.2, if_pos rfl, if_pos rfl] at hG
  subst hr
  clear hL hB back
  obtain ⟨X, hL, hB, back⟩ := hG.opn
  clear hG
  replace hL := hL.tl
  conv => whnf
  repeat (first | (refine RunH ?_; intro w hL hB; try clear w) | (refine Both.mk ?_ ?_ <;> conv => whnf) | fail)
  refine (logSync_fn hpw ht (by decide) (by simp) (back (F' := []) hL hB)).mono fun r w ⟨hr, hG⟩ => ?_
  have hsy : syncG wB [(⟨wnm wB 1, r1W ++ encF (encU 2 ++ [98]), 0⟩ : Fl)] [(⟨1, [[97]] ++ [[98]], true⟩ : Wg)] = [⟨wnm wB 1, r1W ++ r2W, 20⟩] := by
    have hl : (r1W ++ r2W).length = 20 := by simp [k_l1, k_l2]
    simp only [syncG, List.foldl_cons, List.foldl_nil, syncStep, if_true, syncS, getS]
    rw [show encF (encU 2 ++ [98]) = r2W from rfl]
    simp [putS, hl, k_l1, k_l2]
  rw [hsy] at hG
  replace hG : LgS w0.heap.size w0 w d l wB 10000 [⟨wnm wB 1, r1W ++ r2W, 20⟩] [⟨1, [[97]] ++ [[98]], false⟩] 3 [] := hG
  subst hr
  clear hL hB back
  obtain ⟨X, hL, hB, back⟩ := hG.opn
  clear hG
  conv => whnf
  repeat (first | (refine RunH ?_; intro w hL hB; try clear w) | (refine Both.mk ?_ ?_ <;> conv => whnf) | fail)
  refine Rv.lit hL [99] rfl (by decide) hB fun bo w hL hB => ?_
  conv => whnf
  repeat (first | (refine RunH ?_; intro w hL hB; try clear w) | (refine Both.mk ?_ ?_ <;> conv => whnf) | fail)
  refine Rv.sameS ttOk hL 0 tl23 tl5 rfl hB fun w hL hB => ?_
  conv => whnf
  repeat (first | (refine RunH ?_; intro w hL hB; try clear w) | (refine Both.mk ?_ ?_ <;> conv => whnf) | fail)
  have k3 := k_e2 ⟨1, [[97]] ++ [[98]], false⟩ ⟨rfl, by decide⟩ (r1W ++ r2W) [99] 20 3 (by decide) (by decide) (by rw [List.length_append, k_l1, k_l2, k_r3]; decide) (by rw [k_r3]; exact k_l3)
  refine (logAppend_fn _ [99] (by decide) hpw ht (by decide) (by simp [Wg.clean]; decide) (by simp [Wg.next, Wg.clean]) (fun w' h => h.roSl (i := 0) rfl) (back (F' := [_]) hL hB)).mono fun r w ⟨hr, hG⟩ => ?_
  rw [k3.1] at hr
  rw [k3.1, k3.2.1, k3.2.2, if_pos rfl, if_pos rfl] at hG
  subst hr
  clear hL hB back
  obtain ⟨dL, hL, hB, close⟩ := hG.disk.open
  clear hG
  conv => whnf
  repeat (first | (refine RunH ?_; intro w hL hB; try clear w) | (refine Both.mk ?_ ?_ <;> conv => whnf) | fail)
  refine (crash_fn 3 (by decide) (close (F' := [_]) hL hB)).mono fun r w hD => ?_
  rw [show r1W ++ r2W ++ encF (encU 3 ++ [99]) = r1W ++ r2W ++ r3W from rfl, k_crash] at hD
  clear hL hB close
  obtain ⟨dL, hL, hB, close⟩ := hD.open
  clear hD
  conv => whnf
  repeat (first | (refine RunH ?_; intro w hL hB; try clear w) | (refine Both.mk ?_ ?_ <;> conv => whnf) | fail)
  refine (logOpen_fn (pre := wB) hpw ht (close (F' := [_]) hL hB)).mono fun r w ⟨m, hr, hG⟩ => ?_
  rw [k_open] at hG
  replace hG : LgS w0.heap.size w0 w d m wB 10000 [⟨wnm wB 1, r1W ++ r2W, 20⟩] [⟨1, [[97], [98]], true⟩] 3 _ := hG
  subst hr
  clear hL hB close
  obtain ⟨X, hL, hB, back⟩ := hG.opn
  clear hG
  conv => whnf
  repeat (first | (refine RunH ?_; intro w hL hB; try clear w) | (refine Both.mk ?_ ?_ <;> conv => whnf) | fail)
  refine (logBounds_fn (back hL hB)).mono fun r w ⟨hr, hG⟩ => ?_
  subst hr
  clear hL hB back
  obtain ⟨X, hL, hB, back⟩ := hG.opn
  conv => whnf
  repeat (first | (refine RunH ?_; intro w hL hB; try clear w) | (refine Both.mk ?_ ?_ <;> conv => whnf) | fail)
  exact ⟨rfl, hL.below⟩
end Go.Proofs.YtjafamiaahabgaaGreatDoor
