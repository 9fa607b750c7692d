/- ClientSure, walked. Nothing is claimed here. -/
import Derived.Test.YtcjnaljdbbjojaaGreatDoorClv
namespace Go.Proofs.YtcjnaljdbbjojaaGreatDoor
open Go.RowKit
open Go.Maps (Keyed)
set_option linter.unusedVariables false
set_option linter.unusedSimpArgs false
set_option maxRecDepth 100000

set_option maxHeartbeats 32000000 in
theorem clientSure_fn (vol key ck : Int) (dv0 : Value) (d : List UInt8) (wr : Bool) (w0 : World) (hck : 0 ≤ ck ∧ ck < 4294967296) (hk0 : 0 ≤ key) (hd : Sl w0 dv0 (bv d)) :
    Fn Tryz.prog 6 #[.agg #[.int .i64 vol, .int .u64 key, .int .u32 ck], dv0, .bool wr] w0 fun r w' => r = .bool true ∧ Below w0.heap.size w0 w' := by
  have hle := hd.le
  obtain ⟨da, dc, rfl⟩ := hd.shape
  rw [bv_length] at hd hle ⊢
  have hL := Sep.start Tryz.prog w0
  have hB := Nat.le_refl w0.heap.size
  have hkn := fun w (hb : Below w0.heap.size w0 w) => (known_fn w).mono fun r w' (h : r = .bool true ∧ Below w.heap.size w w') => (⟨h.1, hb.trans (h.2.mono hb.size)⟩ : r = .bool true ∧ Below w0.heap.size w0 w')
  refine Fn.mk Tryz.func6 rfl (by kernel_rfl) Tryz.ntmps6 rfl (by rw [Tryz.results6]) ?_
  repeat (first | (refine RunH ?_; intro w hL hB; try clear w) | (refine Both.mk ?_ ?_ <;> conv => whnf) | fail)
  (refine Nw.sep hL hB (fun fb w hL hB hfb => ?_); conv => whnf)
  by_cases h1 : vol < 1
  · skip
    repeat (first | (refine RunH ?_; intro w hL hB; try clear w) | (refine Both.mk ?_ ?_ <;> conv => whnf) | fail)
    refine (hkn _ hL.below).mono fun r w ⟨hr, hb⟩ => ?_
    subst hr
    conv => whnf
    repeat (first | (refine RunH ?_; intro w hL hB; try clear w) | (refine Both.mk ?_ ?_ <;> conv => whnf) | fail)
    exact ⟨rfl, hb⟩
  by_cases h2 : 99999999 < vol
  · skip
    repeat (first | (refine RunH ?_; intro w hL hB; try clear w) | (refine Both.mk ?_ ?_ <;> conv => whnf) | fail)
    refine (hkn _ hL.below).mono fun r w ⟨hr, hb⟩ => ?_
    subst hr
    conv => whnf
    repeat (first | (refine RunH ?_; intro w hL hB; try clear w) | (refine Both.mk ?_ ?_ <;> conv => whnf) | fail)
    exact ⟨rfl, hb⟩
  by_cases h3 : key < 1
  · skip
    repeat (first | (refine RunH ?_; intro w hL hB; try clear w) | (refine Both.mk ?_ ?_ <;> conv => whnf) | fail)
    refine (hkn _ hL.below).mono fun r w ⟨hr, hb⟩ => ?_
    subst hr
    conv => whnf
    repeat (first | (refine RunH ?_; intro w hL hB; try clear w) | (refine Both.mk ?_ ?_ <;> conv => whnf) | fail)
    exact ⟨rfl, hb⟩
  by_cases h4 : 4611686018427387904 < key
  · skip
    repeat (first | (refine RunH ?_; intro w hL hB; try clear w) | (refine Both.mk ?_ ?_ <;> conv => whnf) | fail)
    refine (hkn _ hL.below).mono fun r w ⟨hr, hb⟩ => ?_
    subst hr
    conv => whnf
    repeat (first | (refine RunH ?_; intro w hL hB; try clear w) | (refine Both.mk ?_ ?_ <;> conv => whnf) | fail)
    exact ⟨rfl, hb⟩
  by_cases h5 : 1000 < d.length
  · skip
    repeat (first | (refine RunH ?_; intro w hL hB; try clear w) | (refine Both.mk ?_ ?_ <;> conv => whnf) | fail)
    refine (hkn _ hL.below).mono fun r w ⟨hr, hb⟩ => ?_
    subst hr
    conv => whnf
    repeat (first | (refine RunH ?_; intro w hL hB; try clear w) | (refine Both.mk ?_ ?_ <;> conv => whnf) | fail)
    exact ⟨rfl, hb⟩
  repeat (first | (refine RunH ?_; intro w hL hB; try clear w) | (refine Both.mk ?_ ?_ <;> conv => whnf) | (refine (config_fn _).mono fun r w hr => ?_; obtain ⟨hr, hw⟩ := hr; subst hr; replace hL := hL.call hB (Turns.of_below hw); replace hB := Nat.le_trans hB hw.size; conv => whnf) | fail)
  refine (new_fn _ hL hB).mono fun r w ⟨cb, cm, hr, hB, hL⟩ => ?_
  subst hr
  conv => whnf
  cases wr
  · skip
    have hfb : True := trivial
    repeat (first | (refine RunH ?_; intro w hL hB; try clear w) | (refine Both.mk ?_ ?_ <;> conv => whnf) | fail)
    refine (begin_arg cb cm 0 0 0 2 vol key ck 0 (.slice da d.length dc) d _ (by omega) (by omega) (by omega) (fun x hx => hd.below hx) (by omega) (by omega) (by omega) (by omega) (by omega) hL hB).mono fun r w hr => ?_
    rw [if_neg (by decide)] at hr
    obtain ⟨qb, sm, xd, ov, nv, dv, hr, hB, hL⟩ := hr
    subst hr
    obtain ⟨oa, oc, rfl⟩ := (show SlN w 5 ov 1 _ from hL.rowN (i := 4) rfl).shape
    obtain ⟨⟨ob, rfl⟩, _⟩ := own_addr (hL.at (i := 4) rfl) (by omega)
    obtain ⟨na, nc, rfl⟩ : ∃ a c, nv = .slice a 3 c := (nR_sl (hL.at (i := 5) rfl)).shape
    obtain ⟨⟨nb, rfl⟩, _⟩ := own_addr (show w.ownsRow 0 3 1 _ _ _ from hL.at (i := 5) rfl) (by simp)
    conv => whnf
    repeat (first | (refine RunH ?_; intro w hL hB; try clear w) | (refine Both.mk ?_ ?_ <;> conv => whnf) | (refine Ld.row1 ttOk (hL.mrow (by repeat (first | exact hfb | exact .head _ | apply List.Mem.tail))) rfl rfl (k := 0) (by rfl) (by omega) ?_; conv => whnf) | (refine Ld.row1 ttOk (hL.mrow (by repeat (first | exact hfb | exact .head _ | apply List.Mem.tail))) rfl rfl (k := 1) (by rfl) (by omega) ?_; conv => whnf) | (refine Ld.row1 ttOk (hL.mrow (by repeat (first | exact hfb | exact .head _ | apply List.Mem.tail))) rfl rfl (k := 2) (by rfl) (by omega) ?_; conv => whnf) | (refine Ld.row1 ttOk (hL.mrow (by repeat (first | exact hfb | exact .head _ | apply List.Mem.tail))) rfl rfl (k := 3) (by rfl) (by omega) ?_; conv => whnf) | (intro o9 ho9; conv => whnf) | fail)
    obtain ⟨R1, q1, n0, bg, tk, hL, hfb, e1, e2, e3, e4, e5, e6, e7⟩ : ∃ R1 : List Res, ∃ q1 : QS, ∃ n0 bg tk : Int, Sep Tryz.prog w0.heap.size w0 w (cR cb 0 bg tk cm (.slice none 0 0) (.slice none 0 0) :: qR qb q1 :: .mp 3 cm [(.int .i64 q1.num, ptrN qb)] :: .mp 3 sm [(.int .i64 0, .bool true)] :: .row 42 5 (.slice (some ⟨ob, 0, none⟩) 1 oc) 1 (mC 0 50 (.slice (some ⟨nb, 0, none⟩) 3 nc) dv) :: nR (.slice (some ⟨nb, 0, none⟩) 3 nc) [n0, 4, vol] :: R1) ∧ .blk fb [.int .i64 vol, .int .u64 key, .int .u32 ck] 36 ∈ R1 ∧ q1.sent = .map (some sm) ∧ q1.tk = n0 ∧ q1.step = 1 ∧ q1.kind = 2 ∧ q1.vol = vol ∧ q1.writes = 0 ∧ q1.num = 1 :=
      ⟨_, _, _, _, _, hL, (by repeat (first | exact hfb | exact .head _ | apply List.Mem.tail)), rfl, rfl, rfl, rfl, rfl, rfl, rfl⟩
    have hC : ∀ {x : World} {L' : List Res}, Sep Tryz.prog w0.heap.size w0 x L' → .row 42 5 (.slice (some ⟨ob, 0, none⟩) 1 oc) 1 (mC 0 50 (.slice (some ⟨nb, 0, none⟩) 3 nc) dv) ∈ L' → nR (.slice (some ⟨nb, 0, none⟩) 3 nc) [n0, 4, vol] ∈ L' → .blk fb [.int .i64 vol, .int .u64 key, .int .u32 ck] 36 ∈ L' →
        Row x ob 0 (mC 0 50 (.slice (some ⟨nb, 0, none⟩) 3 nc) dv) ∧ Row x nb 0 (numC [n0, 4, vol]) ∧ Blk x fb [.int .i64 vol, .int .u64 key, .int .u32 ck] 36 := fun {x L'} h a b c => ⟨(SlN.of_own (show x.ownsRow 0 42 5 _ _ _ from h.hold _ a)).rowOf, (nR_sl (h.hold _ b)).toN.rowOf, h.hold _ c⟩
    refine V.tree ttOk (fun x => Row x ob 0 (mC 0 50 (.slice (some ⟨nb, 0, none⟩) 3 nc) dv) ∧ Row x nb 0 (numC [n0, 4, vol]) ∧ Blk x fb [.int .i64 vol, .int .u64 key, .int .u32 ck] 36) (.q 0 (.q 1 (.q 2 (.q 3 (.q 4 (.q 5 (.q 6 (.q 7 (.q 8 (.alt 9 (.q 10 (.alt 11 (.q 12 (.q 13 (.q 14 (.q 15 (.q 16 .nil))))) .stop)) .stop)))))))))) mixed (by decide +kernel) (hC hL.drew (by repeat (first | exact hfb | exact .head _ | apply List.Mem.tail)) (by repeat (first | exact hfb | exact .head _ | apply List.Mem.tail)) (by repeat (first | exact hfb | exact .head _ | apply List.Mem.tail))) ?_
    replace hL := hL.drew
    conv => whnf
    repeat (first | (refine RunH ?_; intro w hL hB; try clear w) | (refine Both.mk ?_ ?_ <;> conv => whnf) | (intro o9 ho9; conv => whnf) | (refine Lq.of_class (fun x hx => Ld.row1 ttOk hx.1 rfl rfl (k := 3) rfl (by omega) rfl) ?_; conv => whnf) | (refine Lq.of_class (fun x hx => Ld.row1 ttOk hx.2.1 rfl rfl (k := 0) rfl (by omega) rfl) ?_; conv => whnf) | (refine Lq.of_class (fun x hx => Ld.blk ttOk rfl rfl hx.2.2 rfl rfl) ?_; conv => whnf) | (refine And.intro (hC hL (by repeat (first | exact hfb | exact .head _ | apply List.Mem.tail)) (by repeat (first | exact hfb | exact .head _ | apply List.Mem.tail)) (by repeat (first | exact hfb | exact .head _ | apply List.Mem.tail))) ?_; conv => whnf) | (refine Rv.buildS (len := 8) (vs := [.int .i64 n0, .int .i64 0, .int .i64 vol, .int .i64 1, .int .i64 3, .int .i64 0, .int .i64 0, .int .i64 1]) ttOk hL tl40 tl3 rfl rfl (by intro u hu; simp only [List.mem_cons, List.not_mem_nil, or_false] at hu; rcases hu with rfl | rfl | rfl | rfl | rfl | rfl | rfl | rfl <;> rfl) (by decide) (by decide) hB (fun bz w hL hB => ?_); conv => whnf) | fail)
    refine (hear_shut cb cm qb sm 0 bg tk q1 0 0 n0 (.slice (some ⟨bz, 0, none⟩) 8 8) (.slice none 0 0) 3 0 [1] _ e1 (by omega) rfl e2 e3 (by simp) (by simp) (by omega) e4 ⟨by omega, by omega⟩ ⟨by omega, by omega⟩ ⟨_, _, _, rfl⟩ (hL.perm (p14 _ _ _ _ _ _)) hB (by rw [e5]; exact .head _)).mono fun r w hr => ?_
    clear hL hB
    obtain ⟨rv, hr, hB, hL⟩ := hr
    subst hr
    obtain ⟨ra, rc, rfl⟩ := (show SlN w 6 rv 1 _ from hL.rowN (i := 2) rfl).shape
    obtain ⟨⟨rb, rfl⟩, _⟩ := own_addr (hL.at (i := 2) rfl) (by omega)
    rw [if_neg (show ¬ 0 < q1.writes by omega)] at hL
    conv => whnf
    refine ⟨hC hL (by repeat (first | exact hfb | exact .head _ | apply List.Mem.tail)) (by repeat (first | exact hfb | exact .head _ | apply List.Mem.tail)) (by repeat (first | exact hfb | exact .head _ | apply List.Mem.tail)), ?_⟩
    conv => whnf
    repeat (first | (refine RunH ?_; intro w hL hB; try clear w) | (refine Both.mk ?_ ?_ <;> conv => whnf) | fail)
    refine (told_fn rb rc q1.num 11 0 0 0 (.slice none 0 0) _ (hL.mrow (by repeat (first | exact hfb | exact .head _ | apply List.Mem.tail)))).mono fun r w' ⟨hr, hw'⟩ => ?_
    subst hr
    replace hw' := hw'.symm
    subst hw'
    conv => whnf
    repeat (first | (refine RunH ?_; intro w hL hB; try clear w) | (refine Both.mk ?_ ?_ <;> conv => whnf) | fail)
    refine (count_fn cb cm _ _ _ (.slice none 0 0) (.slice none 0 0) [] _ hL hB).mono fun r w' hr => ?_
    obtain ⟨hr, hw'⟩ := hr
    subst hr
    replace hw' := hw'.symm
    subst hw'
    conv => whnf
    repeat (first | (refine RunH ?_; intro w hL hB; try clear w) | (refine Both.mk ?_ ?_ <;> conv => whnf) | fail)
    refine (hkn _ hL.below).mono fun r w ⟨hr, hb⟩ => ?_
    subst hr
    conv => whnf
    repeat (first | (refine RunH ?_; intro w hL hB; try clear w) | (refine Both.mk ?_ ?_ <;> conv => whnf) | fail)
    exact ⟨rfl, hb⟩
  · skip
    have hfb : True := trivial
    repeat (first | (refine RunH ?_; intro w hL hB; try clear w) | (refine Both.mk ?_ ?_ <;> conv => whnf) | fail)
    refine (begin_arg cb cm 0 0 0 2 vol key ck 0 (.slice da d.length dc) d _ (by omega) (by omega) (by omega) (fun x hx => hd.below hx) (by omega) (by omega) (by omega) (by omega) (by omega) hL hB).mono fun r w hr => ?_
    rw [if_neg (by decide)] at hr
    obtain ⟨qb, sm, xd, ov, nv, dv, hr, hB, hL⟩ := hr
    subst hr
    obtain ⟨oa, oc, rfl⟩ := (show SlN w 5 ov 1 _ from hL.rowN (i := 4) rfl).shape
    obtain ⟨⟨ob, rfl⟩, _⟩ := own_addr (hL.at (i := 4) rfl) (by omega)
    obtain ⟨na, nc, rfl⟩ : ∃ a c, nv = .slice a 3 c := (nR_sl (hL.at (i := 5) rfl)).shape
    obtain ⟨⟨nb, rfl⟩, _⟩ := own_addr (show w.ownsRow 0 3 1 _ _ _ from hL.at (i := 5) rfl) (by simp)
    conv => whnf
    repeat (first | (refine RunH ?_; intro w hL hB; try clear w) | (refine Both.mk ?_ ?_ <;> conv => whnf) | (refine Ld.row1 ttOk (hL.mrow (by repeat (first | exact hfb | exact .head _ | apply List.Mem.tail))) rfl rfl (k := 0) (by rfl) (by omega) ?_; conv => whnf) | (refine Ld.row1 ttOk (hL.mrow (by repeat (first | exact hfb | exact .head _ | apply List.Mem.tail))) rfl rfl (k := 1) (by rfl) (by omega) ?_; conv => whnf) | (refine Ld.row1 ttOk (hL.mrow (by repeat (first | exact hfb | exact .head _ | apply List.Mem.tail))) rfl rfl (k := 2) (by rfl) (by omega) ?_; conv => whnf) | (refine Ld.row1 ttOk (hL.mrow (by repeat (first | exact hfb | exact .head _ | apply List.Mem.tail))) rfl rfl (k := 3) (by rfl) (by omega) ?_; conv => whnf) | (intro o9 ho9; conv => whnf) | fail)
    have hC : ∀ {x : World} {L' : List Res}, Sep Tryz.prog w0.heap.size w0 x L' → .row 42 5 (.slice (some ⟨ob, 0, none⟩) 1 oc) 1 (mC 0 50 (.slice (some ⟨nb, 0, none⟩) 3 nc) dv) ∈ L' → nR (.slice (some ⟨nb, 0, none⟩) 3 nc) [0 + 1, 4, vol] ∈ L' → .blk fb [.int .i64 vol, .int .u64 key, .int .u32 ck] 36 ∈ L' →
        Row x ob 0 (mC 0 50 (.slice (some ⟨nb, 0, none⟩) 3 nc) dv) ∧ Row x nb 0 (numC [0 + 1, 4, vol]) ∧ Blk x fb [.int .i64 vol, .int .u64 key, .int .u32 ck] 36 := fun {x L'} h a b c => ⟨(SlN.of_own (show x.ownsRow 0 42 5 _ _ _ from h.hold _ a)).rowOf, (nR_sl (h.hold _ b)).toN.rowOf, h.hold _ c⟩
    refine V.tree ttOk (fun x => Row x ob 0 (mC 0 50 (.slice (some ⟨nb, 0, none⟩) 3 nc) dv) ∧ Row x nb 0 (numC [0 + 1, 4, vol]) ∧ Blk x fb [.int .i64 vol, .int .u64 key, .int .u32 ck] 36) (.q 0 (.q 1 (.q 2 (.q 3 (.q 4 (.q 5 (.q 6 (.q 7 (.q 8 (.alt 9 (.q 10 (.alt 11 (.q 12 (.q 13 (.q 14 (.q 15 (.q 16 .nil))))) .stop)) .stop)))))))))) mixed (by decide +kernel) (hC hL.drew (by repeat (first | exact hfb | exact .head _ | apply List.Mem.tail)) (by repeat (first | exact hfb | exact .head _ | apply List.Mem.tail)) (by repeat (first | exact hfb | exact .head _ | apply List.Mem.tail))) ?_
    replace hL := hL.drew
    conv => whnf
    repeat (first | (refine RunH ?_; intro w hL hB; try clear w) | (refine Both.mk ?_ ?_ <;> conv => whnf) | (intro o9 ho9; conv => whnf) | (refine Lq.of_class (fun x hx => Ld.row1 ttOk hx.1 rfl rfl (k := 3) rfl (by omega) rfl) ?_; conv => whnf) | (refine Lq.of_class (fun x hx => Ld.row1 ttOk hx.2.1 rfl rfl (k := 0) rfl (by omega) rfl) ?_; conv => whnf) | (refine Lq.of_class (fun x hx => Ld.blk ttOk rfl rfl hx.2.2 rfl rfl) ?_; conv => whnf) | (refine And.intro (hC hL (by repeat (first | exact hfb | exact .head _ | apply List.Mem.tail)) (by repeat (first | exact hfb | exact .head _ | apply List.Mem.tail)) (by repeat (first | exact hfb | exact .head _ | apply List.Mem.tail))) ?_; conv => whnf) | (refine Rv.buildS (len := 8) (vs := [.int .i64 (0 + 1), .int .i64 0, .int .i64 vol, .int .i64 0, .int .i64 1, .int .i64 0, .int .i64 0, .int .i64 1]) ttOk hL tl40 tl3 rfl rfl (by intro u hu; simp only [List.mem_cons, List.not_mem_nil, or_false] at hu; rcases hu with rfl | rfl | rfl | rfl | rfl | rfl | rfl | rfl <;> rfl) (by decide) (by decide) hB (fun b8 w hL hB => ?_); conv => whnf) | fail)
    refine (hear_put cb cm qb sm 0 (0 + 1) (0 + 1) _ 0 0 (0 + 1) (.slice (some ⟨b8, 0, none⟩) 8 8) (.slice none 0 0) 1 0 [1] d _ rfl (by omega) rfl rfl rfl rfl (by omega) (by simp) (by simp) ⟨(by show (0 : Int) ≤ 0; decide), (by show (0 : Int) ≤ 1000; decide)⟩ ⟨hk0, (by show key < _; omega)⟩ hck (by repeat (first | exact hfb | exact .head _ | apply List.Mem.tail)) (by omega) (by omega) ⟨_, _, _, rfl⟩ (hL.perm (p14 _ _ _ _ _ _)) hB (.head _)).mono fun r w hr => ?_
    clear hL hB
    obtain ⟨nv8, sm2, ov2, nv2, dv2, hr, hB, hL⟩ := hr
    subst hr
    conv => whnf
    refine ⟨hC hL (by repeat (first | exact hfb | exact .head _ | apply List.Mem.tail)) (by repeat (first | exact hfb | exact .head _ | apply List.Mem.tail)) (by repeat (first | exact hfb | exact .head _ | apply List.Mem.tail)), ?_⟩
    clear hC
    obtain ⟨oa2, oc2, rfl⟩ := (show SlN w 5 ov2 1 _ from hL.rowN (i := 4) rfl).shape
    obtain ⟨⟨ob2, rfl⟩, _⟩ := own_addr (hL.at (i := 4) rfl) (by omega)
    obtain ⟨na2, nc2, rfl⟩ : ∃ a c, nv2 = .slice a 6 c := (nR_sl (hL.at (i := 5) rfl)).shape
    obtain ⟨⟨nb2, rfl⟩, _⟩ := own_addr (show w.ownsRow 0 3 1 _ _ _ from hL.at (i := 5) rfl) (by simp)
    conv => whnf
    repeat (first | (refine RunH ?_; intro w hL hB; try clear w) | (refine Both.mk ?_ ?_ <;> conv => whnf) | (refine Ld.row1 ttOk (hL.mrow (by repeat (first | exact hfb | exact .head _ | apply List.Mem.tail))) rfl rfl (k := 0) (by rfl) (by omega) ?_; conv => whnf) | (refine Ld.row1 ttOk (hL.mrow (by repeat (first | exact hfb | exact .head _ | apply List.Mem.tail))) rfl rfl (k := 1) (by rfl) (by omega) ?_; conv => whnf) | (refine Ld.row1 ttOk (hL.mrow (by repeat (first | exact hfb | exact .head _ | apply List.Mem.tail))) rfl rfl (k := 2) (by rfl) (by omega) ?_; conv => whnf) | (refine Ld.row1 ttOk (hL.mrow (by repeat (first | exact hfb | exact .head _ | apply List.Mem.tail))) rfl rfl (k := 3) (by rfl) (by omega) ?_; conv => whnf) | (intro o9 ho9; conv => whnf) | fail)
    refine Rv.buildS (len := 2) (vs := [.int .i64 (0 + 1 + 1), .int .i64 14]) ttOk hL tl40 tl3 rfl rfl (by intro u hu; simp only [List.mem_cons, List.not_mem_nil, or_false] at hu; rcases hu with rfl | rfl <;> rfl) (by decide) (by decide) hB (fun b2 w hL hB => ?_)
    conv => whnf
    repeat (first | (refine RunH ?_; intro w hL hB; try clear w) | (refine Both.mk ?_ ?_ <;> conv => whnf) | fail)
    refine (hear_wait cb cm qb sm2 0 (0 + 1) (0 + 1 + 1) _ 3 (3 + 0) (0 + 1 + 1) (.slice (some ⟨b2, 0, none⟩) 2 2) (.slice none 0 0) _ rfl (by omega) (by omega) rfl rfl ⟨(by show (0 : Int) ≤ 0; decide), (by show (0 : Int) < 19; decide)⟩ ⟨_, _, _, rfl⟩ (hL.perm (p14 _ _ _ _ _ _)) hB (.head _)).mono fun r w hr => ?_
    clear hL hB
    obtain ⟨hr, hB, hL⟩ := hr
    subst hr
    conv => whnf
    repeat (first | (refine RunH ?_; intro w hL hB; try clear w) | (refine Both.mk ?_ ?_ <;> conv => whnf) | fail)
    obtain ⟨R2, q2, hL, hfb2, f1, f2, f3, f4, f5, f6, f7⟩ : ∃ R1 : List Res, ∃ q1 : QS, Sep Tryz.prog w0.heap.size w0 w (cR cb 0 (0 + 1) (0 + 1 + 1) cm (.slice none 0 0) (.slice none 0 0) :: qR qb { q1 with waited := ((0 : Nat) : Int) } :: .mp 3 cm [(.int .i64 q1.num, ptrN qb)] :: R1) ∧ .blk fb [.int .i64 vol, .int .u64 key, .int .u32 ck] 36 ∈ R1 ∧ q1.num = 1 ∧ q1.step = 6 ∧ q1.pause = 5 ∧ q1.kind = 2 ∧ q1.salt = 0 ∧ q1.vol = vol ∧ q1.writes = 1 :=
      ⟨_, ⟨0 + 1, 2, vol, key, ck, xd, 0, 6, 0, 5, 0 + 1, 0 + 1, 0, .slice none 0 0, 1, nv8, 0 + 1 + 1, .map none, 0, 0⟩, hL, (by repeat (first | exact hfb | exact .head _ | apply List.Mem.tail)), rfl, rfl, rfl, rfl, rfl, rfl, rfl⟩
    refine V.loop (α := Nat × Value) (fun z => [(2, .bool true), (3, .pointer (some ⟨fb, 0, none⟩)), (7, ptrN cb), (10, z.2), (14, .int .i64 (z.1 : Int))])
      (fun z w' => w0.heap.size ≤ w'.heap.size ∧ ((z.1 ≤ 4 ∧ z.2 = .slice none 0 0 ∧ Sep Tryz.prog w0.heap.size w0 w' (cR cb 0 (0 + 1) (0 + 1 + 1) cm (.slice none 0 0) (.slice none 0 0) :: qR qb { q2 with waited := (z.1 : Int) } :: .mp 3 cm [(.int .i64 q2.num, ptrN qb)] :: R2)) ∨
        (z.1 = 5 ∧ ∃ ob oc nb nc dv sm, ∃ q3 : QS, z.2 = .slice (some ⟨ob, 0, none⟩) 1 oc ∧ (q3.sent = .map (some sm) ∧ q3.tk = 0 + 1 + 1 + 1 ∧ q3.step = 1 ∧ q3.kind = 2 ∧ q3.vol = vol ∧ q3.writes = 1 ∧ q3.num = 1) ∧
          Sep Tryz.prog w0.heap.size w0 w' (cR cb 0 (0 + 1) (0 + 1 + 1 + 1) cm (.slice none 0 0) (.slice none 0 0) :: qR qb q3 :: .mp 3 cm [(.int .i64 q3.num, ptrN qb)] :: .mp 3 sm [(.int .i64 0, .bool true)] :: .row 42 5 (.slice (some ⟨ob, 0, none⟩) 1 oc) 1 (mC 0 50 (.slice (some ⟨nb, 0, none⟩) 3 nc) dv) :: nR (.slice (some ⟨nb, 0, none⟩) 3 nc) [0 + 1 + 1 + 1, 4, vol] :: R2)))) (fun z => 6 - z.1) (0, .slice none 0 0) ⟨rfl, rfl, rfl, rfl, rfl, trivial⟩ ⟨hB, .inl ⟨by omega, rfl, hL⟩⟩ ?_
    repeat clear hL
    repeat clear hB
    rintro ⟨k, v⟩ w ⟨hB, ⟨hk, rfl, hL⟩ | ⟨hk, ob, oc, nb, nc, dv, sm, q1, rfl, ⟨e1, e2, e3, e4, e5, e6, e7⟩, hL⟩⟩
    · dsimp only at hk hL
      repeat (first | (refine RunH ?_; intro w hL hB; try clear w) | (refine Both.mk ?_ ?_ <;> conv => whnf) | fail)
      have hnum : 0 ≤ q2.num ∧ q2.num ≤ 1000000 := by omega
      by_cases h4 : k < 4
      · refine (tick1_idle cb cm qb 0 (0 + 1) (0 + 1 + 1) { q2 with waited := (k : Int) } R2 hnum ⟨(by show (0 : Int) ≤ k; omega), (by show (k : Int) ≤ 1000; omega), (by show q2.pause ≤ 1000; omega), .inl ⟨f2, (by show (k : Int) + 1 < q2.pause; omega)⟩⟩ hL hB).mono fun r w hr => ?_
        obtain ⟨hr, hB, hL⟩ := hr
        subst hr
        conv => whnf
        repeat (first | (refine RunH ?_; intro w hL hB; try clear w) | (refine Both.mk ?_ ?_ <;> conv => whnf) | fail)
        exact ⟨(k + 1, .slice none 0 0), ⟨rfl, rfl, rfl, rfl, rfl, trivial⟩, ⟨hB, .inl ⟨by dsimp only; omega, rfl, hL⟩⟩, by dsimp only; omega⟩
      · obtain rfl : k = 4 := by omega
        refine (tick1_begin cb cm qb 0 (0 + 1) (0 + 1 + 1) { q2 with waited := ((4 : Nat) : Int) } R2 (by omega) (by omega) hnum ⟨(by show (0 : Int) ≤ 4; omega), (by show (4 : Int) ≤ 1000; omega), (by show q2.pause ≤ 4 + 1; omega), f2, (by show 0 ≤ q2.salt; omega), (by show q2.salt < 4294967296; omega)⟩ hL hB).mono fun r w hr => ?_
        obtain ⟨ov, nv, dv, sm2, hr, hB, hL⟩ := hr
        subst hr
        rw [if_neg (show ¬ q2.kind = 1 by omega), if_neg (show ¬ q2.kind = 1 by omega), f6] at hL
        obtain ⟨oa2, oc2, rfl⟩ := (show SlN w 5 ov 1 _ from hL.rowN (i := 4) rfl).shape
        obtain ⟨⟨ob2, rfl⟩, _⟩ := own_addr (hL.at (i := 4) rfl) (by omega)
        obtain ⟨na2, nc2, rfl⟩ : ∃ a c, nv = .slice a 3 c := (nR_sl (hL.at (i := 5) rfl)).shape
        obtain ⟨⟨nb2, rfl⟩, _⟩ := own_addr (show w.ownsRow 0 3 1 _ _ _ from hL.at (i := 5) rfl) (by simp)
        conv => whnf
        repeat (first | (refine RunH ?_; intro w hL hB; try clear w) | (refine Both.mk ?_ ?_ <;> conv => whnf) | fail)
        refine ⟨(5, _), ⟨rfl, rfl, rfl, rfl, rfl, trivial⟩, ⟨hB, .inr ⟨rfl, ob2, oc2, nb2, nc2, dv, sm2, { q2 with vol := vol, step := 1, waited := 0, tk := 0 + 1 + 1 + 1, sent := .map (some sm2), master := 0 }, rfl, ⟨rfl, rfl, rfl, f4, rfl, f7, f1⟩, hL.sub (L' := _ :: _ :: _ :: _ :: _ :: _ :: R2) ?_⟩⟩, by dsimp only; omega⟩
        exact .cons_cons _ (.cons_cons _ (.cons_cons _ (.cons_cons _ (.cons_cons _ (.cons_cons _ (.cons _ (.refl _)))))))
    dsimp only at hk
    subst hk
    clear hfb
    have hfb := hfb2
    obtain ⟨n0, hn0⟩ : ∃ n : Int, n = 0 + 1 + 1 + 1 := ⟨_, rfl⟩
    obtain ⟨bg, hbg⟩ : ∃ n : Int, n = 0 + 1 := ⟨_, rfl⟩
    rw [← hn0] at hL e2
    rw [← hbg] at hL
    obtain ⟨tk, htk9⟩ : ∃ n : Int, n = n0 := ⟨_, rfl⟩
    repeat (first | (refine RunH ?_; intro w hL hB; try clear w) | (refine Both.mk ?_ ?_ <;> conv => whnf) | (refine Ld.row1 ttOk (hL.mrow (by repeat (first | exact hfb | exact .head _ | apply List.Mem.tail))) rfl rfl (k := 0) (by rfl) (by omega) ?_; conv => whnf) | (refine Ld.row1 ttOk (hL.mrow (by repeat (first | exact hfb | exact .head _ | apply List.Mem.tail))) rfl rfl (k := 1) (by rfl) (by omega) ?_; conv => whnf) | (refine Ld.row1 ttOk (hL.mrow (by repeat (first | exact hfb | exact .head _ | apply List.Mem.tail))) rfl rfl (k := 2) (by rfl) (by omega) ?_; conv => whnf) | (refine Ld.row1 ttOk (hL.mrow (by repeat (first | exact hfb | exact .head _ | apply List.Mem.tail))) rfl rfl (k := 3) (by rfl) (by omega) ?_; conv => whnf) | (intro o9 ho9; conv => whnf) | fail)
    have hC : ∀ {x : World} {L' : List Res}, Sep Tryz.prog w0.heap.size w0 x L' → .row 42 5 (.slice (some ⟨ob, 0, none⟩) 1 oc) 1 (mC 0 50 (.slice (some ⟨nb, 0, none⟩) 3 nc) dv) ∈ L' → nR (.slice (some ⟨nb, 0, none⟩) 3 nc) [n0, 4, vol] ∈ L' → .blk fb [.int .i64 vol, .int .u64 key, .int .u32 ck] 36 ∈ L' →
        Row x ob 0 (mC 0 50 (.slice (some ⟨nb, 0, none⟩) 3 nc) dv) ∧ Row x nb 0 (numC [n0, 4, vol]) ∧ Blk x fb [.int .i64 vol, .int .u64 key, .int .u32 ck] 36 := fun {x L'} h a b c => ⟨(SlN.of_own (show x.ownsRow 0 42 5 _ _ _ from h.hold _ a)).rowOf, (nR_sl (h.hold _ b)).toN.rowOf, h.hold _ c⟩
    refine V.tree ttOk (fun x => Row x ob 0 (mC 0 50 (.slice (some ⟨nb, 0, none⟩) 3 nc) dv) ∧ Row x nb 0 (numC [n0, 4, vol]) ∧ Blk x fb [.int .i64 vol, .int .u64 key, .int .u32 ck] 36) (.q 0 (.q 1 (.q 2 (.q 3 (.q 4 (.q 5 (.q 6 (.q 7 (.q 8 (.alt 9 (.q 10 (.alt 11 (.q 12 (.q 13 (.q 14 (.q 15 (.q 16 .nil))))) .stop)) .stop)))))))))) mixed (by decide +kernel) (hC hL.drew (by repeat (first | exact hfb | exact .head _ | apply List.Mem.tail)) (by repeat (first | exact hfb | exact .head _ | apply List.Mem.tail)) (by repeat (first | exact hfb | exact .head _ | apply List.Mem.tail))) ?_
    replace hL := hL.drew
    conv => whnf
    repeat (first | (refine RunH ?_; intro w hL hB; try clear w) | (refine Both.mk ?_ ?_ <;> conv => whnf) | (intro o9 ho9; conv => whnf) | (refine Lq.of_class (fun x hx => Ld.row1 ttOk hx.1 rfl rfl (k := 3) rfl (by omega) rfl) ?_; conv => whnf) | (refine Lq.of_class (fun x hx => Ld.row1 ttOk hx.2.1 rfl rfl (k := 0) rfl (by omega) rfl) ?_; conv => whnf) | (refine Lq.of_class (fun x hx => Ld.blk ttOk rfl rfl hx.2.2 rfl rfl) ?_; conv => whnf) | (refine And.intro (hC hL (by repeat (first | exact hfb | exact .head _ | apply List.Mem.tail)) (by repeat (first | exact hfb | exact .head _ | apply List.Mem.tail)) (by repeat (first | exact hfb | exact .head _ | apply List.Mem.tail))) ?_; conv => whnf) | (refine Rv.buildS (len := 8) (vs := [.int .i64 n0, .int .i64 0, .int .i64 vol, .int .i64 1, .int .i64 3, .int .i64 0, .int .i64 0, .int .i64 1]) ttOk hL tl40 tl3 rfl rfl (by intro u hu; simp only [List.mem_cons, List.not_mem_nil, or_false] at hu; rcases hu with rfl | rfl | rfl | rfl | rfl | rfl | rfl | rfl <;> rfl) (by decide) (by decide) hB (fun bz w hL hB => ?_); conv => whnf) | fail)
    refine (hear_shut cb cm qb sm 0 bg n0 q1 0 0 n0 (.slice (some ⟨bz, 0, none⟩) 8 8) (.slice none 0 0) 3 0 [1] _ e1 (by omega) rfl e2 e3 (by simp) (by simp) (by omega) e4 ⟨by omega, by omega⟩ ⟨by omega, by omega⟩ ⟨_, _, _, rfl⟩ (hL.perm (p14 _ _ _ _ _ _)) hB (by rw [e5]; exact .head _)).mono fun r w hr => ?_
    clear hL hB
    obtain ⟨rv, hr, hB, hL⟩ := hr
    subst hr
    obtain ⟨ra, rc, rfl⟩ := (show SlN w 6 rv 1 _ from hL.rowN (i := 2) rfl).shape
    obtain ⟨⟨rb, rfl⟩, _⟩ := own_addr (hL.at (i := 2) rfl) (by omega)
    rw [if_pos (show 0 < q1.writes by omega)] at hL
    conv => whnf
    refine ⟨hC hL (by repeat (first | exact hfb | exact .head _ | apply List.Mem.tail)) (by repeat (first | exact hfb | exact .head _ | apply List.Mem.tail)) (by repeat (first | exact hfb | exact .head _ | apply List.Mem.tail)), ?_⟩
    conv => whnf
    repeat (first | (refine RunH ?_; intro w hL hB; try clear w) | (refine Both.mk ?_ ?_ <;> conv => whnf) | fail)
    refine (told_fn rb rc q1.num 16 0 0 0 (.slice none 0 0) _ (hL.mrow (by repeat (first | exact hfb | exact .head _ | apply List.Mem.tail)))).mono fun r w' ⟨hr, hw'⟩ => ?_
    subst hr
    replace hw' := hw'.symm
    subst hw'
    conv => whnf
    repeat (first | (refine RunH ?_; intro w hL hB; try clear w) | (refine Both.mk ?_ ?_ <;> conv => whnf) | fail)
    refine (count_fn cb cm _ _ _ (.slice none 0 0) (.slice none 0 0) [] _ hL hB).mono fun r w' hr => ?_
    obtain ⟨hr, hw'⟩ := hr
    subst hr
    replace hw' := hw'.symm
    subst hw'
    conv => whnf
    repeat (first | (refine RunH ?_; intro w hL hB; try clear w) | (refine Both.mk ?_ ?_ <;> conv => whnf) | fail)
    refine (hkn _ hL.below).mono fun r w ⟨hr, hb⟩ => ?_
    subst hr
    conv => whnf
    repeat (first | (refine RunH ?_; intro w hL hB; try clear w) | (refine Both.mk ?_ ?_ <;> conv => whnf) | fail)
    exact ⟨rfl, hb⟩
end Go.Proofs.YtcjnaljdbbjojaaGreatDoor
