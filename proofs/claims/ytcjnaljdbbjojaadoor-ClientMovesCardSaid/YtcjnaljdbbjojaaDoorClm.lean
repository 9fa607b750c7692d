/- ClientMoves, walked. Nothing is claimed here. -/
import Derived.Test.YtcjnaljdbbjojaaDoorClk
import Derived.Test.YtcjnaljdbbjojaaDoorLs
namespace Go.Proofs.YtcjnaljdbbjojaaDoor
open Go.RowKit
open Go.Maps (Keyed)
set_option linter.unusedVariables false
set_option linter.unusedSimpArgs false
set_option maxRecDepth 100000

set_option maxHeartbeats 16000000 in
theorem clientMoves_fn (vol key ck epoch : Int) (fz : Bool) (w0 : World) (hck : 0 ≤ ck ∧ ck < 4294967296) (hk0 : 0 ≤ key) :
    Fn Tryd.prog 4 #[.agg #[.int .i64 vol, .int .u64 key, .int .u32 ck], .int .i64 epoch, .bool fz] w0 fun r w' => r = .bool true ∧ Below w0.heap.size w0 w' := by
  have hL := Sep.start Tryd.prog w0
  have hB := Nat.le_refl w0.heap.size
  have hkn := fun w (hb : Below w0.heap.size w0 w) => (known_fn w).mono fun r w' (h : r = .bool true ∧ Below w.heap.size w w') => (⟨h.1, hb.trans (h.2.mono hb.size)⟩ : r = .bool true ∧ Below w0.heap.size w0 w')
  refine Fn.mk Tryd.func4 rfl (by kernel_rfl) Tryd.ntmps4 rfl (by rw [Tryd.results4]) ?_
  repeat (first | (refine RunH ?_; intro w hL hB; try clear w) | (refine Both.mk ?_ ?_ <;> conv => whnf) | fail)
  (refine Nw.sep hL hB (fun fb w hL hB hfb => ?_); conv => whnf)
  by_cases hv : 1 ≤ vol ∧ vol ≤ 99999999 ∧ 1 ≤ key ∧ key ≤ 4611686018427387904 ∧ 1 ≤ epoch ∧ epoch ≤ 2147483647
  case neg =>
    by_cases h1 : vol < 1
    · repeat (first | (refine RunH ?_; intro w hL hB; try clear w) | (refine Both.mk ?_ ?_ <;> conv => whnf) | fail)
      refine (hkn _ hL.below).mono fun r w ⟨hr, hb⟩ => ?_
      subst hr
      conv => whnf
      repeat (first | (refine RunH ?_; intro w hL hB; try clear w) | (refine Both.mk ?_ ?_ <;> conv => whnf) | fail)
      exact ⟨rfl, hb⟩
    by_cases h2 : 99999999 < vol
    · repeat (first | (refine RunH ?_; intro w hL hB; try clear w) | (refine Both.mk ?_ ?_ <;> conv => whnf) | fail)
      refine (hkn _ hL.below).mono fun r w ⟨hr, hb⟩ => ?_
      subst hr
      conv => whnf
      repeat (first | (refine RunH ?_; intro w hL hB; try clear w) | (refine Both.mk ?_ ?_ <;> conv => whnf) | fail)
      exact ⟨rfl, hb⟩
    by_cases h3 : key < 1
    · repeat (first | (refine RunH ?_; intro w hL hB; try clear w) | (refine Both.mk ?_ ?_ <;> conv => whnf) | fail)
      refine (hkn _ hL.below).mono fun r w ⟨hr, hb⟩ => ?_
      subst hr
      conv => whnf
      repeat (first | (refine RunH ?_; intro w hL hB; try clear w) | (refine Both.mk ?_ ?_ <;> conv => whnf) | fail)
      exact ⟨rfl, hb⟩
    by_cases h4 : 4611686018427387904 < key
    · repeat (first | (refine RunH ?_; intro w hL hB; try clear w) | (refine Both.mk ?_ ?_ <;> conv => whnf) | fail)
      refine (hkn _ hL.below).mono fun r w ⟨hr, hb⟩ => ?_
      subst hr
      conv => whnf
      repeat (first | (refine RunH ?_; intro w hL hB; try clear w) | (refine Both.mk ?_ ?_ <;> conv => whnf) | fail)
      exact ⟨rfl, hb⟩
    by_cases h5 : epoch < 1
    · repeat (first | (refine RunH ?_; intro w hL hB; try clear w) | (refine Both.mk ?_ ?_ <;> conv => whnf) | fail)
      refine (hkn _ hL.below).mono fun r w ⟨hr, hb⟩ => ?_
      subst hr
      conv => whnf
      repeat (first | (refine RunH ?_; intro w hL hB; try clear w) | (refine Both.mk ?_ ?_ <;> conv => whnf) | fail)
      exact ⟨rfl, hb⟩
    have h6 : 2147483647 < epoch := by omega
    repeat (first | (refine RunH ?_; intro w hL hB; try clear w) | (refine Both.mk ?_ ?_ <;> conv => whnf) | fail)
    refine (hkn _ hL.below).mono fun r w ⟨hr, hb⟩ => ?_
    subst hr
    conv => whnf
    repeat (first | (refine RunH ?_; intro w hL hB; try clear w) | (refine Both.mk ?_ ?_ <;> conv => whnf) | fail)
    exact ⟨rfl, hb⟩
  obtain ⟨hv1, hv2, hk1, hk2, he1, he2⟩ := hv
  repeat (first | (refine RunH ?_; intro w hL hB; try clear w) | (refine Both.mk ?_ ?_ <;> conv => whnf) | (refine (config_fn _).mono fun r w hr => ?_; obtain ⟨hr, hw⟩ := hr; subst hr; replace hL := hL.call hB (Turns.of_below hw); replace hB := Nat.le_trans hB hw.size; conv => whnf) | fail)
  refine (new_fn _ hL hB).mono fun r w ⟨cb, cm, hr, hB, hL⟩ => ?_
  subst hr
  conv => whnf
  cases fz
  · skip
    repeat (first | (refine RunH ?_; intro w hL hB; try clear w) | (refine Both.mk ?_ ?_ <;> conv => whnf) | fail)
    refine (begin_fn cb cm 0 0 0 3 vol key ck 0 (.slice none 0 0) [] _ (by omega) (by omega) (by omega) (.head _) (by simp) (by omega) (by omega) (by omega) (by omega) ((hL.nilRow 5 1).perm ((List.perm_append_comm (l₁ := [_]) (l₂ := [_, _])).append_right _)) hB).mono fun r w hr => ?_
    rw [if_neg (by decide)] at hr
    obtain ⟨qb, sm, xd, ov, nv, dv, hr, hB, hL⟩ := hr
    subst hr
    obtain ⟨oa, oc, rfl⟩ := (show SlN w 5 ov 1 _ from hL.rowN (i := 4) rfl).shape
    obtain ⟨⟨ob, rfl⟩, _⟩ := own_addr (hL.at (i := 4) rfl) (by omega)
    obtain ⟨na, nc, rfl⟩ : ∃ a c, nv = .slice a 3 c := (nR_sl (hL.at (i := 5) rfl)).shape
    obtain ⟨⟨nb, rfl⟩, _⟩ := own_addr (show w.ownsRow 0 3 1 _ _ _ from hL.at (i := 5) rfl) (by simp)
    conv => whnf
    repeat (first | (refine RunH ?_; intro w hL hB; try clear w) | (refine Both.mk ?_ ?_ <;> conv => whnf) | (intro o9 ho9; conv => whnf) | (refine Ld.row1 ttOk (hL.rowN (i := 4) rfl).rowOf rfl rfl (k := 3) rfl (by omega) ?_; conv => whnf) | (refine Ld.row1 ttOk (hL.rowN (i := 5) rfl).rowOf rfl rfl (k := 0) rfl (by omega) ?_; conv => whnf) | (refine Lq.of_class (fun x hx => by subst hx; exact Ld.row1 ttOk (hL.rowN (i := 4) rfl).rowOf rfl rfl (k := 3) rfl (by omega) rfl) ?_; conv => whnf) | (refine Lq.of_class (fun x hx => by subst hx; exact Ld.row1 ttOk (hL.rowN (i := 5) rfl).rowOf rfl rfl (k := 0) rfl (by omega) rfl) ?_; conv => whnf) | fail)
    have hC : ∀ {x : World} {L' : List Res}, Sep Tryd.prog w0.heap.size w0 x L' → .row 42 5 (.slice (some ⟨ob, 0, none⟩) 1 oc) 1 (mC 0 50 (.slice (some ⟨nb, 0, none⟩) 3 nc) dv) ∈ L' → nR (.slice (some ⟨nb, 0, none⟩) 3 nc) [0 + 1, 4, vol] ∈ L' → .blk fb [.int .i64 vol, .int .u64 key, .int .u32 ck] 25 ∈ L' →
        Row x ob 0 (mC 0 50 (.slice (some ⟨nb, 0, none⟩) 3 nc) dv) ∧ Row x nb 0 (numC [0 + 1, 4, vol]) ∧ Blk x fb [.int .i64 vol, .int .u64 key, .int .u32 ck] 25 := fun {x L'} h a b c => ⟨(SlN.of_own (show x.ownsRow 0 42 5 _ _ _ from h.hold _ a)).rowOf, (nR_sl (h.hold _ b)).toN.rowOf, h.hold _ c⟩
    refine V.tree ttOk (fun x => Row x ob 0 (mC 0 50 (.slice (some ⟨nb, 0, none⟩) 3 nc) dv) ∧ Row x nb 0 (numC [0 + 1, 4, vol]) ∧ Blk x fb [.int .i64 vol, .int .u64 key, .int .u32 ck] 25) (.q 0 (.q 1 (.q 2 (.q 3 (.q 4 (.q 5 (.q 6 (.q 7 (.q 8 (.alt 9 (.q 10 (.alt 11 (.q 12 (.q 13 (.q 14 (.q 15 (.q 16 .nil))))) .stop)) .stop)))))))))) mixed (by decide +kernel) (hC hL.drew (by repeat (first | exact .head _ | apply List.Mem.tail)) (by repeat (first | exact .head _ | apply List.Mem.tail)) (by repeat (first | exact .head _ | apply List.Mem.tail))) ?_
    replace hL := hL.drew
    conv => whnf
    repeat (first | (refine RunH ?_; intro w hL hB; try clear w) | (refine Both.mk ?_ ?_ <;> conv => whnf) | (intro o9 ho9; conv => whnf) | (refine Lq.of_class (fun x hx => Ld.row1 ttOk hx.1 rfl rfl (k := 3) rfl (by omega) rfl) ?_; conv => whnf) | (refine Lq.of_class (fun x hx => Ld.row1 ttOk hx.2.1 rfl rfl (k := 0) rfl (by omega) rfl) ?_; conv => whnf) | (refine Lq.of_class (fun x hx => Ld.blk ttOk rfl rfl hx.2.2 rfl rfl) ?_; conv => whnf) | (refine And.intro (hC hL (by repeat (first | exact .head _ | apply List.Mem.tail)) (by repeat (first | exact .head _ | apply List.Mem.tail)) (by repeat (first | exact .head _ | apply List.Mem.tail))) ?_; conv => whnf) | (refine Rv.buildS (len := 8) (vs := [.int .i64 (0 + 1), .int .i64 0, .int .i64 vol, .int .i64 0, .int .i64 5, .int .i64 0, .int .i64 0, .int .i64 1]) ttOk hL tl40 tl3 rfl rfl (by intro u hu; simp only [List.mem_cons, List.not_mem_nil, or_false] at hu; rcases hu with rfl | rfl | rfl | rfl | rfl | rfl | rfl | rfl <;> rfl) (by decide) (by decide) hB (fun b8 w hL hB => ?_); conv => whnf) | fail)
    refine (hear_get cb cm qb sm 0 (0 + 1) (0 + 1) _ 0 0 (0 + 1) (.slice (some ⟨b8, 0, none⟩) 8 8) (.slice none 0 0) 5 0 [1] _ rfl (by omega) rfl rfl rfl (by simp) (by simp) (by omega) rfl ⟨hk0, (by show key < _; omega)⟩ hck (by omega) ⟨_, _, _, rfl⟩ (hL.perm (p14 _ _ _ _ _ _)) hB (.head _)).mono fun r w hr => ?_
    clear hL hB
    obtain ⟨nv8, sm2, ov2, nv2, dv2, hr, hB, hL⟩ := hr
    subst hr
    conv => whnf
    refine ⟨hC hL (by repeat (first | exact .head _ | apply List.Mem.tail)) (by repeat (first | exact .head _ | apply List.Mem.tail)) (by repeat (first | exact .head _ | apply List.Mem.tail)), ?_⟩
    clear hC
    obtain ⟨oa2, oc2, rfl⟩ := (show SlN w 5 ov2 1 _ from hL.rowN (i := 4) rfl).shape
    obtain ⟨⟨ob2, rfl⟩, _⟩ := own_addr (hL.at (i := 4) rfl) (by omega)
    obtain ⟨na2, nc2, rfl⟩ : ∃ a c, nv2 = .slice a 6 c := (nR_sl (hL.at (i := 5) rfl)).shape
    obtain ⟨⟨nb2, rfl⟩, _⟩ := own_addr (show w.ownsRow 0 3 1 _ _ _ from hL.at (i := 5) rfl) (by simp)
    conv => whnf
    repeat (first | (refine RunH ?_; intro w hL hB; try clear w) | (refine Both.mk ?_ ?_ <;> conv => whnf) | (intro o9 ho9; conv => whnf) | (refine Ld.row1 ttOk (hL.rowN (i := 4) rfl).rowOf rfl rfl (k := 2) rfl (by omega) ?_; conv => whnf) | (refine Ld.row1 ttOk (hL.rowN (i := 4) rfl).rowOf rfl rfl (k := 3) rfl (by omega) ?_; conv => whnf) | (refine Ld.row1 ttOk (hL.rowN (i := 5) rfl).rowOf rfl rfl (k := 0) rfl (by omega) ?_; conv => whnf) | fail)
    refine Rv.buildS (len := 2) (vs := [.int .i64 (0 + 1 + 1), .int .i64 0]) ttOk hL tl40 tl3 rfl rfl (by intro u hu; simp only [List.mem_cons, List.not_mem_nil, or_false] at hu; rcases hu with rfl | rfl <;> rfl) (by decide) (by decide) hB (fun b2 w hL hB => ?_)
    conv => whnf
    repeat (first | (refine RunH ?_; intro w hL hB; try clear w) | (refine Both.mk ?_ ?_ <;> conv => whnf) | fail)
    refine Rv.buildS (len := 1) (vs := [.int .u8 120]) ttOk hL tl26 tl5 rfl rfl (by intro u hu; simp only [List.mem_singleton] at hu; subst hu; rfl) (by decide) (by decide) hB (fun b1 w hL hB => ?_)
    conv => whnf
    repeat (first | (refine RunH ?_; intro w hL hB; try clear w) | (refine Both.mk ?_ ?_ <;> conv => whnf) | fail)
    refine Rv.sameS ttOk hL 0 tl26 tl5 rfl hB fun w hL hB => ?_
    dsimp only [List.set] at hL
    conv => whnf
    repeat (first | (refine RunH ?_; intro w hL hB; try clear w) | (refine Both.mk ?_ ?_ <;> conv => whnf) | fail)
    refine (hear_read cb cm qb sm2 0 (0 + 1) (0 + 1 + 1) _ 3 (3 + 0) (0 + 1 + 1) (.slice (some ⟨b2, 0, none⟩) 2 2) (.slice (some ⟨b1, 0, none⟩) 1 1) [120] _ rfl (by omega) (by omega) rfl rfl rfl rfl (.ro (.slice (some ⟨b1, 0, none⟩) 1 1) (bv [120])) (.head _) (fun x h => h.1) (by simp) (by omega) (by omega) ⟨_, _, _, rfl⟩ (hL.perm ((List.perm_append_comm (l₁ := [_, _]) (l₂ := [_, _, _, _])).append_right _)) hB (.tail _ (.head _))).mono fun r w hr => ?_
    clear hL hB
    obtain ⟨xv3, sm3, ov3, nv3, dv3, hr, hB, hL⟩ := hr
    subst hr
    obtain ⟨oa3, oc3, rfl⟩ := (show SlN w 5 ov3 1 _ from hL.rowN (i := 4) rfl).shape
    obtain ⟨⟨ob3, rfl⟩, _⟩ := own_addr (hL.at (i := 4) rfl) (by omega)
    obtain ⟨na3, nc3, rfl⟩ : ∃ a c, nv3 = .slice a 3 c := (nR_sl (hL.at (i := 5) rfl)).shape
    obtain ⟨⟨nb3, rfl⟩, _⟩ := own_addr (show w.ownsRow 0 3 1 _ _ _ from hL.at (i := 5) rfl) (by simp)
    conv => whnf
    repeat (first | (refine RunH ?_; intro w hL hB; try clear w) | (refine Both.mk ?_ ?_ <;> conv => whnf) | (intro o9 ho9; conv => whnf) | (refine Ld.row1 ttOk (hL.rowN (i := 4) rfl).rowOf rfl rfl (k := 2) rfl (by omega) ?_; conv => whnf) | fail)
    have hC : ∀ {x : World} {L' : List Res}, Sep Tryd.prog w0.heap.size w0 x L' → .row 42 5 (.slice (some ⟨ob3, 0, none⟩) 1 oc3) 1 (mC 0 50 (.slice (some ⟨nb3, 0, none⟩) 3 nc3) dv3) ∈ L' → nR (.slice (some ⟨nb3, 0, none⟩) 3 nc3) [0 + 1 + 1 + 1, 4, vol] ∈ L' → .blk fb [.int .i64 vol, .int .u64 key, .int .u32 ck] 25 ∈ L' →
        Row x ob3 0 (mC 0 50 (.slice (some ⟨nb3, 0, none⟩) 3 nc3) dv3) ∧ Row x nb3 0 (numC [0 + 1 + 1 + 1, 4, vol]) ∧ Blk x fb [.int .i64 vol, .int .u64 key, .int .u32 ck] 25 := fun {x L'} h a b c => ⟨(SlN.of_own (show x.ownsRow 0 42 5 _ _ _ from h.hold _ a)).rowOf, (nR_sl (h.hold _ b)).toN.rowOf, h.hold _ c⟩
    refine V.tree ttOk (fun x => Row x ob3 0 (mC 0 50 (.slice (some ⟨nb3, 0, none⟩) 3 nc3) dv3) ∧ Row x nb3 0 (numC [0 + 1 + 1 + 1, 4, vol]) ∧ Blk x fb [.int .i64 vol, .int .u64 key, .int .u32 ck] 25) (.q 0 (.q 1 (.q 2 (.q 3 (.q 4 (.q 5 (.q 6 (.q 7 (.q 8 (.q 9 (.q 10 (.alt 11 (.q 12 (.alt 13 (.q 14 (.q 15 (.q 16 (.q 17 (.q 18 .nil))))) .stop)) .stop)))))))))))) mixed (by decide +kernel) (hC hL.drew (by repeat (first | exact .head _ | apply List.Mem.tail)) (by repeat (first | exact .head _ | apply List.Mem.tail)) (by repeat (first | exact .head _ | apply List.Mem.tail))) ?_
    replace hL := hL.drew
    conv => whnf
    repeat (first | (refine RunH ?_; intro w hL hB; try clear w) | (refine Both.mk ?_ ?_ <;> conv => whnf) | (intro o9 ho9; conv => whnf) | (refine Lq.of_class (fun x hx => Ld.row1 ttOk hx.1 rfl rfl (k := 3) rfl (by omega) rfl) ?_; conv => whnf) | (refine Lq.of_class (fun x hx => Ld.row1 ttOk hx.2.1 rfl rfl (k := 0) rfl (by omega) rfl) ?_; conv => whnf) | (refine Lq.of_class (fun x hx => Ld.blk ttOk rfl rfl hx.2.2 rfl rfl) ?_; conv => whnf) | (refine And.intro (hC hL (by repeat (first | exact .head _ | apply List.Mem.tail)) (by repeat (first | exact .head _ | apply List.Mem.tail)) (by repeat (first | exact .head _ | apply List.Mem.tail))) ?_; conv => whnf) | (refine Rv.buildS (len := 8) (vs := [.int .i64 (0 + 1 + 1 + 1), .int .i64 0, .int .i64 vol, .int .i64 0, .int .i64 epoch, .int .i64 0, .int .i64 0, .int .i64 1]) ttOk hL tl40 tl3 rfl rfl (by intro u hu; simp only [List.mem_cons, List.not_mem_nil, or_false] at hu; rcases hu with rfl | rfl | rfl | rfl | rfl | rfl | rfl | rfl <;> rfl) (by decide) (by decide) hB (fun bz w hL hB => ?_); conv => whnf) | fail)
    by_cases h5 : epoch = 5
    · subst h5
      obtain ⟨xa, xc, hxv⟩ : ∃ a c, xv3 = .slice a 1 c := (bR_sl (hL.at (i := 8) rfl)).shape
      refine (hear_ok cb cm qb sm3 0 (0 + 1) (0 + 1 + 1 + 1) _ 0 0 (0 + 1 + 1 + 1) (.slice (some ⟨bz, 0, none⟩) 8 8) (.slice none 0 0) 0 5 0 0 [1] xa 1 xc _ rfl (by omega) rfl rfl rfl (by simp) (by simp) (by omega) (by omega) (by omega) ⟨rfl, rfl⟩ ⟨(by show (0 : Int) ≤ 0 + 1; decide), (by show (0 : Int) + 1 ≤ 1000000; decide)⟩ hxv ⟨_, _, _, rfl⟩ (hL.perm (p14 _ _ _ _ _ _)) hB (.head _)).mono fun r w hr => ?_
      clear hL hB
      obtain ⟨rv, hr, hB, hL⟩ := hr
      subst hr
      obtain ⟨ra, rc, rfl⟩ := (show SlN w 6 rv 1 _ from hL.rowN (i := 2) rfl).shape
      obtain ⟨⟨rb, rfl⟩, _⟩ := own_addr (hL.at (i := 2) rfl) (by omega)
      conv => whnf
      refine ⟨hC hL (by repeat (first | exact .head _ | apply List.Mem.tail)) (by repeat (first | exact .head _ | apply List.Mem.tail)) (by repeat (first | exact .head _ | apply List.Mem.tail)), ?_⟩
      conv => whnf
      repeat (first | (refine RunH ?_; intro w hL hB; try clear w) | (refine Both.mk ?_ ?_ <;> conv => whnf) | (intro o9 ho9; conv => whnf) | (refine Ld.row1 ttOk (hL.rowN (i := 2) rfl).rowOf rfl rfl (k := 1) rfl (by omega) ?_; conv => whnf) | (refine Ld.row1 ttOk (hL.rowN (i := 2) rfl).rowOf rfl rfl (k := 5) rfl (by omega) ?_; conv => whnf) | fail)
      refine Rv.buildS (len := 1) (vs := [.int .u8 120]) ttOk hL tl26 tl5 rfl rfl (by intro u hu; simp only [List.mem_singleton] at hu; subst hu; rfl) (by decide) (by decide) hB (fun b5 w hL hB => ?_)
      conv => whnf
      repeat (first | (refine RunH ?_; intro w hL hB; try clear w) | (refine Both.mk ?_ ?_ <;> conv => whnf) | fail)
      refine Rv.sameS ttOk hL 0 tl26 tl5 rfl hB fun w hL hB => ?_
      dsimp only [List.set] at hL
      conv => whnf
      repeat (first | (refine RunH ?_; intro w hL hB; try clear w) | (refine Both.mk ?_ ?_ <;> conv => whnf) | fail)
      refine (same_fn _ _ [120] [120] _ (bR_sl (hL.hold (bR xv3 [120]) (by repeat (first | exact .head _ | apply List.Mem.tail))) |> fun h => by rw [hxv] at h; exact h) (hL.at (i := 0) rfl).1).mono fun r w ⟨hr, hbl⟩ => ?_
      subst hr
      rw [decide_eq_true rfl]
      conv => whnf
      repeat (first | (refine RunH ?_; intro w hL hB; try clear w) | (refine Both.mk ?_ ?_ <;> conv => whnf) | fail)
      refine (hkn _ ((hL.call hB (Turns.of_below hbl)).below)).mono fun r w ⟨hr, hb⟩ => ?_
      subst hr
      conv => whnf
      repeat (first | (refine RunH ?_; intro w hL hB; try clear w) | (refine Both.mk ?_ ?_ <;> conv => whnf) | fail)
      exact ⟨rfl, hb⟩
    · refine (hear_no cb cm qb sm3 0 (0 + 1) (0 + 1 + 1 + 1) _ 0 0 (0 + 1 + 1 + 1) (.slice (some ⟨bz, 0, none⟩) 8 8) (.slice none 0 0) 0 epoch 0 0 [1] _ rfl (by omega) rfl rfl rfl (by simp) (by simp) (by omega) (by omega) (by omega) (fun h => h5 h.1) ⟨(by show (0 : Int) ≤ 0; decide), (by show (0 : Int) < 19; decide)⟩ ⟨_, _, _, rfl⟩ (hL.perm (p14 _ _ _ _ _ _)) hB (.head _)).mono fun r w hr => ?_
      clear hL hB
      obtain ⟨hr, hB, hL⟩ := hr
      subst hr
      conv => whnf
      refine ⟨hC hL (by repeat (first | exact .head _ | apply List.Mem.tail)) (by repeat (first | exact .head _ | apply List.Mem.tail)) (by repeat (first | exact .head _ | apply List.Mem.tail)), ?_⟩
      conv => whnf
      repeat (first | (refine RunH ?_; intro w hL hB; try clear w) | (refine Both.mk ?_ ?_ <;> conv => whnf) | fail)
      refine (count_fn cb cm 0 (0 + 1) (0 + 1 + 1 + 1) (.slice none 0 0) (.slice none 0 0) [(.int .i64 (0 + 1), ptrN qb)] _ (hL.perm (((List.Perm.swap _ _ _)).cons _)) hB).mono fun r w' hr => ?_
      obtain ⟨hr, hw'⟩ := hr
      subst hr
      replace hw' := hw'.symm
      subst hw'
      conv => whnf
      repeat (first | (refine RunH ?_; intro w hL hB; try clear w) | (refine Both.mk ?_ ?_ <;> conv => whnf) | fail)
      refine (hkn _ hL.below).mono fun r w ⟨hr, hb⟩ => ?_
      subst hr
      conv => whnf
      repeat (first | (refine RunH ?_; intro w hL hB; try clear w) | (refine Both.mk ?_ ?_ <;> conv => whnf) | fail)
      exact ⟨rfl, hb⟩

  · skip
    repeat (first | (refine RunH ?_; intro w hL hB; try clear w) | (refine Both.mk ?_ ?_ <;> conv => whnf) | fail)
    refine (begin_fn cb cm 0 0 0 3 vol key ck 0 (.slice none 0 0) [] _ (by omega) (by omega) (by omega) (.head _) (by simp) (by omega) (by omega) (by omega) (by omega) ((hL.nilRow 5 1).perm ((List.perm_append_comm (l₁ := [_]) (l₂ := [_, _])).append_right _)) hB).mono fun r w hr => ?_
    rw [if_neg (by decide)] at hr
    obtain ⟨qb, sm, xd, ov, nv, dv, hr, hB, hL⟩ := hr
    subst hr
    obtain ⟨oa, oc, rfl⟩ := (show SlN w 5 ov 1 _ from hL.rowN (i := 4) rfl).shape
    obtain ⟨⟨ob, rfl⟩, _⟩ := own_addr (hL.at (i := 4) rfl) (by omega)
    obtain ⟨na, nc, rfl⟩ : ∃ a c, nv = .slice a 3 c := (nR_sl (hL.at (i := 5) rfl)).shape
    obtain ⟨⟨nb, rfl⟩, _⟩ := own_addr (show w.ownsRow 0 3 1 _ _ _ from hL.at (i := 5) rfl) (by simp)
    conv => whnf
    repeat (first | (refine RunH ?_; intro w hL hB; try clear w) | (refine Both.mk ?_ ?_ <;> conv => whnf) | (intro o9 ho9; conv => whnf) | (refine Ld.row1 ttOk (hL.rowN (i := 4) rfl).rowOf rfl rfl (k := 3) rfl (by omega) ?_; conv => whnf) | (refine Ld.row1 ttOk (hL.rowN (i := 5) rfl).rowOf rfl rfl (k := 0) rfl (by omega) ?_; conv => whnf) | (refine Lq.of_class (fun x hx => by subst hx; exact Ld.row1 ttOk (hL.rowN (i := 4) rfl).rowOf rfl rfl (k := 3) rfl (by omega) rfl) ?_; conv => whnf) | (refine Lq.of_class (fun x hx => by subst hx; exact Ld.row1 ttOk (hL.rowN (i := 5) rfl).rowOf rfl rfl (k := 0) rfl (by omega) rfl) ?_; conv => whnf) | fail)
    have hC : ∀ {x : World} {L' : List Res}, Sep Tryd.prog w0.heap.size w0 x L' → .row 42 5 (.slice (some ⟨ob, 0, none⟩) 1 oc) 1 (mC 0 50 (.slice (some ⟨nb, 0, none⟩) 3 nc) dv) ∈ L' → nR (.slice (some ⟨nb, 0, none⟩) 3 nc) [0 + 1, 4, vol] ∈ L' → .blk fb [.int .i64 vol, .int .u64 key, .int .u32 ck] 25 ∈ L' →
        Row x ob 0 (mC 0 50 (.slice (some ⟨nb, 0, none⟩) 3 nc) dv) ∧ Row x nb 0 (numC [0 + 1, 4, vol]) ∧ Blk x fb [.int .i64 vol, .int .u64 key, .int .u32 ck] 25 := fun {x L'} h a b c => ⟨(SlN.of_own (show x.ownsRow 0 42 5 _ _ _ from h.hold _ a)).rowOf, (nR_sl (h.hold _ b)).toN.rowOf, h.hold _ c⟩
    refine V.tree ttOk (fun x => Row x ob 0 (mC 0 50 (.slice (some ⟨nb, 0, none⟩) 3 nc) dv) ∧ Row x nb 0 (numC [0 + 1, 4, vol]) ∧ Blk x fb [.int .i64 vol, .int .u64 key, .int .u32 ck] 25) (.q 0 (.q 1 (.q 2 (.q 3 (.q 4 (.q 5 (.q 6 (.q 7 (.q 8 (.alt 9 (.q 10 (.alt 11 (.q 12 (.q 13 (.q 14 (.q 15 (.q 16 .nil))))) .stop)) .stop)))))))))) mixed (by decide +kernel) (hC hL.drew (by repeat (first | exact .head _ | apply List.Mem.tail)) (by repeat (first | exact .head _ | apply List.Mem.tail)) (by repeat (first | exact .head _ | apply List.Mem.tail))) ?_
    replace hL := hL.drew
    conv => whnf
    repeat (first | (refine RunH ?_; intro w hL hB; try clear w) | (refine Both.mk ?_ ?_ <;> conv => whnf) | (intro o9 ho9; conv => whnf) | (refine Lq.of_class (fun x hx => Ld.row1 ttOk hx.1 rfl rfl (k := 3) rfl (by omega) rfl) ?_; conv => whnf) | (refine Lq.of_class (fun x hx => Ld.row1 ttOk hx.2.1 rfl rfl (k := 0) rfl (by omega) rfl) ?_; conv => whnf) | (refine Lq.of_class (fun x hx => Ld.blk ttOk rfl rfl hx.2.2 rfl rfl) ?_; conv => whnf) | (refine And.intro (hC hL (by repeat (first | exact .head _ | apply List.Mem.tail)) (by repeat (first | exact .head _ | apply List.Mem.tail)) (by repeat (first | exact .head _ | apply List.Mem.tail))) ?_; conv => whnf) | (refine Rv.buildS (len := 8) (vs := [.int .i64 (0 + 1), .int .i64 0, .int .i64 vol, .int .i64 0, .int .i64 5, .int .i64 0, .int .i64 0, .int .i64 1]) ttOk hL tl40 tl3 rfl rfl (by intro u hu; simp only [List.mem_cons, List.not_mem_nil, or_false] at hu; rcases hu with rfl | rfl | rfl | rfl | rfl | rfl | rfl | rfl <;> rfl) (by decide) (by decide) hB (fun b8 w hL hB => ?_); conv => whnf) | fail)
    refine (hear_get cb cm qb sm 0 (0 + 1) (0 + 1) _ 0 0 (0 + 1) (.slice (some ⟨b8, 0, none⟩) 8 8) (.slice none 0 0) 5 0 [1] _ rfl (by omega) rfl rfl rfl (by simp) (by simp) (by omega) rfl ⟨hk0, (by show key < _; omega)⟩ hck (by omega) ⟨_, _, _, rfl⟩ (hL.perm (p14 _ _ _ _ _ _)) hB (.head _)).mono fun r w hr => ?_
    clear hL hB
    obtain ⟨nv8, sm2, ov2, nv2, dv2, hr, hB, hL⟩ := hr
    subst hr
    conv => whnf
    refine ⟨hC hL (by repeat (first | exact .head _ | apply List.Mem.tail)) (by repeat (first | exact .head _ | apply List.Mem.tail)) (by repeat (first | exact .head _ | apply List.Mem.tail)), ?_⟩
    clear hC
    obtain ⟨oa2, oc2, rfl⟩ := (show SlN w 5 ov2 1 _ from hL.rowN (i := 4) rfl).shape
    obtain ⟨⟨ob2, rfl⟩, _⟩ := own_addr (hL.at (i := 4) rfl) (by omega)
    obtain ⟨na2, nc2, rfl⟩ : ∃ a c, nv2 = .slice a 6 c := (nR_sl (hL.at (i := 5) rfl)).shape
    obtain ⟨⟨nb2, rfl⟩, _⟩ := own_addr (show w.ownsRow 0 3 1 _ _ _ from hL.at (i := 5) rfl) (by simp)
    conv => whnf
    repeat (first | (refine RunH ?_; intro w hL hB; try clear w) | (refine Both.mk ?_ ?_ <;> conv => whnf) | (intro o9 ho9; conv => whnf) | (refine Ld.row1 ttOk (hL.rowN (i := 4) rfl).rowOf rfl rfl (k := 2) rfl (by omega) ?_; conv => whnf) | (refine Ld.row1 ttOk (hL.rowN (i := 4) rfl).rowOf rfl rfl (k := 3) rfl (by omega) ?_; conv => whnf) | (refine Ld.row1 ttOk (hL.rowN (i := 5) rfl).rowOf rfl rfl (k := 0) rfl (by omega) ?_; conv => whnf) | fail)
    refine Rv.buildS (len := 2) (vs := [.int .i64 (0 + 1 + 1), .int .i64 0]) ttOk hL tl40 tl3 rfl rfl (by intro u hu; simp only [List.mem_cons, List.not_mem_nil, or_false] at hu; rcases hu with rfl | rfl <;> rfl) (by decide) (by decide) hB (fun b2 w hL hB => ?_)
    conv => whnf
    repeat (first | (refine RunH ?_; intro w hL hB; try clear w) | (refine Both.mk ?_ ?_ <;> conv => whnf) | fail)
    refine Rv.buildS (len := 1) (vs := [.int .u8 120]) ttOk hL tl26 tl5 rfl rfl (by intro u hu; simp only [List.mem_singleton] at hu; subst hu; rfl) (by decide) (by decide) hB (fun b1 w hL hB => ?_)
    conv => whnf
    repeat (first | (refine RunH ?_; intro w hL hB; try clear w) | (refine Both.mk ?_ ?_ <;> conv => whnf) | fail)
    refine Rv.sameS ttOk hL 0 tl26 tl5 rfl hB fun w hL hB => ?_
    dsimp only [List.set] at hL
    conv => whnf
    repeat (first | (refine RunH ?_; intro w hL hB; try clear w) | (refine Both.mk ?_ ?_ <;> conv => whnf) | fail)
    refine (hear_read cb cm qb sm2 0 (0 + 1) (0 + 1 + 1) _ 3 (3 + 0) (0 + 1 + 1) (.slice (some ⟨b2, 0, none⟩) 2 2) (.slice (some ⟨b1, 0, none⟩) 1 1) [120] _ rfl (by omega) (by omega) rfl rfl rfl rfl (.ro (.slice (some ⟨b1, 0, none⟩) 1 1) (bv [120])) (.head _) (fun x h => h.1) (by simp) (by omega) (by omega) ⟨_, _, _, rfl⟩ (hL.perm ((List.perm_append_comm (l₁ := [_, _]) (l₂ := [_, _, _, _])).append_right _)) hB (.tail _ (.head _))).mono fun r w hr => ?_
    clear hL hB
    obtain ⟨xv3, sm3, ov3, nv3, dv3, hr, hB, hL⟩ := hr
    subst hr
    obtain ⟨oa3, oc3, rfl⟩ := (show SlN w 5 ov3 1 _ from hL.rowN (i := 4) rfl).shape
    obtain ⟨⟨ob3, rfl⟩, _⟩ := own_addr (hL.at (i := 4) rfl) (by omega)
    obtain ⟨na3, nc3, rfl⟩ : ∃ a c, nv3 = .slice a 3 c := (nR_sl (hL.at (i := 5) rfl)).shape
    obtain ⟨⟨nb3, rfl⟩, _⟩ := own_addr (show w.ownsRow 0 3 1 _ _ _ from hL.at (i := 5) rfl) (by simp)
    conv => whnf
    repeat (first | (refine RunH ?_; intro w hL hB; try clear w) | (refine Both.mk ?_ ?_ <;> conv => whnf) | (intro o9 ho9; conv => whnf) | (refine Ld.row1 ttOk (hL.rowN (i := 4) rfl).rowOf rfl rfl (k := 2) rfl (by omega) ?_; conv => whnf) | fail)
    have hC : ∀ {x : World} {L' : List Res}, Sep Tryd.prog w0.heap.size w0 x L' → .row 42 5 (.slice (some ⟨ob3, 0, none⟩) 1 oc3) 1 (mC 0 50 (.slice (some ⟨nb3, 0, none⟩) 3 nc3) dv3) ∈ L' → nR (.slice (some ⟨nb3, 0, none⟩) 3 nc3) [0 + 1 + 1 + 1, 4, vol] ∈ L' → .blk fb [.int .i64 vol, .int .u64 key, .int .u32 ck] 25 ∈ L' →
        Row x ob3 0 (mC 0 50 (.slice (some ⟨nb3, 0, none⟩) 3 nc3) dv3) ∧ Row x nb3 0 (numC [0 + 1 + 1 + 1, 4, vol]) ∧ Blk x fb [.int .i64 vol, .int .u64 key, .int .u32 ck] 25 := fun {x L'} h a b c => ⟨(SlN.of_own (show x.ownsRow 0 42 5 _ _ _ from h.hold _ a)).rowOf, (nR_sl (h.hold _ b)).toN.rowOf, h.hold _ c⟩
    refine V.tree ttOk (fun x => Row x ob3 0 (mC 0 50 (.slice (some ⟨nb3, 0, none⟩) 3 nc3) dv3) ∧ Row x nb3 0 (numC [0 + 1 + 1 + 1, 4, vol]) ∧ Blk x fb [.int .i64 vol, .int .u64 key, .int .u32 ck] 25) (.q 0 (.q 1 (.q 2 (.q 3 (.q 4 (.q 5 (.q 6 (.q 7 (.q 8 (.q 9 (.q 10 (.alt 11 (.q 12 (.alt 13 (.q 14 (.q 15 (.q 16 (.q 17 (.q 18 .nil))))) .stop)) .stop)))))))))))) mixed (by decide +kernel) (hC hL.drew (by repeat (first | exact .head _ | apply List.Mem.tail)) (by repeat (first | exact .head _ | apply List.Mem.tail)) (by repeat (first | exact .head _ | apply List.Mem.tail))) ?_
    replace hL := hL.drew
    conv => whnf
    repeat (first | (refine RunH ?_; intro w hL hB; try clear w) | (refine Both.mk ?_ ?_ <;> conv => whnf) | (intro o9 ho9; conv => whnf) | (refine Lq.of_class (fun x hx => Ld.row1 ttOk hx.1 rfl rfl (k := 3) rfl (by omega) rfl) ?_; conv => whnf) | (refine Lq.of_class (fun x hx => Ld.row1 ttOk hx.2.1 rfl rfl (k := 0) rfl (by omega) rfl) ?_; conv => whnf) | (refine Lq.of_class (fun x hx => Ld.blk ttOk rfl rfl hx.2.2 rfl rfl) ?_; conv => whnf) | (refine And.intro (hC hL (by repeat (first | exact .head _ | apply List.Mem.tail)) (by repeat (first | exact .head _ | apply List.Mem.tail)) (by repeat (first | exact .head _ | apply List.Mem.tail))) ?_; conv => whnf) | (refine Rv.buildS (len := 8) (vs := [.int .i64 (0 + 1 + 1 + 1), .int .i64 0, .int .i64 vol, .int .i64 0, .int .i64 epoch, .int .i64 1, .int .i64 0, .int .i64 1]) ttOk hL tl40 tl3 rfl rfl (by intro u hu; simp only [List.mem_cons, List.not_mem_nil, or_false] at hu; rcases hu with rfl | rfl | rfl | rfl | rfl | rfl | rfl | rfl <;> rfl) (by decide) (by decide) hB (fun bz w hL hB => ?_); conv => whnf) | fail)
    by_cases h5 : epoch = 5
    · refine (hear_no cb cm qb sm3 0 (0 + 1) (0 + 1 + 1 + 1) _ 0 0 (0 + 1 + 1 + 1) (.slice (some ⟨bz, 0, none⟩) 8 8) (.slice none 0 0) 0 epoch 1 0 [1] _ rfl (by omega) rfl rfl rfl (by simp) (by simp) (by omega) (by omega) (by omega) (fun h => absurd h.2 (by decide)) ⟨(by show (0 : Int) ≤ 0; decide), (by show (0 : Int) < 19; decide)⟩ ⟨_, _, _, rfl⟩ (hL.perm (p14 _ _ _ _ _ _)) hB (.head _)).mono fun r w hr => ?_
      clear hL hB
      obtain ⟨hr, hB, hL⟩ := hr
      subst hr
      conv => whnf
      refine ⟨hC hL (by repeat (first | exact .head _ | apply List.Mem.tail)) (by repeat (first | exact .head _ | apply List.Mem.tail)) (by repeat (first | exact .head _ | apply List.Mem.tail)), ?_⟩
      conv => whnf
      repeat (first | (refine RunH ?_; intro w hL hB; try clear w) | (refine Both.mk ?_ ?_ <;> conv => whnf) | fail)
      refine (count_fn cb cm 0 (0 + 1) (0 + 1 + 1 + 1) (.slice none 0 0) (.slice none 0 0) [(.int .i64 (0 + 1), ptrN qb)] _ (hL.perm (((List.Perm.swap _ _ _)).cons _)) hB).mono fun r w' hr => ?_
      obtain ⟨hr, hw'⟩ := hr
      subst hr
      replace hw' := hw'.symm
      subst hw'
      conv => whnf
      repeat (first | (refine RunH ?_; intro w hL hB; try clear w) | (refine Both.mk ?_ ?_ <;> conv => whnf) | fail)
      refine (hkn _ hL.below).mono fun r w ⟨hr, hb⟩ => ?_
      subst hr
      conv => whnf
      repeat (first | (refine RunH ?_; intro w hL hB; try clear w) | (refine Both.mk ?_ ?_ <;> conv => whnf) | fail)
      exact ⟨rfl, hb⟩
    · refine (hear_no cb cm qb sm3 0 (0 + 1) (0 + 1 + 1 + 1) _ 0 0 (0 + 1 + 1 + 1) (.slice (some ⟨bz, 0, none⟩) 8 8) (.slice none 0 0) 0 epoch 1 0 [1] _ rfl (by omega) rfl rfl rfl (by simp) (by simp) (by omega) (by omega) (by omega) (fun h => absurd h.2 (by decide)) ⟨(by show (0 : Int) ≤ 0; decide), (by show (0 : Int) < 19; decide)⟩ ⟨_, _, _, rfl⟩ (hL.perm (p14 _ _ _ _ _ _)) hB (.head _)).mono fun r w hr => ?_
      clear hL hB
      obtain ⟨hr, hB, hL⟩ := hr
      subst hr
      conv => whnf
      refine ⟨hC hL (by repeat (first | exact .head _ | apply List.Mem.tail)) (by repeat (first | exact .head _ | apply List.Mem.tail)) (by repeat (first | exact .head _ | apply List.Mem.tail)), ?_⟩
      conv => whnf
      repeat (first | (refine RunH ?_; intro w hL hB; try clear w) | (refine Both.mk ?_ ?_ <;> conv => whnf) | fail)
      refine (count_fn cb cm 0 (0 + 1) (0 + 1 + 1 + 1) (.slice none 0 0) (.slice none 0 0) [(.int .i64 (0 + 1), ptrN qb)] _ (hL.perm (((List.Perm.swap _ _ _)).cons _)) hB).mono fun r w' hr => ?_
      obtain ⟨hr, hw'⟩ := hr
      subst hr
      replace hw' := hw'.symm
      subst hw'
      conv => whnf
      repeat (first | (refine RunH ?_; intro w hL hB; try clear w) | (refine Both.mk ?_ ?_ <;> conv => whnf) | fail)
      refine (hkn _ hL.below).mono fun r w ⟨hr, hb⟩ => ?_
      subst hr
      conv => whnf
      repeat (first | (refine RunH ?_; intro w hL hB; try clear w) | (refine Both.mk ?_ ?_ <;> conv => whnf) | fail)
      exact ⟨rfl, hb⟩

end Go.Proofs.YtcjnaljdbbjojaaDoor
