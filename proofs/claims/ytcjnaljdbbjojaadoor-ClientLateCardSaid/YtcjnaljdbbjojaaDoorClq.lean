/- ClientLate, walked. Nothing is claimed here. -/
import Derived.Test.YtcjnaljdbbjojaaDoorClp
namespace Go.Proofs.YtcjnaljdbbjojaaDoor
open Go.RowKit
open Go.Maps (Keyed)
set_option linter.unusedVariables false
set_option linter.unusedSimpArgs false
set_option maxRecDepth 100000

set_option maxHeartbeats 32000000 in
theorem clientLate_fn (vol key ck err : Int) (dv : Value) (d : List UInt8) (w0 : World) (hck : 0 ≤ ck ∧ ck < 4294967296) (hk0 : 0 ≤ key) (hd : Sl w0 dv (bv d)) :
    Fn Tryd.prog 3 #[.agg #[.int .i64 vol, .int .u64 key, .int .u32 ck], dv, .int .i64 err] w0 fun r w' => r = .bool true ∧ Below w0.heap.size w0 w' := by
  have hle := hd.le
  obtain ⟨da, dc, rfl⟩ := hd.shape
  rw [bv_length] at hd hle ⊢
  have hL := Sep.start Tryd.prog w0
  have hB := Nat.le_refl w0.heap.size
  have hkn := fun w (hb : Below w0.heap.size w0 w) => (known_fn w).mono fun r w' (h : r = .bool true ∧ Below w.heap.size w w') => (⟨h.1, hb.trans (h.2.mono hb.size)⟩ : r = .bool true ∧ Below w0.heap.size w0 w')
  refine Fn.mk Tryd.func3 rfl (by kernel_rfl) Tryd.ntmps3 rfl (by rw [Tryd.results3]) ?_
  repeat (first | (refine RunH ?_; intro w hL hB; try clear w) | (refine Both.mk ?_ ?_ <;> conv => whnf) | fail)
  (refine Nw.sep hL hB (fun fb w hL hB hfb => ?_); conv => whnf)
  by_cases h1 : vol < 1
  · skip
    repeat (first | (refine RunH ?_; intro w hL hB; try clear w) | (refine Both.mk ?_ ?_ <;> conv => whnf) | fail)
    refine (hkn _ hL.below).mono fun r w ⟨hr, hb⟩ => ?_
    subst hr
    conv => whnf
    repeat (first | (refine RunH ?_; intro w hL hB; try clear w) | (refine Both.mk ?_ ?_ <;> conv => whnf) | fail)
    exact ⟨rfl, hb⟩
  by_cases h2 : 99999999 < vol
  · skip
    repeat (first | (refine RunH ?_; intro w hL hB; try clear w) | (refine Both.mk ?_ ?_ <;> conv => whnf) | fail)
    refine (hkn _ hL.below).mono fun r w ⟨hr, hb⟩ => ?_
    subst hr
    conv => whnf
    repeat (first | (refine RunH ?_; intro w hL hB; try clear w) | (refine Both.mk ?_ ?_ <;> conv => whnf) | fail)
    exact ⟨rfl, hb⟩
  by_cases h3 : key < 1
  · skip
    repeat (first | (refine RunH ?_; intro w hL hB; try clear w) | (refine Both.mk ?_ ?_ <;> conv => whnf) | fail)
    refine (hkn _ hL.below).mono fun r w ⟨hr, hb⟩ => ?_
    subst hr
    conv => whnf
    repeat (first | (refine RunH ?_; intro w hL hB; try clear w) | (refine Both.mk ?_ ?_ <;> conv => whnf) | fail)
    exact ⟨rfl, hb⟩
  by_cases h4 : 4611686018427387904 < key
  · skip
    repeat (first | (refine RunH ?_; intro w hL hB; try clear w) | (refine Both.mk ?_ ?_ <;> conv => whnf) | fail)
    refine (hkn _ hL.below).mono fun r w ⟨hr, hb⟩ => ?_
    subst hr
    conv => whnf
    repeat (first | (refine RunH ?_; intro w hL hB; try clear w) | (refine Both.mk ?_ ?_ <;> conv => whnf) | fail)
    exact ⟨rfl, hb⟩
  by_cases h5 : 1000 < d.length
  · skip
    repeat (first | (refine RunH ?_; intro w hL hB; try clear w) | (refine Both.mk ?_ ?_ <;> conv => whnf) | fail)
    refine (hkn _ hL.below).mono fun r w ⟨hr, hb⟩ => ?_
    subst hr
    conv => whnf
    repeat (first | (refine RunH ?_; intro w hL hB; try clear w) | (refine Both.mk ?_ ?_ <;> conv => whnf) | fail)
    exact ⟨rfl, hb⟩
  by_cases h6 : err < 0
  · skip
    repeat (first | (refine RunH ?_; intro w hL hB; try clear w) | (refine Both.mk ?_ ?_ <;> conv => whnf) | fail)
    refine (hkn _ hL.below).mono fun r w ⟨hr, hb⟩ => ?_
    subst hr
    conv => whnf
    repeat (first | (refine RunH ?_; intro w hL hB; try clear w) | (refine Both.mk ?_ ?_ <;> conv => whnf) | fail)
    exact ⟨rfl, hb⟩
  by_cases h7 : 63 < err
  · skip
    repeat (first | (refine RunH ?_; intro w hL hB; try clear w) | (refine Both.mk ?_ ?_ <;> conv => whnf) | fail)
    refine (hkn _ hL.below).mono fun r w ⟨hr, hb⟩ => ?_
    subst hr
    conv => whnf
    repeat (first | (refine RunH ?_; intro w hL hB; try clear w) | (refine Both.mk ?_ ?_ <;> conv => whnf) | fail)
    exact ⟨rfl, hb⟩
  repeat (first | (refine RunH ?_; intro w hL hB; try clear w) | (refine Both.mk ?_ ?_ <;> conv => whnf) | (refine (config_fn _).mono fun r w hr => ?_; obtain ⟨hr, hw⟩ := hr; subst hr; replace hL := hL.call hB (Turns.of_below hw); replace hB := Nat.le_trans hB hw.size; conv => whnf) | fail)
  refine (new_fn _ hL hB).mono fun r w ⟨cb, cm, hr, hB, hL⟩ => ?_
  subst hr
  conv => whnf
  repeat (first | (refine RunH ?_; intro w hL hB; try clear w) | (refine Both.mk ?_ ?_ <;> conv => whnf) | fail)
  refine (begin_arg cb cm 0 0 0 2 vol key ck 0 (.slice da d.length dc) d _ (by omega) (by omega) (by omega) (fun x hx => hd.below hx) (by omega) (by omega) (by omega) (by omega) (by omega) hL hB).mono fun r w hr => ?_
  rw [if_neg (by decide)] at hr
  obtain ⟨qb, sm, xd, ov1, nv1, dv1, hr, hB, hL⟩ := hr
  subst hr
  obtain ⟨oa1, oc1, rfl⟩ := (show SlN w 5 ov1 1 _ from hL.rowN (i := 4) rfl).shape
  obtain ⟨⟨ob1, rfl⟩, _⟩ := own_addr (hL.at (i := 4) rfl) (by omega)
  obtain ⟨na1, nc1, rfl⟩ : ∃ a c, nv1 = .slice a 3 c := (nR_sl (hL.at (i := 5) rfl)).shape
  obtain ⟨⟨nb1, rfl⟩, _⟩ := own_addr (show w.ownsRow 0 3 1 _ _ _ from hL.at (i := 5) rfl) (by simp)
  conv => whnf
  repeat (first | (refine RunH ?_; intro w hL hB; try clear w) | (refine Both.mk ?_ ?_ <;> conv => whnf) | (refine Ld.row1 ttOk (hL.mrow (by repeat (first | exact .head _ | apply List.Mem.tail))) rfl rfl (k := 0) (by rfl) (by omega) ?_; conv => whnf) | (refine Ld.row1 ttOk (hL.mrow (by repeat (first | exact .head _ | apply List.Mem.tail))) rfl rfl (k := 1) (by rfl) (by omega) ?_; conv => whnf) | (refine Ld.row1 ttOk (hL.mrow (by repeat (first | exact .head _ | apply List.Mem.tail))) rfl rfl (k := 2) (by rfl) (by omega) ?_; conv => whnf) | (refine Ld.row1 ttOk (hL.mrow (by repeat (first | exact .head _ | apply List.Mem.tail))) rfl rfl (k := 3) (by rfl) (by omega) ?_; conv => whnf) | (intro o9 ho9; conv => whnf) | fail)
  refine Rv.buildS (len := 8) (vs := [.int .i64 (0 + 1), .int .i64 0, .int .i64 vol, .int .i64 0, .int .i64 1, .int .i64 0, .int .i64 0, .int .i64 1]) ttOk hL tl40 tl3 rfl rfl (by intro u hu; simp only [List.mem_cons, List.not_mem_nil, or_false] at hu; rcases hu with rfl | rfl | rfl | rfl | rfl | rfl | rfl | rfl <;> rfl) (by decide) (by decide) hB (fun b8 w hL hB => ?_)
  conv => whnf
  repeat (first | (refine RunH ?_; intro w hL hB; try clear w) | (refine Both.mk ?_ ?_ <;> conv => whnf) | fail)
  (refine Nw.sep hL hB (fun lk w hL hB hlk => ?_); conv => whnf)
  repeat (first | (refine RunH ?_; intro w hL hB; try clear w) | (refine Both.mk ?_ ?_ <;> conv => whnf) | fail)
  replace hL : Sep Tryd.prog w0.heap.size w0 w (.blk lk [.int .i64 0, .int .i64 7, .int .i64 51, .slice (some ⟨b8, 0, none⟩) 8 8, .slice none 0 0] 42 :: nR (.slice (some ⟨b8, 0, none⟩) 8 8) [0 + 1, 0, vol, 0, 1, 0, 0, 1] :: _) := hL
  refine (hear_put cb cm qb sm 0 (0 + 1) (0 + 1) _ 0 0 (0 + 1) (.slice (some ⟨b8, 0, none⟩) 8 8) (.slice none 0 0) 1 0 [1] d _ rfl (by omega) rfl rfl rfl rfl (by omega) (by simp) (by simp) ⟨(by show (0 : Int) ≤ 0; decide), (by show (0 : Int) ≤ 1000; decide)⟩ ⟨hk0, (by show key < _; omega)⟩ hck (by repeat (first | exact .head _ | apply List.Mem.tail)) (by omega) (by omega) ⟨_, _, _, rfl⟩ (hL.perm ((List.perm_append_comm (l₁ := [_, _]) (l₂ := [_, _, _, _])).append_right _)) hB (.tail _ (.head _))).mono fun r w hr => ?_
  clear hL hB
  obtain ⟨nv8, sm2, ov2, nv2, dv2, hr, hB, hL⟩ := hr
  subst hr
  obtain ⟨oa2, oc2, rfl⟩ := (show SlN w 5 ov2 1 _ from hL.rowN (i := 4) rfl).shape
  obtain ⟨⟨ob2, rfl⟩, _⟩ := own_addr (hL.at (i := 4) rfl) (by omega)
  obtain ⟨na2, nc2, rfl⟩ : ∃ a c, nv2 = .slice a 6 c := (nR_sl (hL.at (i := 5) rfl)).shape
  obtain ⟨⟨nb2, rfl⟩, _⟩ := own_addr (show w.ownsRow 0 3 1 _ _ _ from hL.at (i := 5) rfl) (by simp)
  conv => whnf
  repeat (first | (refine RunH ?_; intro w hL hB; try clear w) | (refine Both.mk ?_ ?_ <;> conv => whnf) | (refine Ld.row1 ttOk (hL.mrow (by repeat (first | exact .head _ | apply List.Mem.tail))) rfl rfl (k := 0) (by rfl) (by omega) ?_; conv => whnf) | (refine Ld.row1 ttOk (hL.mrow (by repeat (first | exact .head _ | apply List.Mem.tail))) rfl rfl (k := 1) (by rfl) (by omega) ?_; conv => whnf) | (refine Ld.row1 ttOk (hL.mrow (by repeat (first | exact .head _ | apply List.Mem.tail))) rfl rfl (k := 2) (by rfl) (by omega) ?_; conv => whnf) | (refine Ld.row1 ttOk (hL.mrow (by repeat (first | exact .head _ | apply List.Mem.tail))) rfl rfl (k := 3) (by rfl) (by omega) ?_; conv => whnf) | (intro o9 ho9; conv => whnf) | fail)
  refine (hear_none cb cm qb sm2 0 (0 + 1) (0 + 1 + 1) _ 0 (3 + 0) (0 + 1) (.slice (some ⟨b8, 0, none⟩) 8 8) (.slice none 0 0) 51 0 [vol, 0, 1, 0, 0, 1] _ rfl (by omega) (by omega) (fun h => absurd (show (0 : Int) + 1 + 1 = 0 + 1 from h.1) (by decide)) ⟨_, _, _, rfl⟩ hL hB (by repeat (first | exact .head _ | apply List.Mem.tail))).mono fun r w hr => ?_
  clear hL hB
  obtain ⟨hr, hB, hL⟩ := hr
  subst hr
  conv => whnf
  repeat (first | (refine RunH ?_; intro w hL hB; try clear w) | (refine Both.mk ?_ ?_ <;> conv => whnf) | fail)
  refine Rv.buildS (len := 2) (vs := [.int .i64 (0 + 1), .int .i64 err]) ttOk hL tl40 tl3 rfl rfl (by intro u hu; simp only [List.mem_cons, List.not_mem_nil, or_false] at hu; rcases hu with rfl | rfl <;> rfl) (by decide) (by decide) hB (fun be1 w hL hB => ?_)
  conv => whnf
  repeat (first | (refine RunH ?_; intro w hL hB; try clear w) | (refine Both.mk ?_ ?_ <;> conv => whnf) | fail)
  refine (hear_none cb cm qb sm2 0 (0 + 1) (0 + 1 + 1) _ 3 (3 + 0) (0 + 1) (.slice (some ⟨be1, 0, none⟩) 2 2) (.slice none 0 0) 30 err [] _ rfl (by omega) (by omega) (fun h => absurd (show (0 : Int) + 1 + 1 = 0 + 1 from h.1) (by decide)) ⟨_, _, _, rfl⟩ (hL.perm (p14 _ _ _ _ _ _)) hB (.head _)).mono fun r w hr => ?_
  clear hL hB
  obtain ⟨hr, hB, hL⟩ := hr
  subst hr
  conv => whnf
  repeat (first | (refine RunH ?_; intro w hL hB; try clear w) | (refine Both.mk ?_ ?_ <;> conv => whnf) | (refine Ld.row1 ttOk (hL.mrow (by repeat (first | exact .head _ | apply List.Mem.tail))) rfl rfl (k := 0) (by rfl) (by omega) ?_; conv => whnf) | (refine Ld.row1 ttOk (hL.mrow (by repeat (first | exact .head _ | apply List.Mem.tail))) rfl rfl (k := 1) (by rfl) (by omega) ?_; conv => whnf) | (refine Ld.row1 ttOk (hL.mrow (by repeat (first | exact .head _ | apply List.Mem.tail))) rfl rfl (k := 2) (by rfl) (by omega) ?_; conv => whnf) | (refine Ld.row1 ttOk (hL.mrow (by repeat (first | exact .head _ | apply List.Mem.tail))) rfl rfl (k := 3) (by rfl) (by omega) ?_; conv => whnf) | (intro o9 ho9; conv => whnf) | fail)
  refine Rv.buildS (len := 2) (vs := [.int .i64 (0 + 1 + 1), .int .i64 err]) ttOk hL tl40 tl3 rfl rfl (by intro u hu; simp only [List.mem_cons, List.not_mem_nil, or_false] at hu; rcases hu with rfl | rfl <;> rfl) (by decide) (by decide) hB (fun be2 w hL hB => ?_)
  conv => whnf
  repeat (first | (refine RunH ?_; intro w hL hB; try clear w) | (refine Both.mk ?_ ?_ <;> conv => whnf) | fail)
  refine (hear_none cb cm qb sm2 0 (0 + 1) (0 + 1 + 1) _ 4 (3 + 0) (0 + 1 + 1) (.slice (some ⟨be2, 0, none⟩) 2 2) (.slice none 0 0) 30 err [] _ rfl (by omega) (by omega) (fun h => absurd h.2 (by decide)) ⟨_, _, _, rfl⟩ (hL.perm (p14 _ _ _ _ _ _)) hB (.head _)).mono fun r w hr => ?_
  clear hL hB
  obtain ⟨hr, hB, hL⟩ := hr
  subst hr
  conv => whnf
  repeat (first | (refine RunH ?_; intro w hL hB; try clear w) | (refine Both.mk ?_ ?_ <;> conv => whnf) | (refine Ld.row1 ttOk (hL.mrow (by repeat (first | exact .head _ | apply List.Mem.tail))) rfl rfl (k := 0) (by rfl) (by omega) ?_; conv => whnf) | (refine Ld.row1 ttOk (hL.mrow (by repeat (first | exact .head _ | apply List.Mem.tail))) rfl rfl (k := 1) (by rfl) (by omega) ?_; conv => whnf) | (refine Ld.row1 ttOk (hL.mrow (by repeat (first | exact .head _ | apply List.Mem.tail))) rfl rfl (k := 2) (by rfl) (by omega) ?_; conv => whnf) | (refine Ld.row1 ttOk (hL.mrow (by repeat (first | exact .head _ | apply List.Mem.tail))) rfl rfl (k := 3) (by rfl) (by omega) ?_; conv => whnf) | (intro o9 ho9; conv => whnf) | fail)
  refine Rv.buildS (len := 2) (vs := [.int .i64 (0 + 1 + 1), .int .i64 0]) ttOk hL tl40 tl3 rfl rfl (by intro u hu; simp only [List.mem_cons, List.not_mem_nil, or_false] at hu; rcases hu with rfl | rfl <;> rfl) (by decide) (by decide) hB (fun be3 w hL hB => ?_)
  conv => whnf
  repeat (first | (refine RunH ?_; intro w hL hB; try clear w) | (refine Both.mk ?_ ?_ <;> conv => whnf) | fail)
  refine (hear_wrote cb cm qb sm2 0 (0 + 1) (0 + 1 + 1) _ 3 (3 + 0) (0 + 1 + 1) (.slice (some ⟨be3, 0, none⟩) 2 2) (.slice none 0 0) _ rfl (by omega) (by omega) rfl rfl (fun h => absurd (show (2 : Int) = 3 from h) (by decide)) (by omega) (by omega) ⟨_, _, _, rfl⟩ (hL.perm (p14 _ _ _ _ _ _)) hB (.head _)).mono fun r w hr => ?_
  clear hL hB
  obtain ⟨sm3, ov3, nv3, dv3, hr, hB, hL⟩ := hr
  subst hr
  obtain ⟨oa3, oc3, rfl⟩ := (show SlN w 5 ov3 1 _ from hL.rowN (i := 4) rfl).shape
  obtain ⟨⟨ob3, rfl⟩, _⟩ := own_addr (hL.at (i := 4) rfl) (by omega)
  obtain ⟨na3, nc3, rfl⟩ : ∃ a c, nv3 = .slice a 3 c := (nR_sl (hL.at (i := 5) rfl)).shape
  obtain ⟨⟨nb3, rfl⟩, _⟩ := own_addr (show w.ownsRow 0 3 1 _ _ _ from hL.at (i := 5) rfl) (by simp)
  conv => whnf
  repeat (first | (refine RunH ?_; intro w hL hB; try clear w) | (refine Both.mk ?_ ?_ <;> conv => whnf) | (refine Ld.row1 ttOk (hL.mrow (by repeat (first | exact .head _ | apply List.Mem.tail))) rfl rfl (k := 0) (by rfl) (by omega) ?_; conv => whnf) | (refine Ld.row1 ttOk (hL.mrow (by repeat (first | exact .head _ | apply List.Mem.tail))) rfl rfl (k := 1) (by rfl) (by omega) ?_; conv => whnf) | (refine Ld.row1 ttOk (hL.mrow (by repeat (first | exact .head _ | apply List.Mem.tail))) rfl rfl (k := 2) (by rfl) (by omega) ?_; conv => whnf) | (refine Ld.row1 ttOk (hL.mrow (by repeat (first | exact .head _ | apply List.Mem.tail))) rfl rfl (k := 3) (by rfl) (by omega) ?_; conv => whnf) | (intro o9 ho9; conv => whnf) | fail)
  refine (hear_none cb cm qb sm3 0 (0 + 1) (0 + 1 + 1 + 1) _ 0 0 (0 + 1) (.slice (some ⟨b8, 0, none⟩) 8 8) (.slice none 0 0) 51 0 [vol, 0, 1, 0, 0, 1] _ rfl (by omega) (by omega) (fun h => absurd (show (0 : Int) + 1 + 1 + 1 = 0 + 1 from h.1) (by decide)) ⟨_, _, _, rfl⟩ hL hB (by repeat (first | exact .head _ | apply List.Mem.tail))).mono fun r w hr => ?_
  clear hL hB
  obtain ⟨hr, hB, hL⟩ := hr
  subst hr
  conv => whnf
  repeat (first | (refine RunH ?_; intro w hL hB; try clear w) | (refine Both.mk ?_ ?_ <;> conv => whnf) | (intro o9 ho9; conv => whnf) | (refine Lq.of_class (v := .slice (some ⟨nb3, 0, none⟩) 3 nc3) (fun x hx => by subst hx; exact Ld.row1 ttOk (hL.mrow (by repeat (first | exact .head _ | apply List.Mem.tail))) rfl rfl (k := 3) (by rfl) (by omega) rfl) ?_; conv => whnf) | (refine Lq.of_class (v := .int .i64 (0 + 1 + 1 + 1)) (fun x hx => by subst hx; exact Ld.row1 ttOk (hL.mrow (by repeat (first | exact .head _ | apply List.Mem.tail))) rfl rfl (k := 0) (by rfl) (by omega) rfl) ?_; conv => whnf) | fail)
  replace hL := hL.front (i := 15) (R := nR (.slice (some ⟨b8, 0, none⟩) 8 8) [0 + 1, 0, vol, 0, 1, 0, 0, 1]) rfl
  obtain rfl : o9 = 0 := by omega
  refine St.rowS ttOk hL 0 rfl rfl rfl rfl (by simp [numC]) hB (fun w hL hB => ?_)
  replace hL : Sep Tryd.prog w0.heap.size w0 w (nR (.slice (some ⟨b8, 0, none⟩) 8 8) [0 + 1 + 1 + 1, 0, vol, 0, 1, 0, 0, 1] :: _) := hL
  dsimp only [List.eraseIdx] at hL
  conv => whnf
  repeat (first | (refine RunH ?_; intro w hL hB; try clear w) | (refine Both.mk ?_ ?_ <;> conv => whnf) | fail)
  refine (hear_ok cb cm qb sm3 0 (0 + 1) (0 + 1 + 1 + 1) _ 0 0 (0 + 1 + 1 + 1) (.slice (some ⟨b8, 0, none⟩) 8 8) (.slice none 0 0) 0 1 0 0 [1] none 0 0 _ rfl (by omega) rfl rfl rfl (by simp) (by simp) (by omega) (by omega) (by omega) ⟨rfl, rfl⟩ ⟨(by show (0 : Int) ≤ 0 + 1; decide), (by show (0 : Int) + 1 ≤ 1000000; decide)⟩ rfl ⟨_, _, _, rfl⟩ (hL.perm (p14 _ _ _ _ _ _)) hB (.head _)).mono fun r w hr => ?_
  clear hL hB
  obtain ⟨rv, hr, hB, hL⟩ := hr
  subst hr
  obtain ⟨ra, rc, rfl⟩ := (show SlN w 6 rv 1 _ from hL.rowN (i := 2) rfl).shape
  obtain ⟨⟨rb, rfl⟩, _⟩ := own_addr (hL.at (i := 2) rfl) (by omega)
  conv => whnf
  repeat (first | (refine RunH ?_; intro w hL hB; try clear w) | (refine Both.mk ?_ ?_ <;> conv => whnf) | (refine Ld.row1 ttOk (hL.mrow (by repeat (first | exact .head _ | apply List.Mem.tail))) rfl rfl (k := 0) (by rfl) (by omega) ?_; conv => whnf) | (refine Ld.row1 ttOk (hL.mrow (by repeat (first | exact .head _ | apply List.Mem.tail))) rfl rfl (k := 1) (by rfl) (by omega) ?_; conv => whnf) | (refine Ld.row1 ttOk (hL.mrow (by repeat (first | exact .head _ | apply List.Mem.tail))) rfl rfl (k := 2) (by rfl) (by omega) ?_; conv => whnf) | (refine Ld.row1 ttOk (hL.mrow (by repeat (first | exact .head _ | apply List.Mem.tail))) rfl rfl (k := 3) (by rfl) (by omega) ?_; conv => whnf) | (intro o9 ho9; conv => whnf) | fail)
  refine (count_fn cb cm 0 (0 + 1) (0 + 1 + 1 + 1) (.slice none 0 0) (.slice none 0 0) [] _ hL hB).mono fun r w' hr => ?_
  obtain ⟨hr, hw'⟩ := hr
  subst hr
  replace hw' := hw'.symm
  subst hw'
  conv => whnf
  repeat (first | (refine RunH ?_; intro w hL hB; try clear w) | (refine Both.mk ?_ ?_ <;> conv => whnf) | fail)
  refine (hkn _ hL.below).mono fun r w ⟨hr, hb⟩ => ?_
  subst hr
  conv => whnf
  repeat (first | (refine RunH ?_; intro w hL hB; try clear w) | (refine Both.mk ?_ ?_ <;> conv => whnf) | fail)
  exact ⟨rfl, hb⟩
end Go.Proofs.YtcjnaljdbbjojaaDoor
