/- What Part tells of torn shards is the bytes, in plain Lean. The law's cut. Nothing is claimed here. -/
import Derived.Test.YtlldgodjfpgbcaaDoorK20
namespace Go.Proofs.YtlldgodjfpgbcaaDoor
set_option linter.unusedVariables false
set_option linter.unusedSimpArgs false

theorem flat_congr {α β : Type} {f g : α → List β} : ∀ {l : List α}, (∀ x ∈ l, f x = g x) → l.flatMap f = l.flatMap g
  | [], _ => rfl
  | x :: l, h => by rw [List.flatMap_cons, List.flatMap_cons, h x (List.mem_cons_self ..), flat_congr fun y hy => h y (List.mem_cons_of_mem _ hy)]
theorem chunk_flat (g : Nat → List UInt8) (hg : ∀ r, (g r).length = 16) : ∀ H r, r < H → chunk ((List.range H).flatMap g) r = g r
  | 0, r, h => by omega
  | H + 1, r, h => by
    have hlen : ∀ H, ((List.range H).flatMap g).length = 16 * H := fun H => by
      induction H with
      | zero => rfl
      | succ H ih => rw [List.range_succ, List.flatMap_append, List.length_append, ih, List.flatMap_singleton, hg]; omega
    rw [List.range_succ, List.flatMap_append, List.flatMap_singleton]
    by_cases e : r = H
    · subst e
      unfold chunk
      rw [List.drop_append_of_le_length (by rw [hlen]; exact Nat.le_refl _), List.drop_of_length_le (by rw [hlen]; exact Nat.le_refl _), List.nil_append, List.take_of_length_le (by rw [hg]; exact Nat.le_refl _)]
    · rw [← chunk_flat g hg H r (by omega)]
      unfold chunk
      rw [List.drop_append_of_le_length (by rw [hlen]; omega), List.take_append_of_le_length (by rw [List.length_drop, hlen]; omega)]
theorem cut_chunk {b : List UInt8} {k m r q : Nat} (hk : 0 < k) (hb : 0 < b.length) (hq : q < k) (hr : r < hgt b.length k) : chunk (rw_ (cutB b k m) q) r = chunk (wholeB b k) (r * k + q) := by
  have hW := wholeB_len b k hk hb
  have e : rw_ (cutB b k m) q = col (wholeB b k) k q (hgt b.length k * k) := by
    show (cutB b k m).getD q [] = _
    refine getD_get ?_
    unfold cutB cutD
    rw [List.getElem?_append_left (by rw [colsB_len]; exact hq)]
    exact colsB_get _ _ _ _ hq
  rw [e, col_full _ _ _ _ hq]
  have hin : ∀ r, r < hgt b.length k → 16 * (r * k + q) + 16 ≤ (wholeB b k).length := fun r hr => by
    rw [hW]
    have : (r + 1) * k ≤ hgt b.length k * k := Nat.mul_le_mul_right _ hr
    rw [Nat.succ_mul] at this
    omega
  have key := chunk_flat (fun r => if r < hgt b.length k then chunk (wholeB b k) (r * k + q) else List.replicate 16 0) (fun r => by
    split
    · exact chunk_len _ _ (hin r ‹_›)
    · simp) (hgt b.length k) r hr
  rw [if_pos hr] at key
  rw [← key]
  congr 1
  refine flat_congr fun x hx => ?_
  rw [if_pos (List.mem_range.1 hx)]
/-- each row is told as it was -/
theorem Torn.rowJ {b : List UInt8} {ls : List (List (List UInt8))} {k m j : Nat} (hk : 0 < k) (hb : 0 < b.length) (h : Torn (cutB b k m) ls (k + m) m (hgt b.length k)) (hj : j < hgt b.length k * k)
    (hx : rw_ (rowsAt ls (j / k)) (j % k) = [] → MendR k m 16 (rowsAt ls (j / k)) (mendV k m (rowsAt ls (j / k)))) : rowJ ls k m j = chunk (wholeB b k) j := by
  have hr : j / k < hgt b.length k := Nat.div_lt_of_lt_mul (by rw [Nat.mul_comm]; exact hj)
  have hq := Nat.mod_lt j hk
  have hjq : j / k * k + j % k = j := Nat.div_add_mod' j k
  have hWl := (cutB_rows b k m hk hb).1
  unfold Go.Proofs.YtlldgodjfpgbcaaDoor.rowJ
  by_cases he : rw_ (rowsAt ls (j / k)) (j % k) = []
  · rw [if_pos he, h.all hk (colsB_len ..) (cutD_len b k hk hb) (cutB_blends b k m hk hb) (j / k) hr _ (hx he)]
    rw [rw_map _ _ (by rw [hWl]; omega), cut_chunk hk hb hq hr, hjq]
  · rw [if_neg he]
    obtain ⟨lost, _, h2⟩ := h.2 (j / k) hr
    rw [rowsAt_rw] at he ⊢
    rcases h2 (j % k) (by omega) with h3 | h3
    · exact absurd h3.2 he
    · rw [h3, cut_chunk hk hb hq hr, hjq]
theorem chunks_whole (W : List UInt8) (a : Nat) : ∀ c, (List.range c).flatMap (fun i => chunk W (a + i)) = (W.drop (16 * a)).take (16 * c)
  | 0 => by simp
  | c + 1 => by
    rw [List.range_succ, List.flatMap_append, List.flatMap_singleton, chunks_whole W a c, show 16 * (c + 1) = 16 * c + 16 by omega, List.take_add]
    unfold chunk
    rw [List.drop_drop, show 16 * (a + c) = 16 * a + 16 * c by omega]
/-- the part is the bytes -/
theorem Torn.part {b : List UInt8} {ls : List (List (List UInt8))} {k m at_ n : Nat} (hk : 0 < k) (hb : 0 < b.length) (h : Torn (cutB b k m) ls (k + m) m (hgt b.length k)) (hn : 1 ≤ n) (hfit : at_ + n ≤ b.length)
    (hx : ∀ i, i < (at_ + n - 1) / 16 - at_ / 16 + 1 → rw_ (rowsAt ls ((at_ / 16 + i) / k)) ((at_ / 16 + i) % k) = [] → MendR k m 16 (rowsAt ls ((at_ / 16 + i) / k)) (mendV k m (rowsAt ls ((at_ / 16 + i) / k)))) :
    ((dataJ ls k m (at_ / 16) ((at_ + n - 1) / 16 - at_ / 16 + 1)).drop (at_ % 16)).take n = (b.drop at_).take n := by
  have hW := wholeB_len b k hk hb
  have hge := hgt_ge b.length k hk hb
  have hd4 : at_ / 16 ≤ (at_ + n - 1) / 16 := Nat.div_le_div_right (by omega)
  generalize hc : (at_ + n - 1) / 16 - at_ / 16 + 1 = c at *
  have e : dataJ ls k m (at_ / 16) c = (List.range c).flatMap fun i => chunk (wholeB b k) (at_ / 16 + i) := by
    unfold dataJ
    refine flat_congr fun i hi => ?_
    have hi' := List.mem_range.1 hi
    exact h.rowJ hk hb (by omega) (hx i hi')
  rw [e, chunks_whole, List.drop_take, List.drop_drop, List.take_take, show 16 * (at_ / 16) + at_ % 16 = at_ by omega, Nat.min_eq_left (by omega)]
  unfold wholeB
  rw [List.drop_append_of_le_length (by omega), List.take_append_of_le_length (by rw [List.length_drop]; omega)]
end Go.Proofs.YtlldgodjfpgbcaaDoor
namespace Go.Proofs.YtlldgodjfpgbcaaDoor
open Go.RowKit
set_option linter.unusedVariables false
set_option linter.unusedSimpArgs false
set_option maxRecDepth 100000

def chunks (H : Nat) (l : List UInt8) : List (List UInt8) := (List.range H).map fun r => chunk l r
theorem chunks_len (H : Nat) (l : List UInt8) : (chunks H l).length = H := by simp [chunks]
theorem chunks_take {H r : Nat} (l : List UInt8) (h : r < H) : (chunks H l).take (r + 1) = (chunks H l).take r ++ [chunk l r] := by
  rw [List.take_add_one]
  simp [chunks, h]
theorem chunks_rw {H r : Nat} (l : List UInt8) (h : r < H) : rw_ (chunks H l) r = chunk l r := by
  show (chunks H l).getD r [] = _
  exact getD_get (by simp [chunks, h])
def cut3 (b : List UInt8) (k m : Nat) : List (List (List UInt8)) := (cutB b k m).map (chunks (hgt b.length k))
/-- rows of slices, each one's own, what they hold lies ahead -/
structure InsX (w1 : World) (us : List Value) (lss : List (List (List UInt8))) (L : List Res) : Prop where
  len : us.length = lss.length
  mem : ∀ (i : Nat) (u : Value) (l : List (List UInt8)), us[i]? = some u → lss[i]? = some l → ∃ xs, Res.row 22 1 u l.length xs ∈ L ∧ Ins w1 xs l
theorem InsX.mono {w1 : World} {us : List Value} {lss : List (List (List UInt8))} {L L' : List Res} (h : InsX w1 us lss L) (hs : ∀ R ∈ L, R ∈ L') : InsX w1 us lss L' := ⟨h.len, fun i u l a b => by
  obtain ⟨xs, h1, h2⟩ := h.mem i u l a b
  exact ⟨xs, hs _ h1, h2⟩⟩
theorem InsX.snoc {w1 : World} {us : List Value} {lss : List (List (List UInt8))} {L : List Res} {u : Value} {l : List (List UInt8)} {xs : List Value} (h : InsX w1 us lss L) (hm : Res.row 22 1 u l.length xs ∈ L) (hi : Ins w1 xs l) : InsX w1 (us ++ [u]) (lss ++ [l]) L := by
  have hl := h.len
  refine ⟨by simp [h.len], fun i u' l' h1 h2 => ?_⟩
  rw [List.getElem?_append] at h1 h2
  split at h1
  · rw [if_pos (by omega)] at h2
    exact h.mem i u' l' h1 h2
  · rw [if_neg (by omega)] at h2
    have : i = us.length := by
      have := (List.getElem?_eq_some_iff.1 h1).1
      simp at this; omega
    subst this
    simp [hl] at h1 h2
    subst h1; subst h2; exact ⟨xs, hm, hi⟩
theorem InsX.set {w1 : World} {us : List Value} {lss : List (List (List UInt8))} {L : List Res} {u : Value} {l : List (List UInt8)} {xs : List Value} (h : InsX w1 us lss L) (i : Nat) (hm : Res.row 22 1 u l.length xs ∈ L) (hi : Ins w1 xs l) : InsX w1 (us.set i u) (lss.set i l) L := by
  refine ⟨by simp [h.len], fun j u' l' h1 h2 => ?_⟩
  rw [List.getElem?_set] at h1 h2
  split at h1
  · rename_i hi'; subst hi'
    rw [if_pos rfl] at h2
    split at h1
    · rename_i hi'
      rw [if_pos (by rw [← h.len]; exact hi')] at h2
      simp at h1 h2; subst h1; subst h2; exact ⟨xs, hm, hi⟩
    · simp at h1
  · rename_i hi'
    rw [if_neg hi'] at h2
    exact h.mem j u' l' h1 h2
theorem InsX.s3 {P : Program} {w1 w : World} {us : List Value} {lss : List (List (List UInt8))} {L : List Res} (h : InsX w1 us lss L) (hL : Sep P w1.heap.size w1 w L) {v : Value} (hv : Sl w v us) : S3 w v lss :=
  ⟨us, hv, h.len, fun i u l a b => by
    obtain ⟨xs, h1, h2⟩ := h.mem i u l a b
    exact ⟨xs, Sl.of_own (show w.ownsRow 0 22 1 u l.length xs from hL.hold _ h1), h2.below hL.below⟩⟩

/-- one row of slices, and what it holds -/
def xR (u : Value) (p : List (List UInt8) × List Value) : Res := .row 22 1 u p.1.length p.2
/-- rows of slices in their order -/
structure InsP (w1 : World) (us : List Value) (ps : List (List (List UInt8) × List Value)) (lss : List (List (List UInt8))) : Prop where
  len : us.length = ps.length
  map : ps.map (·.1) = lss
  ins : ∀ p ∈ ps, Ins w1 p.2 p.1
theorem InsP.x {w1 : World} {us : List Value} {ps : List (List (List UInt8) × List Value)} {lss : List (List (List UInt8))} (h : InsP w1 us ps lss) : InsX w1 us lss (List.zipWith xR us ps) := by
  obtain ⟨h1, rfl, h3⟩ := h
  refine ⟨by rw [List.length_map, h1], fun i u l a b => ?_⟩
  rw [List.getElem?_map] at b
  obtain ⟨p, hp, rfl⟩ := Option.map_eq_some_iff.1 b
  exact ⟨p.2, List.mem_of_getElem? (i := i) (by rw [List.getElem?_zipWith, a, hp]; rfl), h3 p (List.mem_of_getElem? hp)⟩
set_option maxHeartbeats 8000000 in
theorem lcut2_fn (v : Value) (b : List UInt8) (k m : Nat) (h1 : 1 ≤ k) (h2 : k + m ≤ 14) (hb0 : 0 < b.length) (hb : b.length ≤ 3000) (w0 : World) (hs : Sl w0 v (bv b)) :
    Fn Tryd.prog 7 #[v, .int .i64 (k : Int), .int .i64 (m : Int)] w0 fun r w' => ∃ w1 u us ps, Below w0.heap.size w0 w1 ∧ r = .tuple #[u, .bool true] ∧ InsP w1 us ps (cut3 b k m) ∧ Sep Tryd.prog w1.heap.size w1 w' (.row 29 1 u (k + m) us :: List.zipWith xR us ps) := by
  obtain ⟨hcl, hcr⟩ := cutB_rows b k m h1 hb0
  have hg1 := hgt_le b.length k
  have hg4 : hgt b.length k ≤ hgt b.length k * k := Nat.le_mul_of_pos_right _ h1
  refine Fn.mk Tryd.func7 rfl (by kernel_rfl) Tryd.ntmps7 rfl (by rw [Tryd.results7]) ?_
  refine RunR ?_
  refine (cut_fn v b k m h1 h2 hb0 hb w0 hs).mono fun r w1 ⟨u, hr, hss, hbl⟩ => ?_
  subst hr
  unfold cut3
  have hH : hgt b.length k ≤ 3000 := by omega
  generalize hgt b.length k = H at *
  generalize cutB b k m = W at *
  clear hs hg1 hg4
  obtain ⟨cs, hcs, hci⟩ := hss.of
  have hcsl := hci.len
  obtain ⟨ca, cc, rfl⟩ := hcs.shape
  rw [hcsl, hcl] at hcs ⊢
  obtain ⟨cb, co, rfl, _⟩ := hcs.addr (by omega)
  have hrow : ∀ {x : World} {L' : List Res}, Sep Tryd.prog w1.heap.size w1 x L' → Row x cb co cs := fun h => (hcs.below h.below).toN.rowOf
  have hL := Sep.start Tryd.prog w1
  have hB := Nat.le_refl w1.heap.size
  conv => whnf
  repeat (first | (refine RunH ?_; intro w hL hB; try clear w) | (refine Both.mk ?_ ?_ <;> conv => whnf) | fail)
  refine V.loop (α := Nat × Value × List Value × List (List (List UInt8) × List Value)) (fun z => [(8, .slice (some ⟨cb, co, none⟩) (k + m) cc), (10, z.2.1), (11, .int .i64 (z.1 : Int))])
    (fun z w' => z.1 ≤ k + m ∧ InsP w1 z.2.2.1 z.2.2.2 ((W.map (chunks H)).take z.1) ∧ w1.heap.size ≤ w'.heap.size ∧ Sep Tryd.prog w1.heap.size w1 w' (.row 29 1 z.2.1 z.1 z.2.2.1 :: List.zipWith xR z.2.2.1 z.2.2.2)) (fun z => k + m - z.1) (0, .slice none 0 0, [], []) ⟨rfl, rfl, rfl, trivial⟩ ⟨Nat.zero_le _, ⟨rfl, rfl, by simp⟩, hB, hL.nilRow 29 1⟩ ?_
  clear hL hB
  rintro ⟨i, ov, us, ps⟩ w ⟨hi, hus, hB, hL⟩
  dsimp only at hi hus hL
  have hul : us.length = i := by
    have h9 := congrArg List.length hus.map
    rw [List.length_map, ← hus.len, List.length_take, List.length_map] at h9
    omega
  obtain ⟨oa, oc, rfl⟩ := (hL.rowN (i := 0) rfl).shape
  repeat (first | (refine RunH ?_; intro w hL hB; try clear w) | (refine Both.mk ?_ ?_ <;> conv => whnf) | fail)
  refine Br.dec (fun hlt => ?_) (fun hlt => ?_)
  · have hik : i < k + m := by omega
    have hts : (W.map (chunks H)).take (i + 1) = (W.map (chunks H)).take i ++ [chunks H (rw_ W i)] := by
      rw [List.take_add_one, List.getElem?_map, rw_some (by omega)]; rfl
    obtain ⟨ui, hui, hsi⟩ := hci.get (rw_some (show i < W.length by omega))
    have hil := hcr _ (rw_mem (C := W) (i := i) (by omega))
    generalize rw_ W i = l at *
    obtain ⟨la, lc, rfl⟩ := hsi.shape
    rw [bv_length, hil] at hui hsi
    repeat (first | (refine RunH ?_; intro w hL hB; try clear w) | (refine Both.mk ?_ ?_ <;> conv => whnf) | fail)
    refine V.loop (α := Nat × Value × List Value) (fun z => [(8, .slice (some ⟨cb, co, none⟩) (k + m) cc), (10, .slice oa i oc), (11, .int .i64 (i : Int)), (12, z.2.1), (13, .int .i64 ((16 * z.1 : Nat) : Int))])
      (fun z w' => z.1 ≤ H ∧ Ins w1 z.2.2 ((chunks H l).take z.1) ∧ w1.heap.size ≤ w'.heap.size ∧ Sep Tryd.prog w1.heap.size w1 w' (.row 22 1 z.2.1 z.1 z.2.2 :: .row 29 1 (.slice oa i oc) i us :: List.zipWith xR us ps)) (fun z => H - z.1) (0, .slice none 0 0, []) ⟨rfl, rfl, rfl, rfl, rfl, trivial⟩ ⟨Nat.zero_le _, by simpa using Ins.nil w1, hB, hL.nilRow 22 1⟩ ?_
    clear hL hB
    rintro ⟨r, xv, xs⟩ w ⟨hr, hxs, hB, hL⟩
    dsimp only at hr hxs hL
    have hxl : xs.length = r := by rw [hxs.len, List.length_take, chunks_len]; omega
    obtain ⟨xa, xc, rfl⟩ := (hL.rowN (i := 0) rfl).shape
    repeat (first | (refine RunH ?_; intro w hL hB; try clear w) | (refine Both.mk ?_ ?_ <;> conv => whnf) | fail)
    intro o3 ho3
    conv => whnf
    repeat (first | (refine RunH ?_; intro w hL hB; try clear w) | (refine Both.mk ?_ ?_ <;> conv => whnf) | fail)
    refine Ld.row1 ttOk (hrow hL) rfl rfl (k := i) hui (by omega) ?_
    conv => whnf
    repeat (first | (refine RunH ?_; intro w hL hB; try clear w) | (refine Both.mk ?_ ?_ <;> conv => whnf) | fail)
    refine Br.dec (fun hlt2 => ?_) (fun hlt2 => ?_)
    · have hrH : r < H := by omega
      have hct := chunks_take (H := H) l hrH
      obtain ⟨lb, lo, rfl, _⟩ := hsi.addr (by omega)
      obtain ⟨_, q2, q3⟩ := hsi.len
      repeat (first | (refine RunH ?_; intro w hL hB; try clear w) | (refine Both.mk ?_ ?_ <;> conv => whnf) | fail)
      intro o4 ho4
      conv => whnf
      repeat (first | (refine RunH ?_; intro w hL hB; try clear w) | (refine Both.mk ?_ ?_ <;> conv => whnf) | fail)
      refine Ld.row1 ttOk (hrow hL) rfl rfl (k := i) hui (by omega) ?_
      conv => whnf
      repeat (first | (refine RunH ?_; intro w hL hB; try clear w) | (refine Both.mk ?_ ?_ <;> conv => whnf) | fail)
      intro o5 n5 c5 ho5 ho52 hn5 hc5
      have hsd := (hsi.drop (k := 16 * r) (o' := o5) (n' := 16 * H - 16 * r) (c' := lc - 16 * r) (by rw [bv_length]; omega) (fun h => by have := ho5 (by omega); omega) rfl rfl).take (k := 16) (by rw [List.length_drop, bv_length]; omega) (c' := c5) (by omega) (by omega)
      rw [← chunk_bv] at hsd
      obtain rfl : 16 = n5 := by omega
      conv => whnf
      repeat (first | (refine RunH ?_; intro w hL hB; try clear w) | (refine Both.mk ?_ ?_ <;> conv => whnf) | fail)
      refine Rv.buildS ttOk hL tl29 tl22 rfl rfl (by intro u hu; simp only [List.mem_singleton] at hu; subst hu; rfl) (by decide) (by decide) hB fun bo2 w hL hB => ?_
      conv => whnf
      refine Rv.appendS ttOk hL tl29 tl22 rfl (by decide) 1 rfl (hL.rowN (i := 0) rfl) (allOne_mem rfl) (by simp only [maxLen]; omega) (by omega) hB fun vp w hL hB => ?_
      dsimp only [List.set] at hL
      replace hL := hL.tl
      conv => whnf
      repeat (first | (refine RunH ?_; intro w hL hB; try clear w) | (refine Both.mk ?_ ?_ <;> conv => whnf) | fail)
      refine ⟨(r + 1, vp, xs ++ [.slice (some ⟨lb, o5, none⟩) 16 c5]), ⟨rfl, rfl, rfl, rfl, vint (by dsimp only; omega), trivial⟩, ⟨by dsimp only; omega, ?_, hB, hL⟩, (by first | omega | (dsimp only; omega))⟩
      dsimp only
      rw [hct]
      exact hxs.snoc hsd
    · obtain rfl : r = H := by omega
      rw [List.take_of_length_le (by rw [chunks_len]; exact Nat.le_refl _)] at hxs
      repeat (first | (refine RunH ?_; intro w hL hB; try clear w) | (refine Both.mk ?_ ?_ <;> conv => whnf) | fail)
      refine Rv.buildS ttOk hL tl25 tl29 rfl rfl (by intro u hu; simp only [List.mem_singleton] at hu; subst hu; rfl) (by decide) (by decide) hB fun bo2 w hL hB => ?_
      conv => whnf
      refine Rv.appendS ttOk hL tl25 tl29 rfl (by decide) 2 rfl (hL.rowN (i := 0) rfl) (allOne_mem rfl) (by simp only [maxLen]; omega) (by omega) hB fun vp w hL hB => ?_
      dsimp only [List.set] at hL
      replace hL := hL.tl
      conv => whnf
      repeat (first | (refine RunH ?_; intro w hL hB; try clear w) | (refine Both.mk ?_ ?_ <;> conv => whnf) | fail)
      refine ⟨(i + 1, vp, us ++ [.slice xa r xc], ps ++ [(chunks r l, xs)]), ⟨rfl, rfl, rfl, trivial⟩, ⟨by dsimp only; omega, ⟨by simp [hus.len], by dsimp only; rw [List.map_append, hus.map, hts]; rfl, fun p hp => ?_⟩, hB, ?_⟩, (by first | omega | (dsimp only; omega))⟩
      · rcases List.mem_append.1 hp with hp | hp
        · exact hus.ins p hp
        · rw [List.mem_singleton] at hp; subst hp; exact hxs
      · dsimp only
        rw [List.zipWith_append hus.len]
        have e9 : xR (.slice xa r xc) (chunks r l, xs) = .row 22 1 (.slice xa r xc) r xs := by unfold xR; rw [chunks_len]
        refine hL.perm ((List.Perm.swap _ _ _).trans (List.Perm.cons _ ?_))
        show (Res.row 22 1 (.slice xa r xc) r xs :: List.zipWith xR us ps).Perm (List.zipWith xR us ps ++ [xR (.slice xa r xc) (chunks r l, xs)])
        rw [e9]
        exact (List.perm_append_singleton _ _).symm
  · obtain rfl : i = k + m := by omega
    rw [List.take_of_length_le (by simp; omega)] at hus
    repeat (first | (refine RunH ?_; intro w hL hB; try clear w) | (refine Both.mk ?_ ?_ <;> conv => whnf) | fail)
    exact ⟨w1, _, us, ps, hbl, rfl, hus, hL⟩
theorem lcut_fn (v : Value) (b : List UInt8) (k m : Nat) (h1 : 1 ≤ k) (h2 : k + m ≤ 14) (hb0 : 0 < b.length) (hb : b.length ≤ 3000) (w0 : World) (hs : Sl w0 v (bv b)) :
    Fn Tryd.prog 7 #[v, .int .i64 (k : Int), .int .i64 (m : Int)] w0 fun r w' => ∃ w1 u us Rs, Below w0.heap.size w0 w1 ∧ r = .tuple #[u, .bool true] ∧ InsX w1 us (cut3 b k m) Rs ∧ Sep Tryd.prog w1.heap.size w1 w' (.row 29 1 u (k + m) us :: Rs) :=
  (lcut2_fn v b k m h1 h2 hb0 hb w0 hs).mono fun r w' ⟨w1, u, us, ps, h3, h4, h5, h6⟩ => ⟨w1, u, us, _, h3, h4, h5.x, h6⟩
end Go.Proofs.YtlldgodjfpgbcaaDoor
