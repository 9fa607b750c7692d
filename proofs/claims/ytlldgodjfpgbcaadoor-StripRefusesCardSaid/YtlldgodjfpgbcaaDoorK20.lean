/- Shards that were cut, of which some rows are lost: they are made again as they were. In plain Lean. strip.Part. Nothing is claimed here. -/
import Derived.Test.YtlldgodjfpgbcaaDoorK19
namespace Go.Proofs.YtlldgodjfpgbcaaDoor
set_option linter.unusedVariables false
set_option linter.unusedSimpArgs false

theorem blendB_one (N k i : Nat) (D : List (List UInt8)) (hD : ∀ l ∈ D, l.length = N) (hk : D.length = k) (hi : i < k) : blendB N (oneRow k i) D = rw_ D i := by
  refine list_ext_getD (blendB_len N _ D hD) (hD _ (rw_mem (by omega))) fun t ht => ?_
  rw [blendB_get N _ D hD t ht, dot_one k i _ (by rw [colN_len, hk]) hi, colN_get]
theorem codeM_blends {k m N : Nat} {D : List (List UInt8)} (hD : ∀ l ∈ D, l.length = N) (hk : D.length = k) : blends N (codeM k m) D = D ++ sumsB N m D := by
  unfold blends codeM sumsB
  rw [List.map_append, List.map_map, hk]
  congr 1
  refine List.ext_getElem (by simp [oneM, hk]) fun i h1 h2 => ?_
  have hik : i < k := by simpa [oneM] using h1
  rw [List.getElem_map]
  have e : (oneM k)[i]'(by simpa [oneM] using h1) = oneRow k i := by simp [oneM]
  rw [e, blendB_one N k i D hD hk hik]
  unfold rw_
  simp [List.getD, h2]
theorem chunk_get {l : List UInt8} {r t : Nat} (ht : t < 16) : (chunk l r).getD t 0 = l.getD (16 * r + t) 0 := by
  unfold chunk
  simp only [List.getD, List.getElem?_take, List.getElem?_drop]
  rw [if_pos ht]
/-- a chunk of a blend is the blend of the chunks -/
theorem chunk_blend {N : Nat} {c : List UInt8} {D : List (List UInt8)} (hD : ∀ l ∈ D, l.length = N) {r : Nat} (hr : 16 * r + 16 ≤ N) : chunk (blendB N c D) r = blendB 16 c (D.map fun l => chunk l r) := by
  have hD2 : ∀ l ∈ D.map (fun l => chunk l r), l.length = 16 := fun l hl => by
    obtain ⟨x, hx, rfl⟩ := List.mem_map.1 hl
    exact chunk_len x r (by rw [hD x hx]; omega)
  refine list_ext_getD (chunk_len _ r (by rw [blendB_len N c D hD]; omega)) (blendB_len 16 _ _ hD2) fun t ht => ?_
  rw [chunk_get ht, blendB_get N c D hD _ (by omega), blendB_get 16 c _ hD2 t ht]
  congr 1
  unfold colN
  rw [List.map_map]
  exact List.map_congr_left fun l _ => (chunk_get ht).symm
def rw3 (ls : List (List (List UInt8))) (i : Nat) : List (List UInt8) := ls.getD i []
theorem rowsAt_rw (ls : List (List (List UInt8))) (r i : Nat) : rw_ (rowsAt ls r) i = rw_ (rw3 ls i) r := by
  unfold rowsAt rw3
  conv => lhs; unfold rw_
  simp only [List.getD, List.getElem?_map]
  cases ls[i]? <;> simp [rw_]
/-- what was cut, torn: of each row m are lost at most -/
def Torn (W : List (List UInt8)) (ls : List (List (List UInt8))) (n m H : Nat) : Prop := ls.length = n ∧ ∀ r, r < H → ∃ lost : List Nat, lost.length ≤ m ∧ ∀ i, i < n → (i ∈ lost ∧ rw_ (rw3 ls i) r = []) ∨ rw_ (rw3 ls i) r = chunk (rw_ W i) r
theorem Torn.sel {W : List (List UInt8)} {ls : List (List (List UInt8))} {k m H : Nat} (h : Torn W ls (k + m) m H) (hW : W.length = k + m) (hl : ∀ l ∈ W, l.length = 16 * H) {r : Nat} (hr : r < H) : (selS k (rowsAt ls r)).length = k := by
  obtain ⟨hlen, h⟩ := h
  obtain ⟨lost, h1, h2⟩ := h r hr
  have hn : (rowsAt ls r).length = k + m := by rw [rowsAt_len, hlen]
  rw [selS_len hn]
  unfold cnt_
  have h3 := filter_len (fun j => decide (rw_ (rowsAt ls r) j ≠ [])) (List.range (k + m))
  rw [List.length_range] at h3
  have h4 : ((List.range (k + m)).filter fun j => !decide (rw_ (rowsAt ls r) j ≠ [])).length ≤ lost.length := nodup_len (List.nodup_range.filter _) fun j hj => by
    obtain ⟨h5, h6⟩ := List.mem_filter.1 hj
    rw [List.mem_range] at h5
    have h7 : rw_ (rowsAt ls r) j = [] := by simpa using h6
    rw [rowsAt_rw] at h7
    rcases h2 j h5 with h8 | h8
    · exact h8.1
    · rw [h7] at h8
      have := congrArg List.length h8
      rw [chunk_len _ r (by rw [hl _ (rw_mem (by omega))]; omega)] at this
      simp at this
  omega
theorem rows_chunks {l : List UInt8} {H : Nat} (hl : l.length = 16 * H) : ∀ r, r ≤ H → l.take (16 * r) ++ (if r < H then chunk l r else []) = l.take (16 * (r + 1)) := fun r hr => by
  split
  · unfold chunk
    rw [show 16 * (r + 1) = 16 * r + 16 by omega, List.take_add]
  · rw [List.append_nil, List.take_of_length_le (by omega), List.take_of_length_le (by omega)]
theorem Torn.all {W D : List (List UInt8)} {ls : List (List (List UInt8))} {k m H : Nat} (hk : 1 ≤ k) (h : Torn W ls (k + m) m H) (hDk : D.length = k) (hD : ∀ l ∈ D, l.length = 16 * H) (hW : W = blends (16 * H) (codeM k m) D) :
    (∀ r, r < H → ∀ out, MendR k m 16 (rowsAt ls r) out → out = W.map fun l => chunk l r) := by
  have hWl : W.length = k + m := by rw [hW, blends_len, codeM_len]
  have hWr : ∀ l ∈ W, l.length = 16 * H := by rw [hW]; exact blends_row hD
  intro r hr out hm
  have hs := h.sel hWl hWr hr
  have hn : (rowsAt ls r).length = k + m := by rw [rowsAt_len, h.1]
  obtain ⟨lost, h1, h2⟩ := h.2 r hr
  have hDr : ∀ l ∈ D.map (fun l => chunk l r), l.length = 16 := fun l hl => by
    obtain ⟨x, hx, rfl⟩ := List.mem_map.1 hl
    exact chunk_len x r (by rw [hD x hx]; omega)
  rw [hm.back (D := D.map fun l => chunk l r) (by decide) hn hs hDr (by rw [List.length_map, hDk]) fun i hi hne => ?_]
  · rw [hW]
    unfold blends
    rw [List.map_map]
    exact List.map_congr_left fun c _ => (chunk_blend hD (by omega)).symm
  · rw [rowsAt_rw] at hne ⊢
    rcases h2 i (by omega) with h8 | h8
    · exact absurd h8.2 hne
    · rw [h8, hW]
      have e : rw_ (blends (16 * H) (codeM k m) D) i = blendB (16 * H) (rw_ (codeM k m) i) D := rw_map _ _ (by rw [codeM_len]; omega)
      rw [e, chunk_blend hD (by omega)]
theorem Torn.acc {W D : List (List UInt8)} {ls : List (List (List UInt8))} {k m H : Nat} (hk : 1 ≤ k) (h : Torn W ls (k + m) m H) (hDk : D.length = k) (hD : ∀ l ∈ D, l.length = 16 * H) (hW : W = blends (16 * H) (codeM k m) D)
    (hx : ∀ r, r < H → MendR k m 16 (rowsAt ls r) (mendV k m (rowsAt ls r))) : accM k m ls H = W := by
  have hWl : W.length = k + m := by rw [hW, blends_len, codeM_len]
  have hWr : ∀ l ∈ W, l.length = 16 * H := by rw [hW]; exact blends_row hD
  have key : ∀ r, r ≤ H → accM k m ls r = W.map fun l => l.take (16 * r) := by
    intro r
    induction r with
    | zero =>
      intro _
      rw [accM]
      refine List.ext_getElem (by simp [hWl]) fun i h1 h2 => by simp
    | succ r ih =>
      intro hr
      rw [accM, ih (by omega), h.all hk hDk hD hW r (by omega) _ (hx r (by omega))]
      refine List.ext_getElem (by simp) fun i h1 h2 => ?_
      rw [List.getElem_zipWith, List.getElem_map, List.getElem_map, List.getElem_map]
      exact (List.take_add (i := 16 * r) (j := 16)).symm
  rw [key H (Nat.le_refl _)]
  refine List.ext_getElem (by simp) fun i h1 h2 => ?_
  rw [List.getElem_map, List.take_of_length_le (by rw [hWr _ (List.getElem_mem _)]; exact Nat.le_refl _)]
theorem cutB_blends (b : List UInt8) (k m : Nat) (hk : 0 < k) (hb : 0 < b.length) : cutB b k m = blends (16 * hgt b.length k) (codeM k m) (cutD b k) := by
  rw [codeM_blends (cutD_len b k hk hb) (colsB_len ..)]
  rfl
end Go.Proofs.YtlldgodjfpgbcaaDoor
namespace Go.Proofs.YtlldgodjfpgbcaaDoor
open Go.RowKit
set_option linter.unusedVariables false
set_option linter.unusedSimpArgs false
set_option maxRecDepth 100000

theorem clone_fn (v : Value) (l : List UInt8) (w0 : World) (hs : Sl w0 v (bv l)) (hlen : l.length ≤ 2147483648) : Fn Tryd.prog 20 #[v] w0 fun r w' => w'.ownsRow w0.heap.size 5 1 r l.length (bv l) ∧ Below w0.heap.size w0 w' := by
  have hL := Sep.start Tryd.prog w0
  have hB := Nat.le_refl w0.heap.size
  obtain ⟨a, c, rfl⟩ := hs.shape
  simp only [bv_length] at *
  refine Fn.mk Tryd.func20 rfl (by kernel_rfl) Tryd.ntmps20 rfl (by rw [Tryd.results20]) ?_
  cases a with
  | none =>
    obtain rfl : l = [] := by
      rcases hs.cases with ⟨he, hx⟩ | ⟨ad, c', he, _⟩
      · simpa [bv] using hx
      · cases he
    repeat (first | (refine RunH ?_; intro w hL hB; try clear w) | (refine Both.mk ?_ ?_ <;> conv => whnf) | fail)
    exact ⟨World.ownsRow_nil w0 _ _ _, Below.refl _ _⟩
  | some ad =>
    repeat (first | (refine RunH ?_; intro w hL hB; try clear w) | (refine Both.mk ?_ ?_ <;> conv => whnf) | fail)
    refine Rv.buildS (len := 0) (vs := []) ttOk hL tl22 tl5 rfl rfl (by intro u hu; cases hu) (by decide) (by decide) hB fun bo w hL hB => ?_
    conv => whnf
    repeat (first | (refine RunH ?_; intro w hL hB; try clear w) | (refine Both.mk ?_ ?_ <;> conv => whnf) | fail)
    refine Rv.appendS (m := l.length) ttOk hL tl22 tl5 rfl (by decide) 0 rfl (by have := (hL.sl hs rfl).toN; rw [bv_length] at this; exact this) (bv_one _) (by simp only [maxLen]; omega) (by omega) hB fun v' w hL hB => ?_
    obtain ⟨ba, bc, rfl⟩ := (show SlN w 1 v' _ _ from hL.rowN (i := 0) rfl).shape
    dsimp only [List.set] at hL
    conv => whnf
    repeat (first | (refine RunH ?_; intro w hL hB; try clear w) | (refine Both.mk ?_ ?_ <;> conv => whnf) | fail)
    have ho := hL.ownR (i := 0) rfl
    exact ⟨by simpa using ho, hL.below⟩
/-- row number j of the whole, as it is told -/
noncomputable def rowJ (ls : List (List (List UInt8))) (k m j : Nat) : List UInt8 := if rw_ (rowsAt ls (j / k)) (j % k) = [] then rw_ (mendV k m (rowsAt ls (j / k))) (j % k) else rw_ (rowsAt ls (j / k)) (j % k)
noncomputable def dataJ (ls : List (List (List UInt8))) (k m a c : Nat) : List UInt8 := (List.range c).flatMap fun i => rowJ ls k m (a + i)
/-- what must be made again can be -/
def canJ (ls : List (List (List UInt8))) (k j : Nat) : Prop := rw_ (rowsAt ls (j / k)) (j % k) = [] → (selS k (rowsAt ls (j / k))).length = k
theorem dataJ_succ (ls : List (List (List UInt8))) (k m a c : Nat) : dataJ ls k m a (c + 1) = dataJ ls k m a c ++ rowJ ls k m (a + c) := by
  unfold dataJ
  rw [List.range_succ, List.flatMap_append, List.flatMap_singleton]
def PartGot (ls : List (List (List UInt8))) (k m a c off n : Nat) (r : Value) (w' : World) : Prop :=
  ((∀ i, i < c → canJ ls k (a + i)) ∧ (∀ i, i < c → rw_ (rowsAt ls ((a + i) / k)) ((a + i) % k) = [] → MendR k m 16 (rowsAt ls ((a + i) / k)) (mendV k m (rowsAt ls ((a + i) / k)))) ∧ ∃ u, r = .tuple #[u, .int .i64 0] ∧ Sl w' u (bv (((dataJ ls k m a c).drop off).take n))) ∨ ((¬ ∀ i, i < c → canJ ls k (a + i)) ∧ r = .tuple #[.slice none 0 0, .int .i64 15])

set_option maxHeartbeats 16000000 in
theorem part_fn (v : Value) (ls : List (List (List UInt8))) (k m size at_ n : Nat) (hg : goodP ls k m size) (hsz : size ≤ 1000000) (hn1 : 1 ≤ n) (hfit : at_ + n ≤ size) (w0 : World) (hT : TabAt 0 Go.Lib.deBruijn64tab w0) (hs : S3 w0 v ls) :
    Fn Tryd.prog 9 #[v, .int .i64 (k : Int), .int .i64 (m : Int), .int .i64 (size : Int), .int .i64 (at_ : Int), .int .i64 (n : Int)] w0 fun r w' => PartGot ls k m (at_ / 16) ((at_ + n - 1) / 16 - at_ / 16 + 1) (at_ % 16) n r w' ∧ Below w0.heap.size w0 w' := by
  have hG := good_fn v ls k m size ⟨by omega, by have := hg.1; unfold codeOk at this; omega⟩ ⟨by omega, by have := hg.1; unfold codeOk at this; omega⟩ (by omega) w0 hs
  rw [decide_eq_true hg] at hG
  obtain ⟨hc, hs1, hs2, hln, hfl⟩ := hg
  have hc' : 1 ≤ k ∧ k + m ≤ 14 := by unfold codeOk at hc; omega
  obtain ⟨hk1, hkm⟩ := hc'
  have hlen : ls.length = k + m := by omega
  have hrows : ∀ r, ∀ l ∈ rowsAt ls r, l ≠ [] → l.length = 16 := fun r => rowsAt_mem hfl
  have hrl : ∀ r, (rowsAt ls r).length = k + m := fun r => by rw [rowsAt_len, hlen]
  have hri : ∀ r i, i < (rowsAt ls r).length → rw_ (rowsAt ls r) i ≠ [] → (rw_ (rowsAt ls r) i).length = 16 := fun r i hi hne => hrows r _ (rw_mem hi) hne
  have hL := Sep.start Tryd.prog w0
  have hB := Nat.le_refl w0.heap.size
  unfold PartGot
  refine Fn.mk Tryd.func9 rfl (by kernel_rfl) Tryd.ntmps9 rfl (by rw [Tryd.results9]) ?_
  repeat (first | (refine RunH ?_; intro w hL hB; try clear w) | (refine Both.mk ?_ ?_ <;> conv => whnf) | fail)
  refine hG.mono fun r w ⟨hr', hbl⟩ => ?_
  subst hr'
  replace hL := hL.call hB (Turns.of_below hbl)
  replace hB := Nat.le_trans hB hbl.size
  clear hbl hG
  conv => whnf
  repeat (first | (refine RunH ?_; intro w hL hB; try clear w) | (refine Both.mk ?_ ?_ <;> conv => whnf) | fail)
  refine Quo.at at_ 16 rfl rfl (by decide) ?_
  have hd1 := Nat.div_mul_le_self at_ 16
  have hd2 := Nat.mod_add_div at_ 16
  have hd3 := Nat.div_mul_le_self (at_ + n - 1) 16
  have hd4 : at_ / 16 ≤ (at_ + n - 1) / 16 := Nat.div_le_div_right (by omega)
  have hd5 : at_ + n ≤ ((at_ + n - 1) / 16) * 16 + 16 := by omega
  refine Ar.mi _ rfl (by omega) ?_
  generalize ha : at_ / 16 = a at *
  conv => whnf
  repeat (first | (refine RunH ?_; intro w hL hB; try clear w) | (refine Both.mk ?_ ?_ <;> conv => whnf) | fail)
  refine Quo.at (at_ + n - 1) 16 (by omega) rfl (by decide) ?_
  refine Ar.mi _ rfl (by omega) ?_
  generalize hb : (at_ + n - 1) / 16 = b at *
  conv => whnf
  repeat (first | (refine RunH ?_; intro w hL hB; try clear w) | (refine Both.mk ?_ ?_ <;> conv => whnf) | fail)
  obtain ⟨c, hcc⟩ : ∃ c, c = b - a + 1 := ⟨_, rfl⟩
  rw [← hcc]
  refine V.loop (α := Nat × Value × Int × Value × List (List UInt8) × List Value × List Res) (fun z => [(0, v), (1, .int .i64 (k : Int)), (2, .int .i64 (m : Int)), (4, .int .i64 (at_ : Int)), (5, .int .i64 (n : Int)), (14, z.2.1), (15, z.2.2.2.1), (16, .int .i64 z.2.2.1), (17, .int .i64 (a : Int)), (63, .int .i64 (c : Int)), (64, .int .i64 (z.1 : Int))])
    (fun z w' => z.1 ≤ c ∧ (∀ i, i < z.1 → canJ ls k (a + i) ∧ (rw_ (rowsAt ls ((a + i) / k)) ((a + i) % k) = [] → MendR k m 16 (rowsAt ls ((a + i) / k)) (mendV k m (rowsAt ls ((a + i) / k))))) ∧ (dataJ ls k m a z.1).length = 16 * z.1 ∧ (z.2.2.1 = -1 ∨ ∃ r : Nat, z.2.2.1 = r ∧ z.2.2.2.2.1 = mendV k m (rowsAt ls r) ∧ (selS k (rowsAt ls r)).length = k ∧ MendR k m 16 (rowsAt ls r) z.2.2.2.2.1) ∧ InsR z.2.2.2.2.2.1 z.2.2.2.2.1 z.2.2.2.2.2.2 ∧ w0.heap.size ≤ w'.heap.size ∧ Sep Tryd.prog w0.heap.size w0 w' (.row 5 1 z.2.1 (16 * z.1) (bv (dataJ ls k m a z.1)) :: .row 22 1 z.2.2.2.1 z.2.2.2.2.1.length z.2.2.2.2.2.1 :: z.2.2.2.2.2.2)) (fun z => c - z.1) (0, .slice none 0 0, -1, .slice none 0 0, [], [], []) ⟨rfl, rfl, rfl, rfl, rfl, rfl, rfl, rfl, rfl, vint (by omega), rfl, trivial⟩ ⟨Nat.zero_le _, fun i hi => absurd hi (Nat.not_lt_zero i), rfl, .inl rfl, InsR.nil [], hB, (hL.nilRow 22 1).nilRow 5 1⟩ ?_
  clear hL hB
  rintro ⟨i, dv, last, sv, out, bs, Rs⟩ w ⟨hi, hok, hdl, hlast, hins, hB, hL⟩
  dsimp only at hi hok hdl hlast hins hL
  obtain ⟨da, dc, rfl⟩ := (hL.rowN (i := 0) rfl).shape
  have hds := dataJ_succ ls k m a i
  repeat (first | (refine RunH ?_; intro w hL hB; try clear w) | (refine Both.mk ?_ ?_ <;> conv => whnf) | fail)
  refine Br.dec (fun hlt => ?_) (fun hlt => ?_)
  · have hic : i < c := by omega
    have hjle : a + i ≤ b := by omega
    have hbs' : b * 16 ≤ 1000000 := by omega
    repeat (first | (refine RunH ?_; intro w hL hB; try clear w) | (refine Both.mk ?_ ?_ <;> conv => whnf) | fail)
    refine V.tree ttOk (fun x => x = w.drew) (.q 0 (.q 1 (.q 2 (.q 3 (.q 4 (.q 5 (.q 6 (.q 7 .nil)))))))) mixed (by decide +kernel) rfl ?_
    conv => whnf
    repeat (first | (refine RunH ?_; intro w hL hB; try clear w) | (refine Both.mk ?_ ?_ <;> conv => whnf) | fail)
    replace hL := hL.drew
    have hq : (a + i) % k < k := Nat.mod_lt _ (by omega)
    have hr62 : (a + i) / k ≤ a + i := Nat.div_le_self _ _
    have hrj : rowJ ls k m (a + i) = if rw_ (rowsAt ls ((a + i) / k)) ((a + i) % k) = [] then rw_ (mendV k m (rowsAt ls ((a + i) / k))) ((a + i) % k) else rw_ (rowsAt ls ((a + i) / k)) ((a + i) % k) := rfl
    have hcj : canJ ls k (a + i) ↔ (rw_ (rowsAt ls ((a + i) / k)) ((a + i) % k) = [] → (selS k (rowsAt ls ((a + i) / k))).length = k) := Iff.rfl
    have hok2 : ∀ (hx : canJ ls k (a + i) ∧ (rw_ (rowsAt ls ((a + i) / k)) ((a + i) % k) = [] → MendR k m 16 (rowsAt ls ((a + i) / k)) (mendV k m (rowsAt ls ((a + i) / k))))), ∀ i', i' < i + 1 → canJ ls k (a + i') ∧ (rw_ (rowsAt ls ((a + i') / k)) ((a + i') % k) = [] → MendR k m 16 (rowsAt ls ((a + i') / k)) (mendV k m (rowsAt ls ((a + i') / k)))) := fun hx i' hi' => by
      by_cases e : i' = i
      · subst e; exact hx
      · exact hok i' (by omega)
    have hbad : ¬ canJ ls k (a + i) → ¬ ∀ i, i < c → canJ ls k (a + i) := fun h h2 => h (h2 i hic)
    refine Quo.at (a + i) k (by dsimp only; omega) rfl (by omega) ?_
    refine Ar.mi _ rfl (by omega) ?_
    conv => whnf
    repeat (first | (refine RunH ?_; intro w hL hB; try clear w) | (refine Both.mk ?_ ?_ <;> conv => whnf) | fail)
    refine Rem.at (a + i) k (by dsimp only; omega) rfl (by omega) ?_
    generalize (a + i) / k = r at *
    generalize (a + i) % k = q at *
    conv => whnf
    repeat (first | (refine RunH ?_; intro w hL hB; try clear w) | (refine Both.mk ?_ ?_ <;> conv => whnf) | fail)
    refine (row_fn v ls r (by omega) (by omega) _ (hs.below hL.below)).mono fun x w hr9 => ?_
    obtain ⟨hss, hbl⟩ := hr9
    replace hL := hL.call hB (Turns.of_below hbl)
    replace hB := Nat.le_trans hB hbl.size
    clear hbl
    have hrlr := hrl r
    have hrir := hri r
    have hrowr := hrows r
    generalize hR : rowsAt ls r = R at *
    obtain ⟨xs, hxs, hxi⟩ := hss.of
    have hxl := hxi.len
    obtain ⟨xa, xc, rfl⟩ := hxs.shape
    rw [hxl, hrlr] at hxs hss ⊢
    obtain ⟨xb, xo, rfl, hxr⟩ := hxs.addr (by omega)
    obtain ⟨y, hy, hsy⟩ := hxi.get (rw_some (show q < R.length by omega))
    obtain ⟨ya, yc, rfl⟩ := hsy.shape
    conv => whnf
    repeat (first | (refine RunH ?_; intro w hL hB; try clear w) | (refine Both.mk ?_ ?_ <;> conv => whnf) | fail)
    intro o3 ho3
    conv => whnf
    repeat (first | (refine RunH ?_; intro w hL hB; try clear w) | (refine Both.mk ?_ ?_ <;> conv => whnf) | fail)
    refine Ld.row1 ttOk hxr rfl rfl (k := q) hy (by omega) ?_
    conv => whnf
    refine V.seq ?_
    refine V.join (α := Int × Value × List (List UInt8) × List Value × List Res × Value) (fun z => [(0, v), (1, .int .i64 (k : Int)), (2, .int .i64 (m : Int)), (4, .int .i64 (at_ : Int)), (5, .int .i64 (n : Int)), (14, .slice da (16 * i) dc), (15, z.2.1), (16, .int .i64 z.1), (17, .int .i64 (a : Int)), (23, z.2.2.2.2.2), (63, .int .i64 (c : Int)), (64, .int .i64 (i : Int))])
      (fun z w' => Sl w' z.2.2.2.2.2 (bv (rowJ ls k m (a + i))) ∧ (rowJ ls k m (a + i)).length = 16 ∧ (canJ ls k (a + i) ∧ (rw_ R q = [] → MendR k m 16 R (mendV k m R))) ∧ (z.1 = -1 ∨ ∃ r : Nat, z.1 = r ∧ z.2.2.1 = mendV k m (rowsAt ls r) ∧ (selS k (rowsAt ls r)).length = k ∧ MendR k m 16 (rowsAt ls r) z.2.2.1) ∧ InsR z.2.2.2.1 z.2.2.1 z.2.2.2.2.1 ∧ w0.heap.size ≤ w'.heap.size ∧ Sep Tryd.prog w0.heap.size w0 w' (.row 5 1 (.slice da (16 * i) dc) (16 * i) (bv (dataJ ls k m a i)) :: .row 22 1 z.2.1 z.2.2.1.length z.2.2.2.1 :: z.2.2.2.2.1)) ?_ ?_
    · by_cases hne : rw_ R q = []
      · rw [if_pos hne] at hrj
        rw [hne, show (bv []).length = 0 from rfl]
        by_cases hlr : last = r
        · subst hlr
          rcases hlast with h9 | ⟨r', h9, hout, hsel, hmr⟩
          · exact absurd h9 (by omega)
          obtain rfl : r = r' := by omega
          rw [hR] at hout hsel hmr
          have hol := hmr.len
          have ho16 := hmr.row hsel hrir
          obtain ⟨sa, sc, rfl⟩ := (hL.rowN (i := 1) rfl).shape
          rw [hol] at hL
          obtain ⟨⟨sb, rfl⟩, _⟩ := own_addr (hL.at (i := 1) rfl) (by omega)
          obtain ⟨bi, hbi, _, hbm⟩ := hins.get (i := q) (by omega)
          have hsb := bR_sl (hL.hold _ (mem2 hbm))
          repeat (first | (refine RunH ?_; intro w hL hB; try clear w) | (refine Both.mk ?_ ?_ <;> conv => whnf) | fail)
          obtain ⟨bia, bic, rfl⟩ := hsb.shape
          intro o4 ho4
          conv => whnf
          repeat (first | (refine RunH ?_; intro w hL hB; try clear w) | (refine Both.mk ?_ ?_ <;> conv => whnf) | fail)
          refine Ld.row1 ttOk (hL.rowN (i := 1) rfl).rowOf rfl rfl (k := q) hbi (by omega) ?_
          conv => whnf
          repeat (first | (refine RunH ?_; intro w hL hB; try clear w) | (refine Both.mk ?_ ?_ <;> conv => whnf) | fail)
          refine ⟨(_, _, out, bs, Rs, .slice bia (bv (rw_ out q)).length bic), ⟨rfl, rfl, rfl, rfl, rfl, rfl, rfl, rfl, rfl, rfl, rfl, rfl, trivial⟩, ?_⟩
          refine ⟨by rw [hrj, ← hout]; exact hsb, by rw [hrj, ← hout]; exact ho16 _ (rw_mem (by omega)), ⟨hcj.2 fun _ => hsel, fun _ => hout ▸ hmr⟩, .inr ⟨r, rfl, by rw [hR]; exact hout, by rw [hR]; exact hsel, by rw [hR]; exact hmr⟩, hins, hB, by dsimp only; rw [hol]; exact hL⟩
        · have hlr2 : last ≠ (r : Int) := hlr
          repeat (first | (refine RunH ?_; intro w hL hB; try clear w) | (refine Both.mk ?_ ?_ <;> conv => whnf) | fail)
          refine (smend_fn k m 16 _ R hk1 hkm hrlr hrowr (by decide) _ (tabAt_below hT hL.below) hss).mono fun y9 w' hr9 => ?_
          obtain ⟨hgot, hbl2⟩ := hr9
          unfold MendGot at hgot
          by_cases hfew : (selS k R).length < k
          · rw [if_pos hfew] at hgot
            subst hgot
            conv => whnf
            repeat (first | (refine RunH ?_; intro w hL hB; try clear w) | (refine Both.mk ?_ ?_ <;> conv => whnf) | fail)
            exact ⟨.inr ⟨hbad fun h => by have := hcj.1 h hne; omega, rfl⟩, (hL.call hB (Turns.of_below hbl2)).below⟩
          rw [if_neg hfew] at hgot
          have hsel : (selS k R).length = k := by
            have := selS_len (k := k) hrlr
            omega
          obtain ⟨u, out2, hmr, hmat, rfl⟩ := hgot
          obtain ⟨bs2, L2, hins2, hS⟩ := hmat.sep hbl2
          have hol := hmr.len
          have ho16 := hmr.row hsel hrir
          have hov := hmr.val hsel hrir
          replace hL := (hL.adds hB hS).perm List.perm_append_comm
          replace hB := Nat.le_trans hB hS.below.size
          rw [hol] at hL
          rw [List.cons_append, List.cons_append] at hL
          replace hL := (hL.pop 1).perm (List.perm_middle.cons _)
          have hins3 := hins2.mono (L' := Rs ++ L2) fun R hR => List.mem_append_right _ hR
          obtain ⟨ua, uc, rfl⟩ := (hL.rowN (i := 1) rfl).shape
          obtain ⟨⟨ub, rfl⟩, _⟩ := own_addr (hL.at (i := 1) rfl) (by omega)
          obtain ⟨bi, hbi, _, hbm⟩ := hins3.get (i := q) (by omega)
          have hsb := bR_sl (hL.hold _ (mem2 hbm))
          obtain ⟨bia, bic, rfl⟩ := hsb.shape
          conv => whnf
          repeat (first | (refine RunH ?_; intro w hL hB; try clear w) | (refine Both.mk ?_ ?_ <;> conv => whnf) | fail)
          intro o4 ho4
          conv => whnf
          repeat (first | (refine RunH ?_; intro w hL hB; try clear w) | (refine Both.mk ?_ ?_ <;> conv => whnf) | fail)
          refine Ld.row1 ttOk (hL.rowN (i := 1) rfl).rowOf rfl rfl (k := q) hbi (by omega) ?_
          conv => whnf
          repeat (first | (refine RunH ?_; intro w hL hB; try clear w) | (refine Both.mk ?_ ?_ <;> conv => whnf) | fail)
          refine ⟨((r : Int), _, out2, bs2, Rs ++ L2, .slice bia (bv (rw_ out2 q)).length bic), ⟨rfl, rfl, rfl, rfl, rfl, rfl, rfl, rfl, rfl, rfl, rfl, rfl, trivial⟩, ?_⟩
          refine ⟨by rw [hrj, ← hov]; exact hsb, by rw [hrj, ← hov]; exact ho16 _ (rw_mem (by omega)), ⟨hcj.2 fun _ => hsel, fun _ => hov ▸ hmr⟩, .inr ⟨r, rfl, by rw [hR]; exact hov, by rw [hR]; exact hsel, by rw [hR]; exact hmr⟩, hins3, hB, by dsimp only; rw [hol]; exact hL⟩
      · rw [if_neg hne] at hrj
        have hl16 := hrowr _ (rw_mem (C := R) (i := q) (by omega)) hne
        rw [bv_length, hl16] at hy hsy ⊢
        repeat (first | (refine RunH ?_; intro w hL hB; try clear w) | (refine Both.mk ?_ ?_ <;> conv => whnf) | fail)
        refine ⟨(last, sv, out, bs, Rs, .slice ya 16 yc), ⟨rfl, rfl, rfl, rfl, rfl, rfl, rfl, rfl, rfl, rfl, rfl, rfl, trivial⟩, ?_⟩
        refine ⟨by rw [hrj]; exact hsy, by rw [hrj]; exact hl16, ⟨hcj.2 fun h => absurd h hne, fun h => absurd h hne⟩, hlast, hins, hB, hL⟩
    repeat clear hL
    repeat clear hB
    clear hlast hins hss hxs hxi hy hsy hxr
    rintro ⟨last, sv, out, bs, Rs, xv⟩ w ⟨hxv, hx16, hxok, hlast, hins, hB, hL⟩
    dsimp only at hxv hx16 hxok hlast hins hL
    obtain ⟨xa, xc, rfl⟩ := hxv.shape
    repeat (first | (refine RunH ?_; intro w hL hB; try clear w) | (refine Both.mk ?_ ?_ <;> conv => whnf) | fail)
    refine Rv.appendS ttOk hL tl22 tl5 rfl (by decide) 0 rfl hxv.toN (bv_one _) (by rw [bv_length]; simp only [maxLen]; omega) (by rw [bv_length]; omega) hB fun v9 w hL hB => ?_
    dsimp only [List.set] at hL
    rw [bv_length, hx16, ← bv_append, ← hds] at hL
    conv => whnf
    repeat (first | (refine RunH ?_; intro w hL hB; try clear w) | (refine Both.mk ?_ ?_ <;> conv => whnf) | fail)
    refine ⟨(i + 1, v9, last, sv, out, bs, Rs), ⟨rfl, rfl, rfl, rfl, rfl, rfl, rfl, rfl, rfl, rfl, rfl, trivial⟩, ⟨by dsimp only; omega, hok2 hxok, by dsimp only; rw [hds, List.length_append, hdl, hx16]; omega, hlast, hins, hB, by dsimp only; rw [show 16 * (i + 1) = 16 * i + 16 by omega]; exact hL⟩, (by first | omega | (dsimp only; omega))⟩
  · obtain rfl : i = c := by omega
    have hcan : ∀ i', i' < i → canJ ls k (a + i') := fun i' h => (hok i' h).1
    obtain ⟨⟨db, rfl⟩, hdc⟩ := own_addr (hL.at (i := 0) rfl) (by omega)
    have hoff : 16 * i - at_ % 16 ≥ n := by omega
    have hsd0 := (hL.rowN (i := 0) rfl)
    have hsd : Sl w (.slice (some ⟨db, 0, none⟩) (16 * i) dc) (bv (dataJ ls k m a i)) := hL.row (i := 0) rfl
    obtain ⟨_, _, hmx⟩ := hsd.len
    repeat (first | (refine RunH ?_; intro w hL hB; try clear w) | (refine Both.mk ?_ ?_ <;> conv => whnf) | fail)
    intro o5 n5 c5 g1 g2 g3 g4
    have hs5 := hsd.drop (k := at_ % 16) (o' := o5) (n' := n5) (c' := c5) (by rw [bv_length, hdl]; omega) (fun h => by have := g1 (by omega); omega) (by omega) (by omega)
    conv => whnf
    repeat (first | (refine RunH ?_; intro w hL hB; try clear w) | (refine Both.mk ?_ ?_ <;> conv => whnf) | fail)
    intro n6 c6 g5 g6
    have hs6 := hs5.take (k := n6) (by rw [List.length_drop, bv_length, hdl]; omega) (c' := c6) (by omega) (by omega)
    obtain rfl : n = n6 := by omega
    rw [← bv_drop, ← bv_take] at hs6
    conv => whnf
    repeat (first | (refine RunH ?_; intro w hL hB; try clear w) | (refine Both.mk ?_ ?_ <;> conv => whnf) | fail)
    refine (clone_fn _ _ _ hs6 (by rw [List.length_take, List.length_drop, hdl]; omega)).mono fun y w' hr9 => ?_
    obtain ⟨hown, hbl⟩ := hr9
    conv => whnf
    repeat (first | (refine RunH ?_; intro w hL hB; try clear w) | (refine Both.mk ?_ ?_ <;> conv => whnf) | fail)
    exact ⟨.inl ⟨hcan, fun i' h => (hok i' h).2, y, rfl, Sl.of_own hown⟩, (hL.call hB (Turns.of_below hbl)).below⟩
end Go.Proofs.YtlldgodjfpgbcaaDoor
