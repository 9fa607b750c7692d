/- wal: a window of a row of pointers: append, shorten at either end. Nothing is claimed here. -/
import Derived.Test.YtjafamiaahabgaaDoorAd
namespace Go.Proofs.YtjafamiaahabgaaDoor
open Go.RowKit Go.Lib
set_option linter.unusedVariables false
set_option linter.unusedSimpArgs false
set_option maxRecDepth 100000

theorem run_append_roomW {P : Program} (w : World) (t ty e : TypeId) (i : TypeInfo) (ht : P.underlying t = some (.slice e)) (hi : P.info? e = some i) (hsz : i.size = 1)
    (g o sLen sCap : Nat) (cur : Array Value) (hg : w.heap[g]? = some (.cells cur e (0, 0)))
    (a : Addr) (m c : Nat) (news : List Value) (hl : news.length = m) (hnews : ∀ j u, news[j]? = some u → w.cell? (a.add j) = some u) (h1 : ∀ u ∈ news, u.oneCell' = true)
    (hroom : sLen + m ≤ sCap) (hfit : o + sLen + news.length ≤ cur.size) :
    (Builtin.append_ #[t, t] ty #[.slice (some ⟨g, o, none⟩) sLen sCap, .slice (some a) m c]).run P w =
      .ok (.slice (some ⟨g, o, none⟩) (sLen + m) sCap) (w.setRow g (cur.toList.take (o + sLen) ++ news ++ cur.toList.drop (o + sLen + news.length)).toArray) := by
  have hf := run_firstCells_some (P := P) w i.size m a m c news (by rw [hsz]; simpa using hl) hnews
  have hst := run_storeCells_at P g (o + sLen) e news 0 cur w hg (by simpa using hfit) h1
  simp only [Nat.add_zero] at hst
  rw [hsz] at hf
  simp [Builtin.append_, run_underlying ht, sizeOf, typeInfo, hi, Builtin.lenOf, hroom, hf, Addr.add_lit, hst, hsz]
theorem perm_heads {α : Type} {A A' F L : List α} (h : L.Perm (A ++ F)) : L.Perm (A ++ F) := h
theorem Rv.appendW {B : Nat} {w0 w : World} {L F : List Res} {K : Value → World → Prop} {ty : TypeId} (hL : Sep Tryd.prog B w0 w L) {n : Wn} {ps : List Value} (hp : L.Perm (n.res ps ++ F)) (hok : n.ok ps) (hlen : ps.length ≤ 2000000000) {x xv : Value} (hs : SlN w 1 xv 1 [x]) (h1 : x.oneCell' = true) (hB : B ≤ w.heap.size)
    (hk : ∀ n' w', Wn.ok n' (ps ++ [x]) → Sep Tryd.prog B w0 w' (n'.res (ps ++ [x]) ++ F) → B ≤ w'.heap.size → K (n'.val (ps ++ [x])) w') :
    Rv Tryd.prog (Builtin.append_ #[45, 45] ty #[n.val ps, xv]) w K := by
  have hT := ttOk
  have hu := und_slice hT tl45
  obtain ⟨inf, hin, hiz, his, hib⟩ := (hT _ _ tl54).inf
  replace hib : inf.bytes = 8 := hib
  replace his : inf.size = 1 := his
  replace hL := hL.perm hp
  have hnew : ∀ u ∈ [x], u.oneCell' = true := fun u hu => by rw [List.mem_singleton] at hu; subst hu; exact h1
  cases n with
  | no =>
    obtain rfl : ps = [] := hok
    have ho : w.ownsRow w.heap.size 54 1 (.slice none 0 0) 0 [] := ⟨rfl, .inl ⟨rfl, rfl⟩⟩
    refine Rv.append' hT tl45 tl54 rfl (by decide) ho hs hnew (by simp only [maxLen]; omega) (by omega) (Nat.le_refl _) fun v' w' o1 o2 o3 => ?_
    rcases o1.2 with ⟨_, h0⟩ | ⟨g, cap, cur, rfl, hbg, hg, hnc, hcm, hcs, htake⟩
    · cases h0
    have hcur : cur.toList = x :: cur.toList.drop 1 := by
      have h2 : cur.toList.take 1 = [x] := by simpa using htake
      rw [← List.take_append_drop 1 cur.toList, h2]; simp
    have := hk (.at g [] (cur.toList.drop 1) cap) w' ⟨by simpa using hnc, hcm, by
      have := congrArg List.length hcur
      simp only [List.length_cons, Array.length_toList, List.nil_append, List.length_singleton] at this ⊢; omega⟩ (hL.add (R := .blk g ([] ++ ([x] ++ cur.toList.drop 1)) 54) hB (Turns.of_below ?_) ?_ ?_ ?_) (Nat.le_trans hB o2.size)
    · exact this
    · exact (Below.refl _ w).grown o2 (Nat.le_refl _) fun q hq => by cases hq
    · show w'.heap[g]? = _
      rw [hg]
      congr 2
      rw [List.nil_append, List.singleton_append, ← hcur]
    · intro b hb
      simp only [Res.blocks, List.mem_singleton] at hb
      subst hb; exact hbg
    · simp [Res.blocks]
  | «at» g pre post c =>
    obtain ⟨k1, k2, k3⟩ := hok
    have hblk : Blk w g (pre ++ (ps ++ post)) 54 := hL.hold _ (.head _)
    have hbl2 : w.heap[g]? = some (.cells (pre ++ (ps ++ post)).toArray 54 (0, 0)) := hblk
    rcases hs.cases with ⟨_, h0, _⟩ | ⟨ad, c2, rfl, e1, e2, hn⟩
    · cases h0
    by_cases hroom : ps.length + 1 ≤ c
    · have hpl : 1 ≤ post.length := by omega
      have hr2 := run_append_roomW (P := Tryd.prog) w 45 ty 54 inf hu hin his g pre.length ps.length c _ hbl2 ad 1 c2 [x] rfl hn hnew hroom (by simp; omega)
      refine Rv.mk hr2 ?_
      have hset := setRow_heap w g _ ((pre ++ (ps ++ post)).toArray.toList.take (pre.length + ps.length) ++ [x] ++ (pre ++ (ps ++ post)).toArray.toList.drop (pre.length + ps.length + [x].length)).toArray 54 (0, 0) hbl2
      have hgb : w.grownBy (w.setRow g ((pre ++ (ps ++ post)).toArray.toList.take (pre.length + ps.length) ++ [x] ++ (pre ++ (ps ++ post)).toArray.toList.drop (pre.length + ps.length + [x].length)).toArray) (some g) := grownBy_setRow w g _
      have heq : (pre ++ (ps ++ post)).toArray.toList.take (pre.length + ps.length) ++ [x] ++ (pre ++ (ps ++ post)).toArray.toList.drop (pre.length + ps.length + [x].length) = pre ++ ((ps ++ [x]) ++ post.drop 1) := by
        simp only [List.length_singleton]
        rw [show pre ++ (ps ++ post) = (pre ++ ps) ++ post from by simp, List.take_left' (by simp), show pre.length + ps.length + 1 = (pre ++ ps).length + 1 from by simp, List.drop_length_add_append]
        simp
      rw [heq] at hset hgb ⊢
      have hv : (Value.slice (some ⟨g, pre.length, none⟩) (ps.length + 1) c) = (Wn.at g pre (post.drop 1) c).val (ps ++ [x]) := by simp [Wn.val]
      rw [hv]
      refine hk (.at g pre (post.drop 1) c) _ ⟨by simpa using hroom, k2, by simp; omega⟩ (hL.step (i := 0) rfl hB (Turns.of_grown hgb) (R' := .blk g (pre ++ ((ps ++ [x]) ++ post.drop 1)) 54) hset (fun b hb => .inl hb) (by simp [Res.blocks])) (Nat.le_trans hB hgb.size)
    · have holds : ∀ j u, ps[j]? = some u → w.cell? ((⟨g, pre.length, none⟩ : Addr).add j) = some u := fun j u hj => by
        have hjl := (List.getElem?_eq_some_iff.1 hj).1
        rw [Addr.add_lit]
        refine hblk.cell ?_
        rw [List.getElem?_append_right (by omega), Nat.add_sub_cancel_left, List.getElem?_append_left hjl]
        exact hj
      have hr2 := run_append_grow (P := Tryd.prog) w 45 ty 54 inf (.pointer none) hu hin hiz ⟨g, pre.length, none⟩ ps.length c ps (by rw [his]; simp) holds ad 1 c2 [x] (by rw [his]; rfl) hn (by omega) (by omega) (by
        have := growslice_fits (need := ps.length + 1) (old := c) (bytes := inf.bytes) (by omega) (by rw [hib]; omega)
        exact this)
      have hge := grownCap_ge w (ps.length + 1) c 54
      have hcm : grownCap w (ps.length + 1) c 54 ≤ maxLen := grownCap_le_maxLen w (ps.length + 1) c 54 (by simp only [maxLen]; omega)
      refine Rv.mk hr2 ?_
      have hz : ∀ k, (Builtin.zeroCells (Value.pointer none).cells k).toList = List.replicate k (.pointer none) := fun k => by
        have := size_zeroCells (Value.pointer none).cells k
        refine List.eq_replicate_iff.2 ⟨by rw [Array.length_toList, this]; simp [Value.cells], fun b hb => ?_⟩
        simp [Builtin.zeroCells, Value.cells] at hb
        obtain ⟨j, _, hb⟩ := hb
        rw [← hb, Nat.mod_one]; rfl
      have hg2 := heap_alloc_new w.drew (.cells (ps.toArray ++ [x].toArray ++ Builtin.zeroCells (Value.pointer none).cells (grownCap w (ps.length + 1) c 54 - (ps.length + 1))) 54)
      have htn : Turns w (w.drew.alloc (.cells (ps.toArray ++ [x].toArray ++ Builtin.zeroCells (Value.pointer none).cells (grownCap w (ps.length + 1) c 54 - (ps.length + 1))) 54)) [] :=
        ⟨rfl, rfl, rfl, by rw [show (w.drew.alloc _).heap.size = (w.heap.push _).size from rfl, Array.size_push]; omega, fun k hk _ => heap_alloc_old w.drew _ hk⟩
      have := hk (.at w.heap.size [] (List.replicate (grownCap w (ps.length + 1) c 54 - (ps.length + 1)) (.pointer none)) (grownCap w (ps.length + 1) c 54)) _ ⟨by simpa using hge, hcm, by simp; omega⟩ ((hL.tl).add (R := .blk w.heap.size ([] ++ ((ps ++ [x]) ++ List.replicate (grownCap w (ps.length + 1) c 54 - (ps.length + 1)) (.pointer none))) 54) hB htn ?_ ?_ ?_) (Nat.le_trans hB htn.size)
      · simpa [Wn.val] using this
      · show _ = _
        refine Eq.trans hg2 ?_
        congr 2
        apply Array.toList_inj.1
        simp [hz]
      · intro b hb
        simp only [Res.blocks, List.mem_singleton] at hb
        subst hb; exact Nat.le_refl _
      · simp [Res.blocks]
end Go.Proofs.YtjafamiaahabgaaDoor
