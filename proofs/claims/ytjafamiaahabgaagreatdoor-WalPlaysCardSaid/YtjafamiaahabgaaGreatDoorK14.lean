/- wal: a window of a row of pointers: append, shorten at either end. wal, plain: what a segment's file says; one file opened. Nothing is claimed here. -/
import Derived.Test.YtjafamiaahabgaaGreatDoorK13
import Derived.Test.YtjafamiaahabgaaGreatDoorK11
namespace Go.Proofs.YtjafamiaahabgaaGreatDoor
open Go.RowKit Go.Lib
set_option linter.unusedVariables false
set_option linter.unusedSimpArgs false
set_option maxRecDepth 100000

theorem run_append_roomW {P : Program} (w : World) (t ty e : TypeId) (i : TypeInfo) (ht : P.underlying t = some (.slice e)) (hi : P.info? e = some i) (hsz : i.size = 1)
    (g o sLen sCap : Nat) (cur : Array Value) (hg : w.heap[g]? = some (.cells cur e (0, 0)))
    (a : Addr) (m c : Nat) (news : List Value) (hl : news.length = m) (hnews : ∀ j u, news[j]? = some u → w.cell? (a.add j) = some u) (h1 : ∀ u ∈ news, u.oneCell' = true)
    (hroom : sLen + m ≤ sCap) (hfit : o + sLen + news.length ≤ cur.size) :
    (Builtin.append_ #[t, t] ty #[.slice (some ⟨g, o, none⟩) sLen sCap, .slice (some a) m c]).run P w =
      .ok (.slice (some ⟨g, o, none⟩) (sLen + m) sCap) (w.setRow g (cur.toList.take (o + sLen) ++ news ++ cur.toList.drop (o + sLen + news.length)).toArray) := by
  have hf := run_firstCells_some (P := P) w i.size m a m c news (by rw [hsz]; simpa using hl) hnews
  have hst := run_storeCells_at P g (o + sLen) e news 0 cur w hg (by simpa using hfit) h1
  simp only [Nat.add_zero] at hst
  rw [hsz] at hf
  simp [Builtin.append_, run_underlying ht, sizeOf, typeInfo, hi, Builtin.lenOf, hroom, hf, Addr.add_lit, hst, hsz]
theorem perm_heads {α : Type} {A A' F L : List α} (h : L.Perm (A ++ F)) : L.Perm (A ++ F) := h
theorem Rv.appendW {B : Nat} {w0 w : World} {L F : List Res} {K : Value → World → Prop} {ty : TypeId} (hL : Sep Tryz.prog B w0 w L) {n : Wn} {ps : List Value} (hp : L.Perm (n.res ps ++ F)) (hok : n.ok ps) (hlen : ps.length ≤ 2000000000) {x xv : Value} (hs : SlN w 1 xv 1 [x]) (h1 : x.oneCell' = true) (hB : B ≤ w.heap.size)
    (hk : ∀ n' w', Wn.ok n' (ps ++ [x]) → Sep Tryz.prog B w0 w' (n'.res (ps ++ [x]) ++ F) → B ≤ w'.heap.size → K (n'.val (ps ++ [x])) w') :
    Rv Tryz.prog (Builtin.append_ #[63, 63] ty #[n.val ps, xv]) w K := by
  have hT := ttOk
  have hu := und_slice hT tl63
  obtain ⟨inf, hin, hiz, his, hib⟩ := (hT _ _ tl75).inf
  replace hib : inf.bytes = 8 := hib
  replace his : inf.size = 1 := his
  replace hL := hL.perm hp
  have hnew : ∀ u ∈ [x], u.oneCell' = true := fun u hu => by rw [List.mem_singleton] at hu; subst hu; exact h1
  cases n with
  | no =>
    obtain rfl : ps = [] := hok
    have ho : w.ownsRow w.heap.size 75 1 (.slice none 0 0) 0 [] := ⟨rfl, .inl ⟨rfl, rfl⟩⟩
    refine Rv.append' hT tl63 tl75 rfl (by decide) ho hs hnew (by simp only [maxLen]; omega) (by omega) (Nat.le_refl _) fun v' w' o1 o2 o3 => ?_
    rcases o1.2 with ⟨_, h0⟩ | ⟨g, cap, cur, rfl, hbg, hg, hnc, hcm, hcs, htake⟩
    · cases h0
    have hcur : cur.toList = x :: cur.toList.drop 1 := by
      have h2 : cur.toList.take 1 = [x] := by simpa using htake
      rw [← List.take_append_drop 1 cur.toList, h2]; simp
    have := hk (.at g [] (cur.toList.drop 1) cap) w' ⟨by simpa using hnc, hcm, by
      have := congrArg List.length hcur
      simp only [List.length_cons, Array.length_toList, List.nil_append, List.length_singleton] at this ⊢; omega⟩ (hL.add (R := .blk g ([] ++ ([x] ++ cur.toList.drop 1)) 75) hB (Turns.of_below ?_) ?_ ?_ ?_) (Nat.le_trans hB o2.size)
    · exact this
    · exact (Below.refl _ w).grown o2 (Nat.le_refl _) fun q hq => by cases hq
    · show w'.heap[g]? = _
      rw [hg]
      congr 2
      rw [List.nil_append, List.singleton_append, ← hcur]
    · intro b hb
      simp only [Res.blocks, List.mem_singleton] at hb
      subst hb; exact hbg
    · simp [Res.blocks]
  | «at» g pre post c =>
    obtain ⟨k1, k2, k3⟩ := hok
    have hblk : Blk w g (pre ++ (ps ++ post)) 75 := hL.hold _ (.head _)
    have hbl2 : w.heap[g]? = some (.cells (pre ++ (ps ++ post)).toArray 75 (0, 0)) := hblk
    rcases hs.cases with ⟨_, h0, _⟩ | ⟨ad, c2, rfl, e1, e2, hn⟩
    · cases h0
    by_cases hroom : ps.length + 1 ≤ c
    · have hpl : 1 ≤ post.length := by omega
      have hr2 := run_append_roomW (P := Tryz.prog) w 63 ty 75 inf hu hin his g pre.length ps.length c _ hbl2 ad 1 c2 [x] rfl hn hnew hroom (by simp; omega)
      refine Rv.mk hr2 ?_
      have hset := setRow_heap w g _ ((pre ++ (ps ++ post)).toArray.toList.take (pre.length + ps.length) ++ [x] ++ (pre ++ (ps ++ post)).toArray.toList.drop (pre.length + ps.length + [x].length)).toArray 75 (0, 0) hbl2
      have hgb : w.grownBy (w.setRow g ((pre ++ (ps ++ post)).toArray.toList.take (pre.length + ps.length) ++ [x] ++ (pre ++ (ps ++ post)).toArray.toList.drop (pre.length + ps.length + [x].length)).toArray) (some g) := grownBy_setRow w g _
      have heq : (pre ++ (ps ++ post)).toArray.toList.take (pre.length + ps.length) ++ [x] ++ (pre ++ (ps ++ post)).toArray.toList.drop (pre.length + ps.length + [x].length) = pre ++ ((ps ++ [x]) ++ post.drop 1) := by
        simp only [List.length_singleton]
        rw [show pre ++ (ps ++ post) = (pre ++ ps) ++ post from by simp, List.take_left' (by simp), show pre.length + ps.length + 1 = (pre ++ ps).length + 1 from by simp, List.drop_length_add_append]
        simp
      rw [heq] at hset hgb ⊢
      have hv : (Value.slice (some ⟨g, pre.length, none⟩) (ps.length + 1) c) = (Wn.at g pre (post.drop 1) c).val (ps ++ [x]) := by simp [Wn.val]
      rw [hv]
      refine hk (.at g pre (post.drop 1) c) _ ⟨by simpa using hroom, k2, by simp; omega⟩ (hL.step (i := 0) rfl hB (Turns.of_grown hgb) (R' := .blk g (pre ++ ((ps ++ [x]) ++ post.drop 1)) 75) hset (fun b hb => .inl hb) (by simp [Res.blocks])) (Nat.le_trans hB hgb.size)
    · have holds : ∀ j u, ps[j]? = some u → w.cell? ((⟨g, pre.length, none⟩ : Addr).add j) = some u := fun j u hj => by
        have hjl := (List.getElem?_eq_some_iff.1 hj).1
        rw [Addr.add_lit]
        refine hblk.cell ?_
        rw [List.getElem?_append_right (by omega), Nat.add_sub_cancel_left, List.getElem?_append_left hjl]
        exact hj
      have hr2 := run_append_grow (P := Tryz.prog) w 63 ty 75 inf (.pointer none) hu hin hiz ⟨g, pre.length, none⟩ ps.length c ps (by rw [his]; simp) holds ad 1 c2 [x] (by rw [his]; rfl) hn (by omega) (by omega) (by
        have := growslice_fits (need := ps.length + 1) (old := c) (bytes := inf.bytes) (by omega) (by rw [hib]; omega)
        exact this)
      have hge := grownCap_ge w (ps.length + 1) c 75
      have hcm : grownCap w (ps.length + 1) c 75 ≤ maxLen := grownCap_le_maxLen w (ps.length + 1) c 75 (by simp only [maxLen]; omega)
      refine Rv.mk hr2 ?_
      have hz : ∀ k, (Builtin.zeroCells (Value.pointer none).cells k).toList = List.replicate k (.pointer none) := fun k => by
        have := size_zeroCells (Value.pointer none).cells k
        refine List.eq_replicate_iff.2 ⟨by rw [Array.length_toList, this]; simp [Value.cells], fun b hb => ?_⟩
        simp [Builtin.zeroCells, Value.cells] at hb
        obtain ⟨j, _, hb⟩ := hb
        rw [← hb, Nat.mod_one]; rfl
      have hg2 := heap_alloc_new w.drew (.cells (ps.toArray ++ [x].toArray ++ Builtin.zeroCells (Value.pointer none).cells (grownCap w (ps.length + 1) c 75 - (ps.length + 1))) 75)
      have htn : Turns w (w.drew.alloc (.cells (ps.toArray ++ [x].toArray ++ Builtin.zeroCells (Value.pointer none).cells (grownCap w (ps.length + 1) c 75 - (ps.length + 1))) 75)) [] :=
        ⟨rfl, rfl, rfl, by rw [show (w.drew.alloc _).heap.size = (w.heap.push _).size from rfl, Array.size_push]; omega, fun k hk _ => heap_alloc_old w.drew _ hk⟩
      have := hk (.at w.heap.size [] (List.replicate (grownCap w (ps.length + 1) c 75 - (ps.length + 1)) (.pointer none)) (grownCap w (ps.length + 1) c 75)) _ ⟨by simpa using hge, hcm, by simp; omega⟩ ((hL.tl).add (R := .blk w.heap.size ([] ++ ((ps ++ [x]) ++ List.replicate (grownCap w (ps.length + 1) c 75 - (ps.length + 1)) (.pointer none))) 75) hB htn ?_ ?_ ?_) (Nat.le_trans hB htn.size)
      · simpa [Wn.val] using this
      · show _ = _
        refine Eq.trans hg2 ?_
        congr 2
        apply Array.toList_inj.1
        simp [hz]
      · intro b hb
        simp only [Res.blocks, List.mem_singleton] at hb
        subst hb; exact Nat.le_refl _
      · simp [Res.blocks]
end Go.Proofs.YtjafamiaahabgaaGreatDoor
namespace Go.Proofs.YtjafamiaahabgaaGreatDoor
open Go.RowKit Go.Lib
set_option linter.unusedVariables false
set_option linter.unusedSimpArgs false
set_option maxRecDepth 100000

theorem rdG_can : ∀ (l : List UInt8) (i v : Nat), i ≤ 9 → (rdG l i v).2.2 = 0 → ∃ m, (rdG l i v).1 = v + m * 128 ^ i ∧ (rdG l i v).2.1 = i + (encG (10 - i) m).length ∧ (0 < i → m ≠ 0)
  | [], i, v, _, h => by simp [rdG] at h
  | c :: l, i, v, hi, h => by
    unfold rdG at h ⊢
    obtain ⟨k, hk⟩ : ∃ k, 10 - i = k + 1 := ⟨9 - i, by omega⟩
    split at h
    · rename_i h128
      rw [if_pos h128]
      split at h
      · simp at h
      · rename_i h9
        rw [if_neg h9]
        obtain ⟨m, h1, h2, h3⟩ := rdG_can l (i + 1) _ (by omega) h
        have hm := h3 (by omega)
        refine ⟨(c.toNat - 128) + 128 * m, ?_, ?_, fun _ => by omega⟩
        · rw [h1, Nat.pow_succ, Nat.add_mul, Nat.add_assoc]
          congr 2
          rw [Nat.mul_comm (128 ^ i) 128, ← Nat.mul_assoc, Nat.mul_comm m 128]
        · have hcl := c.toNat_lt
          rw [h2, hk, encG, if_neg (by omega), show ((c.toNat - 128) + 128 * m) / 128 = m by omega, List.length_cons, show 10 - (i + 1) = k by omega]
          omega
    · rename_i h128
      rw [if_neg h128]
      split at h
      · simp at h
      · rename_i hz
        rw [if_neg hz]
        refine ⟨c.toNat, rfl, ?_, fun h0 => by omega⟩
        rw [hk, encG, if_pos (by omega)]
        simp
/-- a number is told in one way alone -/
theorem rdU_can {l : List UInt8} (h : (rdU l).2.2 = 0) : (rdU l).2.1 = (encU (rdU l).1).length := by
  obtain ⟨m, h1, h2, _⟩ := rdG_can l 0 0 (by decide) h
  have e : (rdU l).1 = m := by rw [rdU, h1]; simp
  rw [e, rdU, h2, encU]
  simp
def fileD (S : List Fl) (nm : ByteArray) : List UInt8 := match getS S nm with
  | some f => f.d
  | none => []
/-- does a record with the number n stand at the head of b? -/
def hdW (n : Nat) (b : List UInt8) : Bool := decide (decE b = 0 ∧ (rdU (decP b)).2.2 = 0 ∧ (rdU (decP b)).1 = n)
def hdX (b : List UInt8) : List UInt8 := (decP b).drop (rdU (decP b)).2.1
/-- what a segment's file says: its entries, how many bytes they are -/
def rdW : Nat → Nat → List UInt8 → List (List UInt8) × Nat
  | 0, _, _ => ([], 0)
  | f + 1, n, b => if b ≠ [] ∧ hdW n b = true then
      (hdX b :: (rdW f (n + 1) (b.drop (recL n (hdX b)))).1, recL n (hdX b) + (rdW f (n + 1) (b.drop (recL n (hdX b)))).2) else ([], 0)
theorem hdW_len {n : Nat} {b : List UInt8} (h : hdW n b = true) : 8 + decN b = recL n (hdX b) ∧ 8 + decN b ≤ b.length ∧ (decP b).length = decN b ∧ (rdU (decP b)).2.1 ≤ decN b := by
  simp only [hdW, decide_eq_true_eq] at h
  obtain ⟨h1, h2, h3⟩ := h
  have hl : 8 + decN b ≤ b.length := by
    unfold decE at h1
    split at h1
    · cases h1
    split at h1
    · cases h1
    split at h1
    · cases h1
    omega
  have hp : (decP b).length = decN b := win_len (by omega)
  have hk := (rdU_ok (decP b)).2.1
  have hc := rdU_can h2
  rw [h3] at hc
  refine ⟨?_, hl, hp, by omega⟩
  rw [recL, hdX, List.length_drop, hp, ← hc]
  omega
theorem recL_ge (n : Nat) (x : List UInt8) : 9 ≤ recL n x := by
  have := encG_pos (f := 10) (v := n) (by decide)
  rw [recL, encU]; omega
theorem lenW_ge : ∀ (n : Nat) (xs : List (List UInt8)), 9 * xs.length ≤ lenW n xs
  | _, [] => by simp [lenW]
  | n, x :: xs => by
    have := lenW_ge (n + 1) xs
    have := recL_ge n x
    rw [lenW, List.length_cons]; omega
theorem rdW_len : ∀ (f n : Nat) (b : List UInt8), (rdW f n b).2 ≤ b.length ∧ (rdW f n b).2 = lenW n (rdW f n b).1
  | 0, n, b => by simp [rdW, lenW]
  | f + 1, n, b => by
    unfold rdW
    split
    · rename_i h
      have h1 := hdW_len h.2
      have := rdW_len f (n + 1) (b.drop (recL n (hdX b)))
      rw [List.length_drop] at this
      simp only [lenW]
      omega
    · simp [lenW]
/-- a log under way: its segments, its next number, the disk, whether all was whole -/
structure Ost where
  G : List Wg
  af : Nat
  S : List Fl
  good : Bool
def readG (pre : ByteArray) (o : Ost) (first : Nat) : Ost :=
  if first < 1 ∨ (o.G ≠ [] ∧ first ≠ o.af) then ⟨o.G, o.af, delS o.S (wnm pre first), false⟩ else
  let b := fileD o.S (wnm pre first)
  let r := rdW (b.length + 1) first b
  if r.2 = b.length then ⟨o.G ++ [⟨first, r.1, true⟩], first + r.1.length, o.S, true⟩ else
  if r.2 = 0 then ⟨o.G, o.af, delS o.S (wnm pre first), false⟩ else
  ⟨o.G ++ [⟨first, r.1, true⟩], first + r.1.length, cutS o.S (wnm pre first) (r.2 : Int), false⟩
def openStep (pre : ByteArray) (o : Ost) (nm : ByteArray) : Ost := match numG pre nm with
  | none => o
  | some n => if o.good then readG pre o n else ⟨o.G, o.af, delS o.S nm, false⟩
end Go.Proofs.YtjafamiaahabgaaGreatDoor
