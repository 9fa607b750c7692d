/- shard.begins. shard.begins. Nothing is claimed here. -/
import Derived.Test.YtlldgodjfpgbcaaDoorK12
namespace Go.Proofs.YtlldgodjfpgbcaaDoor
open Go.RowKit
open Go.Maps (Keyed)
set_option linter.unusedVariables false
set_option linter.unusedSimpArgs false
set_option maxRecDepth 100000

def boolC (l : List Bool) : List Value := l.map .bool
theorem boolC_len (l : List Bool) : (boolC l).length = l.length := by simp [boolC]
section
variable {P : Program} {T : Tab} (hT : TabOk P T)
include hT
/-- an array of truths is a key -/
theorem good_arrB {t e : TypeId} {n s b b1 : Nat} {z z1 : Value} (ht : look T t = some ⟨.array n e, s, b, z⟩) (he : look T e = some ⟨.bool, 1, b1, z1⟩) (hs : s = n) (hk : P.keyType t = true) (hD : 1 ≤ P.types.size) (l : List Bool) (hl : l.length = n) : Good P t (.agg (boolC l).toArray) := by
  obtain ⟨u, hu, hsh⟩ := shOf_cases hT ht
  cases u <;> simp only [shOf, reduceCtorEq, Sh.array.injEq] at hsh
  obtain ⟨rfl, rfl⟩ := hsh
  rename_i n' e'
  obtain ⟨u2, hu2, hsh2⟩ := shOf_cases hT he
  cases u2 <;> simp only [shOf, reduceCtorEq] at hsh2
  have hc : P.cellsOf t = l.length := by rw [cellsOf_td hT ht]; exact hs.trans hl.symm
  have hce : P.cellsOf e' = 1 := cellsOf_td hT he
  obtain ⟨D, hD'⟩ : ∃ D, P.types.size = D + 1 := ⟨P.types.size - 1, by omega⟩
  obtain ⟨ls, hls⟩ := mapM_some (l := List.range l.length) (f := fun i => P.keyLits (D + 1) e' (((boolC l).drop (i * P.cellsOf e')).take (P.cellsOf e'))) fun i hi => by
    have hi' : i < l.length := List.mem_range.1 hi
    rw [hce, Nat.mul_one]
    have e1 : ((boolC l).drop i).take 1 = [.bool l[i]] := by
      rw [List.drop_eq_getElem_cons (by simpa [boolC] using hi')]
      simp [boolC]
    rw [e1]
    simp only [Program.keyLits, hu2]
    exact ⟨_, rfl⟩
  refine ⟨.string (keyBytes ls.flatten), ?_⟩
  have hcl : (boolC l).length = P.cellsOf t := by rw [hc, boolC_len]
  have hk1 : ∀ d, P.keyLits (d + 1) t (boolC l) = ((List.range n').mapM fun i => P.keyLits d e' (((boolC l).drop (i * P.cellsOf e')).take (P.cellsOf e'))).map List.flatten := fun d => by
    simp only [Program.keyLits, hu]
    rw [if_pos hcl]
  have hkl : P.keyLits (P.types.size + 1) t (boolC l) = some ls.flatten := by
    rw [hD', hk1, ← hl, hls]; rfl
  simp only [keyOf, hu, hk, Value.formed, List.size_toArray, hcl, beq_self_eq_true, Bool.and_self, if_true, Value.cells, hkl, Option.map_some]
end
theorem b14Keyed : Keyed Tryd.prog 94 := Keyed.of_law (deep_law_gate (by kernel_rfl) (of_decide_eq_true (by kernel_rfl)) (of_decide_eq_true (by kernel_rfl)) (by kernel_rfl) (by kernel_rfl))
theorem b14Good (l : List Bool) (hl : l.length = 14) : Good Tryd.prog 94 (.agg (boolC l).toArray) := good_arrB ttOk tl94 tl4 rfl (by kernel_rfl) (of_decide_eq_true (by kernel_rfl)) l hl

/-- rows that a call gives are one's own, each for itself -/
theorem Mat.sep {w w' : World} {u : Value} {ls : List (List UInt8)} (h : Mat w' w.heap.size u ls) (hb : Below w.heap.size w w') : ∃ us L, InsR us ls L ∧ Sep Tryd.prog w.heap.size w w' (.row 22 1 u ls.length us :: L) := by
  obtain ⟨us, h1, h2⟩ := h.of
  have hap := h2.apart h1 (by decide)
  have key : ∀ (us' : List Value) (ls' : List (List UInt8)), us'.length = ls'.length → (∀ (i : Nat) (u : Value) (l : List UInt8), us'[i]? = some u → ls'[i]? = some l → w'.ownsRow w.heap.size 5 1 u l.length (bv l)) → (∀ (i j : Nat) (u u' : Value), i ≠ j → us'[i]? = some u → us'[j]? = some u' → u.ownBlock = none ∨ u.ownBlock ≠ u'.ownBlock) → ∃ L, InsR us' ls' L ∧ Sep Tryd.prog w.heap.size w w' L ∧ ∀ R ∈ L, ∃ u ∈ us', ∃ l, R = bR u l := by
    intro us'
    induction us' with
    | nil =>
      intro ls' hl _ _
      cases ls' with
      | nil => exact ⟨[], InsR.nil [], ⟨hb, by simp, by simp, by simp⟩, by simp⟩
      | cons a l => simp at hl
    | cons x us' ih =>
      intro ls' hl ho hsep
      cases ls' with
      | nil => simp at hl
      | cons l ls' =>
        obtain ⟨L, g1, g2, g3⟩ := ih ls' (by simpa using hl) (fun i u l' a b => ho (i + 1) u l' (by simpa using a) (by simpa using b)) fun i j u u' hij a b => hsep (i + 1) (j + 1) u u' (by omega) (by simpa using a) (by simpa using b)
        have hx := ho 0 x l rfl rfl
        refine ⟨bR x l :: L, ⟨by simp [g1.len], fun i u l' a b => ?_⟩, ⟨hb, fun R hR => ?_, fun R hR => ?_, ?_⟩, fun R hR => ?_⟩
        · cases i with
          | zero => simp at a b; subst a; subst b; exact List.mem_cons_self ..
          | succ i => exact List.mem_cons_of_mem _ (g1.mem i u l' (by simpa using a) (by simpa using b))
        · rcases List.mem_cons.1 hR with rfl | hR
          · exact own_mono hx (Nat.zero_le _)
          · exact g2.hold R hR
        · rcases List.mem_cons.1 hR with rfl | hR
          · exact fun b hb' => (hx.lt b (mem_rowB.1 hb')).1
          · exact g2.own R hR
        · rw [List.flatMap_cons, List.nodup_append]
          refine ⟨by cases hv : x.ownBlock <;> simp [bR, Res.blocks, hv, rowB], g2.apart, fun a ha b hb' hab => ?_⟩
          subst hab
          obtain ⟨Q, hQ, hq⟩ := List.mem_flatMap.1 hb'
          obtain ⟨u, hu, l', rfl⟩ := g3 Q hQ
          obtain ⟨i, hi⟩ := List.getElem?_of_mem hu
          have a1 : x.ownBlock = some a := mem_rowB.1 ha
          have a2 : u.ownBlock = some a := mem_rowB.1 hq
          rcases hsep 0 (i + 1) x u (by omega) rfl (by simpa using hi) with h9 | h9
          · rw [a1] at h9; cases h9
          · exact h9 (a1.trans a2.symm)
        · rcases List.mem_cons.1 hR with rfl | hR
          · exact ⟨x, List.mem_cons_self .., l, rfl⟩
          · obtain ⟨u, hu, l', e⟩ := g3 R hR
            exact ⟨u, List.mem_cons_of_mem _ hu, l', e⟩
  obtain ⟨L, g1, g2, g3⟩ := key us ls h2.len h2.own h2.sep
  refine ⟨us, L, g1, ⟨hb, fun R hR => ?_, fun R hR => ?_, ?_⟩⟩
  · rcases List.mem_cons.1 hR with rfl | hR
    · exact own_mono h1 (Nat.zero_le _)
    · exact g2.hold R hR
  · rcases List.mem_cons.1 hR with rfl | hR
    · exact fun b hb' => (h1.lt b (mem_rowB.1 hb')).1
    · exact g2.own R hR
  · rw [List.flatMap_cons, List.nodup_append]
    refine ⟨by cases hv : u.ownBlock <;> simp [Res.blocks, hv, rowB], g2.apart, fun a ha b hb' hab => ?_⟩
    subst hab
    obtain ⟨Q, hQ, hq⟩ := List.mem_flatMap.1 hb'
    obtain ⟨x, hx, l', rfl⟩ := g3 Q hQ
    have a1 : u.ownBlock = some a := mem_rowB.1 ha
    have a2 : x.ownBlock = some a := mem_rowB.1 hq
    rcases hap x hx with h9 | h9
    · rw [a2] at h9; cases h9
    · exact h9 (a2.trans a1.symm)

/-! ### which rows there are, as bits -/
def bits_ (rows : List (List UInt8)) : Nat → Nat
  | 0 => 0
  | i + 1 => if rw_ rows i = [] then bits_ rows i else bits_ rows i ||| 2 ^ i
def cnt_ (rows : List (List UInt8)) (i : Nat) : Nat := ((List.range i).filter fun j => decide (rw_ rows j ≠ [])).length
theorem bits_bit (rows : List (List UInt8)) : ∀ i j, (bits_ rows i).testBit j = (decide (j < i) && decide (rw_ rows j ≠ []))
  | 0, j => by simp [bits_]
  | i + 1, j => by
    rw [bits_]
    split
    · rename_i h
      rw [bits_bit rows i j]
      by_cases hj : j = i
      · subst hj; simp [h]
      · simp [show (j < i + 1) = (j < i) by rw [eq_iff_iff]; omega]
    · rename_i h
      rw [Nat.testBit_or, bits_bit rows i j, Nat.testBit_two_pow]
      by_cases hj : j = i
      · subst hj; simp [h]
      · simp [show (j < i + 1) = (j < i) by rw [eq_iff_iff]; omega, show ¬ i = j from fun e => hj e.symm]
theorem bits_lt (rows : List (List UInt8)) : ∀ i, bits_ rows i < 2 ^ i
  | 0 => by simp [bits_]
  | i + 1 => by
    have h1 := bits_lt rows i
    have h2 : 2 ^ i < 2 ^ (i + 1) := Nat.pow_lt_pow_right (by decide : 1 < 2) (by omega)
    rw [bits_]
    split
    · omega
    · exact Nat.or_lt_two_pow (by omega) h2
theorem cnt_succ (rows : List (List UInt8)) (i : Nat) : cnt_ rows (i + 1) = cnt_ rows i + if rw_ rows i = [] then 0 else 1 := by
  unfold cnt_
  rw [List.range_succ, List.filter_append, List.length_append]
  by_cases h : rw_ rows i = [] <;> simp [h]
theorem cnt_le (rows : List (List UInt8)) (i : Nat) : cnt_ rows i ≤ i := by
  unfold cnt_
  exact Nat.le_trans (List.length_filter_le _ _) (by simp)
end Go.Proofs.YtlldgodjfpgbcaaDoor
namespace Go.Proofs.YtlldgodjfpgbcaaDoor
open Go.RowKit
open Go.Maps (Keyed)
set_option linter.unusedVariables false
set_option linter.unusedSimpArgs false
set_option maxRecDepth 100000

set_option maxHeartbeats 8000000 in
theorem begins_fn (v : Value) (rows : List (List UInt8)) (k m N : Nat) (h1 : 1 ≤ k) (h2 : k + m ≤ 14) (hr : rows.length = k + m) (hN : ∀ l ∈ rows, l ≠ [] → l.length = N) (w0 : World) (hs : SS w0 v rows) :
    Fn Tryd.prog 32 #[v, .int .i64 (k : Int), .int .i64 (m : Int)] w0 fun r w' => ∃ w1 b mb cv, r = .tuple #[.pointer (some ⟨b, 0, none⟩), .int .u32 (bits_ rows (k + m) : Nat), .int .i64 (cnt_ rows (k + m) : Nat), .int .i64 0] ∧ Below w0.heap.size w0 w1 ∧ SS w1 cv (codeM k m) ∧ Sep Tryd.prog w1.heap.size w1 w' [.blk b [.int .i64 (k : Int), .int .i64 (m : Int), cv, .map (some mb)] 82, .mp 94 mb []] := by
  obtain ⟨cs, hcs, hci⟩ := hs.of
  have hcl := hci.len
  obtain ⟨a, cp, rfl⟩ := hcs.shape
  rw [hcl, hr] at hcs ⊢
  obtain ⟨b1, o1, rfl, hr1⟩ := hcs.addr (by omega)
  have hL := Sep.start Tryd.prog w0
  have hB := Nat.le_refl w0.heap.size
  refine Fn.mk Tryd.func32 rfl (by kernel_rfl) Tryd.ntmps32 rfl (by rw [Tryd.results32]) ?_
  repeat (first | (refine RunH ?_; intro w hL hB; try clear w) | (refine Both.mk ?_ ?_ <;> conv => whnf) | fail)
  refine (code_fn k m h1 h2 _).mono fun r w1 ⟨cv, hru, hmat, hbl⟩ => ?_
  subst hru
  have hcode := hmat.ss
  obtain ⟨ca, cc, rfl⟩ : ∃ a c, cv = .slice a (k + m) c := by
    obtain ⟨us, q1, q2⟩ := hcode.of
    obtain ⟨a, c, rfl⟩ := q1.shape
    exact ⟨a, c, by rw [q2.len, codeM_len]⟩
  clear hL hB hmat
  have hL := Sep.start Tryd.prog w1
  have hB := Nat.le_refl w1.heap.size
  have hci1 := hci.below hbl
  have hr1 := (hcs.below hbl).toN.rowOf
  conv => whnf
  repeat (first | (refine RunH ?_; intro w hL hB; try clear w) | (refine Both.mk ?_ ?_ <;> conv => whnf) | fail)
  refine V.loop (α := Nat) (fun i => [(1, .int .i64 (k : Int)), (2, .int .i64 (m : Int)), (10, .slice ca (k + m) cc), (12, .int .u32 (bits_ rows i : Nat)), (13, .int .i64 (cnt_ rows i : Nat)), (14, .int .i64 ((if cnt_ rows i = 0 then 0 else N : Nat) : Int)), (33, .slice (some ⟨b1, o1, none⟩) (k + m) cp), (34, .int .i64 ((k + m : Nat) : Int)), (35, .int .i64 (i : Int))])
    (fun i w' => i ≤ k + m ∧ w' = w1) (fun i => k + m - i) 0 ⟨rfl, rfl, rfl, rfl, rfl, rfl, rfl, rfl, rfl, trivial⟩ ⟨Nat.zero_le _, rfl⟩ ?_
  rintro i w ⟨hi, hww⟩
  subst hww
  repeat (first | (refine RunH ?_; intro w hL hB; try clear w) | (refine Both.mk ?_ ?_ <;> conv => whnf) | fail)
  refine Br.dec (fun hlt => ?_) (fun hlt => ?_)
  · have hin : i < k + m := by omega
    obtain ⟨ui, hui, hsi⟩ := hci1.get (rw_some (show i < rows.length by omega))
    obtain ⟨ai, ci, rfl⟩ := hsi.shape
    rw [bv_length] at hui
    have hcs' := cnt_succ rows i
    have hbs : bits_ rows (i + 1) = if rw_ rows i = [] then bits_ rows i else bits_ rows i ||| 2 ^ i := rfl
    have hcle := cnt_le rows i
    repeat (first | (refine RunH ?_; intro w hL hB; try clear w) | (refine Both.mk ?_ ?_ <;> conv => whnf) | fail)
    intro o3 ho3
    conv => whnf
    repeat (first | (refine RunH ?_; intro w hL hB; try clear w) | (refine Both.mk ?_ ?_ <;> conv => whnf) | fail)
    refine Ld.row1 ttOk hr1 rfl rfl (k := i) hui (by omega) ?_
    conv => whnf
    by_cases he : rw_ rows i = []
    · rw [if_pos he] at hcs' hbs
      rw [he]
      repeat (first | (refine RunH ?_; intro w hL hB; try clear w) | (refine Both.mk ?_ ?_ <;> conv => whnf) | fail)
      refine ⟨i + 1, ⟨rfl, rfl, rfl, ?_, ?_, ?_, rfl, rfl, rfl, trivial⟩, ⟨by omega, rfl⟩, (by first | omega | (dsimp only; omega))⟩
      · rw [hbs]; rfl
      · rw [hcs']; rfl
      · rw [hcs']; rfl
    · rw [if_neg he] at hcs' hbs
      have hlen := hN _ (rw_mem (by omega)) he
      have hpos := List.length_pos_iff.2 he
      rw [hlen] at hpos ⊢
      have hb32 := bits_lt rows i
      have hp1 : 2 ^ i ≤ 2 ^ 13 := Nat.pow_le_pow_right (by decide : 0 < 2) (by omega)
      have h14 : cnt_ rows i = 0 ∨ (if cnt_ rows i = 0 then 0 else N : Nat) = N := by
        by_cases h : cnt_ rows i = 0
        · exact .inl h
        · exact .inr (if_neg h)
      have h15 : (if cnt_ rows (i + 1) = 0 then 0 else N : Nat) = N := if_neg (by omega)
      generalize (if cnt_ rows i = 0 then 0 else N : Nat) = z at *
      repeat' (first | (refine RunH ?_; intro w hL hB; try clear w) | (refine Br.dec (fun hbr => ?_) (fun hbr => ?_) <;> conv => whnf) | (refine Br.mk (fun hbr => ?_) (fun hbr => ?_) <;> conv => whnf) | (refine Both.mk ?_ ?_ <;> conv => whnf) | fail)
      all_goals first
        | (exfalso; omega)
        | skip
      all_goals
        refine Shl.u32 i (2 ^ i) rfl (by omega) rfl ?_
        generalize 2 ^ i = q at *
        refine Ar.u32 (by omega) (by omega) ?_
        rw [Int.one_mul]
        conv => whnf
        repeat (first | (refine RunH ?_; intro w hL hB; try clear w) | (refine Both.mk ?_ ?_ <;> conv => whnf) | fail)
        refine Bt.or32 (bits_ rows i) q rfl rfl (by omega) (by omega) ?_
        conv => whnf
        repeat (first | (refine RunH ?_; intro w hL hB; try clear w) | (refine Both.mk ?_ ?_ <;> conv => whnf) | fail)
        refine ⟨i + 1, ⟨rfl, rfl, rfl, ?_, ?_, ?_, rfl, rfl, rfl, trivial⟩, ⟨by omega, rfl⟩, (by first | omega | (dsimp only; omega))⟩
        · rw [hbs]; rfl
        · rw [hcs']; rfl
        · rw [h15]; rfl
  · obtain rfl : i = k + m := by omega
    repeat (first | (refine RunH ?_; intro w hL hB; try clear w) | (refine Both.mk ?_ ?_ <;> conv => whnf) | fail)
    refine Nw.sepM hL 94 hB fun mb w hL hB _ => ?_
    conv => whnf
    repeat (first | (refine RunH ?_; intro w hL hB; try clear w) | (refine Both.mk ?_ ?_ <;> conv => whnf) | fail)
    (refine Nw.sep hL hB (fun bw w hL hB hbw => ?_); conv => whnf)
    repeat (first | (refine RunH ?_; intro w hL hB; try clear w) | (refine Both.mk ?_ ?_ <;> conv => whnf) | fail)
    exact ⟨_, bw, mb, .slice ca (k + m) cc, rfl, hbl, hcode, hL⟩
end Go.Proofs.YtlldgodjfpgbcaaDoor
