/- Places as bytes: plain; the walks of strip.reader. Nothing is claimed here. -/
import Derived.Test.YtlldgodjfpgbcaaEa
namespace Go.Proofs.Ytlldgodjfpgbcaa
open Go.RowKit
set_option linter.unusedVariables false
set_option linter.unusedSimpArgs false
set_option maxRecDepth 100000

structure Plc where
  key : Nat
  at_ : Int
  n : Int
  cook : Nat
  dead : Bool
deriving DecidableEq
def plC (p : Plc) : List Value := [.int .u64 (p.key : Int), .int .i64 p.at_, .int .i64 p.n, .int .u32 (p.cook : Int), .bool p.dead]
theorem plC_len (p : Plc) : (plC p).length = 5 := rfl
def num1 (most : Nat) (l : List UInt8) : Option (Nat × List UInt8) := if (rdU l).2.2 = 0 ∧ (rdU l).1 ≤ most then some ((rdU l).1, l.drop (rdU l).2.1) else none
def tail5 (k a n : Nat) : List UInt8 → Option (Plc × List UInt8)
  | c0 :: c1 :: c2 :: c3 :: d :: r => if 1 < d.toNat then none else some (⟨k, a, n, ofB [c0, c1, c2, c3], decide (d.toNat = 1)⟩, r)
  | _ => none
def plc1 (l : List UInt8) : Option (Plc × List UInt8) := match num1 18446744073709551615 l with
  | none => none
  | some (k, r1) => match num1 4194304 r1 with
    | none => none
    | some (a, r2) => match num1 4194304 r2 with
      | none => none
      | some (n, r3) => tail5 k a n r3
def rises (acc : List Plc) (p : Plc) : Bool := match acc.getLast? with
  | none => true
  | some q => decide (q.key < p.key)
def plcs : Nat → List UInt8 → List Plc → Option (List Plc × List UInt8)
  | 0, l, acc => some (acc, l)
  | c + 1, l, acc => match plc1 l with
    | none => none
    | some (p, r) => if rises acc p then plcs c r (acc ++ [p]) else none
/-- what bytes say as an index: the error, the places -/
def idxS (b : List UInt8) : Nat × List Plc := if decE b ≠ 0 then (decE b, []) else if 8 + decN b ≠ b.length then (3, []) else match num1 65536 (decP b) with
  | none => (3, [])
  | some (c, r) => match plcs c r [] with
    | none => (3, [])
    | some (l, r') => if r' = [] then (0, l) else (3, [])
def numS (most : Nat) (l : List UInt8) (bad : Bool) : Nat × List UInt8 × Bool := if bad = false ∧ (rdU l).2.2 = 0 ∧ (rdU l).1 ≤ most then ((rdU l).1, l.drop (rdU l).2.1, false) else (0, l, true)
theorem num1_lt {most : Nat} {l r : List UInt8} {v : Nat} (h : num1 most l = some (v, r)) : v < 18446744073709551616 ∧ v ≤ most := by
  unfold num1 at h
  split at h
  · rename_i h1
    injection h with h; injection h with e1 e2
    subst e1
    exact ⟨(rdU_ok l).1, h1.2⟩
  · cases h
theorem numS_le (most : Nat) (l : List UInt8) (bad : Bool) : (numS most l bad).1 ≤ most := by
  unfold numS
  split
  · rename_i h; exact h.2.2
  · simp
theorem numS_some {most : Nat} {l r : List UInt8} {v : Nat} (h : num1 most l = some (v, r)) : numS most l false = (v, r, false) := by
  unfold num1 at h
  split at h
  · rename_i h1
    injection h with h; injection h with e1 e2
    subst e1; subst e2
    exact if_pos ⟨rfl, h1⟩
  · cases h
theorem numS_none {most : Nat} {l : List UInt8} (h : num1 most l = none) : numS most l false = (0, l, true) := by
  unfold num1 at h
  split at h
  · cases h
  · rename_i h1
    exact if_neg (fun h => h1 h.2)
theorem numS_bad (most : Nat) (l : List UInt8) : numS most l true = (0, l, true) := if_neg (by simp)

set_option maxHeartbeats 4000000 in
theorem number_fn (b : Nat) (rv : Value) (rest : List UInt8) (bad : Bool) (most : Nat) (w0 w : World) (L : List Res) (hs : Sl w0 rv (bv rest)) (hm : most < 18446744073709551616)
    (hL : Sep Try.prog w0.heap.size w0 w (.blk b [rv, .bool bad] 80 :: L)) (hB : w0.heap.size ≤ w.heap.size) :
    Fn Try.prog 46 #[.pointer (some ⟨b, 0, none⟩), .int .u64 (most : Int)] w fun r w' => r = .int .u64 ((numS most rest bad).1 : Int) ∧ ∃ rv', Sl w0 rv' (bv (numS most rest bad).2.1) ∧
      Sep Try.prog w0.heap.size w0 w' (.blk b [rv', .bool (numS most rest bad).2.2] 80 :: L) ∧ w0.heap.size ≤ w'.heap.size := by
  have hle := hs.le
  obtain ⟨a, c, rfl⟩ := hs.shape
  simp only [bv_length] at *
  refine Fn.mk Try.func46 rfl (by kernel_rfl) Try.ntmps46 rfl (by rw [Try.results46]) ?_
  repeat (first | (refine RunH ?_; intro w hL hB; try clear w) | (refine Both.mk ?_ ?_ <;> conv => whnf) | fail)
  refine (readUv_fn _ rest _ (hL.sl hs rfl)).mono fun r w1 ⟨hr, hw⟩ => ?_
  subst hr; subst hw
  obtain ⟨u1, u2, u3, u4⟩ := rdU_ok rest
  unfold numS
  generalize hx : rdU rest = x at *
  obtain ⟨x1, x2, x3⟩ := x
  dsimp only at *
  unfold ruV
  dsimp only
  conv => whnf
  repeat (first | (refine RunH ?_; intro w hL hB; try clear w) | (refine Both.mk ?_ ?_ <;> conv => whnf) | fail)
  by_cases hbad : bad = true
  · subst hbad
    rw [if_neg (by simp)]
    conv => whnf
    repeat (first | (refine RunH ?_; intro w hL hB; try clear w) | (refine Both.mk ?_ ?_ <;> conv => whnf) | fail)
    exact ⟨rfl, _, hs, hL, hB⟩
  obtain rfl : bad = false := by simpa using hbad
  by_cases hok : x3 = 0 ∧ x1 ≤ most
  · rw [if_pos ⟨rfl, hok⟩]
    have hx2 := u4 hok.1
    obtain ⟨bb, o, rfl, hr⟩ := hs.addr (by omega)
    obtain ⟨q1, q2, q3⟩ := hs.len
    conv => whnf
    repeat (first | (refine RunH ?_; intro w hL hB; try clear w) | (refine Both.mk ?_ ?_ <;> conv => whnf) | fail)
    intro o1 n1 c1 p1 p2 p3 p4
    conv => whnf
    repeat (first | (refine RunH ?_; intro w hL hB; try clear w) | (refine Both.mk ?_ ?_ <;> conv => whnf) | fail)
    refine ⟨rfl, _, ?_, hL, hB⟩
    rw [bv_drop]
    exact hs.drop (k := x2) (by rw [bv_length]; omega) (fun h => by have := p1 (by omega); omega) (by omega) (by omega)
  · rw [if_neg (fun h => hok h.2)]
    conv => whnf
    by_cases h3 : x3 = 0
    · repeat (first | (refine RunH ?_; intro w hL hB; try clear w) | (refine Both.mk ?_ ?_ <;> conv => whnf) | fail)
      exact ⟨rfl, _, hs, hL, hB⟩
    · repeat (first | (refine RunH ?_; intro w hL hB; try clear w) | (refine Both.mk ?_ ?_ <;> conv => whnf) | fail)
      exact ⟨rfl, _, hs, hL, hB⟩

/-- a place, or nothing more is good -/
def plcPost (l : List UInt8) (bad : Bool) (b : Nat) (w0 : World) (L : List Res) (r : Value) (w' : World) : Prop :=
  (bad = false → ∀ p l', plc1 l = some (p, l') → r = .agg (plC p).toArray ∧ ∃ rv', Sl w0 rv' (bv l') ∧ Sep Try.prog w0.heap.size w0 w' (.blk b [rv', .bool false] 80 :: L)) ∧
  (bad = true ∨ plc1 l = none → ∃ k a n, r = .agg #[.int .u64 k, .int .i64 a, .int .i64 n, .int .u32 0, .bool false] ∧ ∃ rv' l', Sl w0 rv' (bv l') ∧ Sep Try.prog w0.heap.size w0 w' (.blk b [rv', .bool true] 80 :: L)) ∧ w0.heap.size ≤ w'.heap.size
set_option maxHeartbeats 4000000 in
theorem place_fn (b : Nat) (rv : Value) (rest : List UInt8) (bad : Bool) (w0 w : World) (L : List Res) (hs : Sl w0 rv (bv rest))
    (hL : Sep Try.prog w0.heap.size w0 w (.blk b [rv, .bool bad] 80 :: L)) (hB : w0.heap.size ≤ w.heap.size) :
    Fn Try.prog 47 #[.pointer (some ⟨b, 0, none⟩)] w fun r w' => plcPost rest bad b w0 L r w' := by
  obtain ⟨a, c, rfl⟩ := hs.shape
  simp only [bv_length] at *
  refine Fn.mk Try.func47 rfl (by kernel_rfl) Try.ntmps47 rfl (by rw [Try.results47]) ?_
  repeat (first | (refine RunH ?_; intro w hL hB; try clear w) | (refine Both.mk ?_ ?_ <;> conv => whnf) | (refine Nw.sep hL hB (fun b2 w hL hB hb2 => ?_); conv => whnf) | fail)
  replace hL := hL.front (i := 1) rfl
  dsimp only [List.eraseIdx] at hL
  refine (number_fn b _ rest bad 18446744073709551615 w0 _ _ hs (by decide) hL hB).mono fun r w ⟨hr, rv1, hs1, hL, hB⟩ => ?_
  subst hr
  have g1 := numS_le 18446744073709551615 rest bad
  have e1 : bad = false → ∀ v r, num1 18446744073709551615 rest = some (v, r) → numS 18446744073709551615 rest bad = (v, r, false) := fun h v r => by subst h; exact numS_some
  have e1' : bad = false → num1 18446744073709551615 rest = none → (numS 18446744073709551615 rest bad).2.2 = true := fun h h' => by subst h; rw [numS_none h']
  have e1'' : bad = true → (numS 18446744073709551615 rest bad).2.2 = true := fun h => by subst h; rw [numS_bad]
  generalize numS 18446744073709551615 rest bad = x1 at *
  obtain ⟨v1, l1, d1⟩ := x1
  dsimp only at *
  conv => whnf
  refine (number_fn b _ l1 d1 4194304 w0 _ _ hs1 (by decide) hL hB).mono fun r w ⟨hr, rv2, hs2, hL, hB⟩ => ?_
  subst hr
  have g2 := numS_le 4194304 l1 d1
  have e2 : d1 = false → ∀ v r, num1 4194304 l1 = some (v, r) → numS 4194304 l1 d1 = (v, r, false) := fun h v r => by subst h; exact numS_some
  have e2' : d1 = false → num1 4194304 l1 = none → (numS 4194304 l1 d1).2.2 = true := fun h h' => by subst h; rw [numS_none h']
  have e2'' : d1 = true → (numS 4194304 l1 d1).2.2 = true := fun h => by subst h; rw [numS_bad]
  generalize numS 4194304 l1 d1 = x2 at *
  obtain ⟨v2, l2, d2⟩ := x2
  dsimp only at *
  conv => whnf
  repeat (first | (refine RunH ?_; intro w hL hB; try clear w) | (refine Both.mk ?_ ?_ <;> conv => whnf) | fail)
  refine (number_fn b _ l2 d2 4194304 w0 _ _ hs2 (by decide) hL hB).mono fun r w ⟨hr, rv3, hs3, hL, hB⟩ => ?_
  subst hr
  have g3 := numS_le 4194304 l2 d2
  have e3 : d2 = false → ∀ v r, num1 4194304 l2 = some (v, r) → numS 4194304 l2 d2 = (v, r, false) := fun h v r => by subst h; exact numS_some
  have e3' : d2 = false → num1 4194304 l2 = none → (numS 4194304 l2 d2).2.2 = true := fun h h' => by subst h; rw [numS_none h']
  have e3'' : d2 = true → (numS 4194304 l2 d2).2.2 = true := fun h => by subst h; rw [numS_bad]
  generalize numS 4194304 l2 d2 = x3 at *
  obtain ⟨v3, l3, d3⟩ := x3
  dsimp only at *
  conv => whnf
  repeat (first | (refine RunH ?_; intro w hL hB; try clear w) | (refine Both.mk ?_ ?_ <;> conv => whnf) | (refine Nw.sep hL hB (fun b3 w hL hB hb3 => ?_); conv => whnf) | fail)
  have all : d3 = false → bad = false ∧ plc1 rest = tail5 v1 v2 v3 l3 := fun hd => by
    have f2 : d2 = false := by cases d2 <;> simp_all
    have f1 : d1 = false := by cases d1 <;> simp_all
    have f0 : bad = false := by cases bad <;> simp_all
    refine ⟨f0, ?_⟩
    unfold plc1
    cases h1 : num1 18446744073709551615 rest with
    | none => have := e1' f0 h1; simp_all
    | some y1 =>
      have := e1 f0 _ _ h1
      cases h2 : num1 4194304 l1 with
      | none => have := e2' f1 h2; simp_all
      | some y2 =>
        have := e2 f1 _ _ h2
        cases h3 : num1 4194304 l2 with
        | none => have := e3' f2 h3; simp_all
        | some y3 =>
          have := e3 f2 _ _ h3
          simp_all
  have bads : d3 = true → bad = false → plc1 rest = none := fun hd f0 => by
    unfold plc1
    cases h1 : num1 18446744073709551615 rest with
    | none => rfl
    | some y1 =>
      have q1 := e1 f0 _ _ h1
      injection q1 with _ q1; injection q1 with ql1 f1
      dsimp only
      rw [← ql1]
      cases h2 : num1 4194304 l1 with
      | none => rfl
      | some y2 =>
        have q2 := e2 f1 _ _ h2
        injection q2 with _ q2; injection q2 with ql2 f2
        dsimp only
        rw [← ql2]
        cases h3 : num1 4194304 l2 with
        | none => rfl
        | some y3 =>
          have q3 := e3 f2 _ _ h3
          injection q3 with _ q3; injection q3 with ql3 f3
          rw [f3] at hd; cases hd
  obtain ⟨a3, c3, rfl⟩ := hs3.shape
  simp only [bv_length] at *
  conv => whnf
  repeat (first | (refine RunH ?_; intro w hL hB; try clear w) | (refine Both.mk ?_ ?_ <;> conv => whnf) | fail)
  have hsw : ∀ {w : World}, Below w0.heap.size w0 w → Sl w (.slice a3 l3.length c3) (bv l3) := fun h => hs3.below h
  cases d3 with
  | true =>
    repeat (first | (refine RunH ?_; intro w hL hB; try clear w) | (refine Both.mk ?_ ?_ <;> conv => whnf) | fail)
    exact ⟨fun h p l' h' => (by rw [bads rfl h] at h'; cases h'), fun _ => ⟨_, _, _, rfl, _, _, hs3, (hL.pop 2).tl⟩, hB⟩
  | false =>
    obtain ⟨hbad, hplc⟩ := all rfl
    by_cases h5 : l3.length < 5
    · have hn : tail5 v1 v2 v3 l3 = none := by
        match l3, h5 with
        | [], _ => rfl
        | [_], _ => rfl
        | [_, _], _ => rfl
        | [_, _, _], _ => rfl
        | [_, _, _, _], _ => rfl
      rw [hn] at hplc
      repeat (first | (refine RunH ?_; intro w hL hB; try clear w) | (refine Both.mk ?_ ?_ <;> conv => whnf) | fail)
      exact ⟨fun h p l' h' => (by rw [hplc] at h'; cases h'), fun _ => ⟨_, _, _, rfl, _, _, hs3, (hL.pop 2).tl⟩, hB⟩
    · obtain ⟨b0, b1, b2', b3', d, r, rfl⟩ : ∃ b0 b1 b2 b3 d r, l3 = b0 :: b1 :: b2 :: b3 :: d :: r := by
        match l3, h5 with
        | b0 :: b1 :: b2 :: b3 :: d :: r, _ => exact ⟨_, _, _, _, _, _, rfl⟩
        | [], h => simp at h
        | [_], h => simp at h
        | [_, _], h => simp at h
        | [_, _, _], h => simp at h
        | [_, _, _, _], h => simp at h
      obtain ⟨bb, o, rfl, hrow⟩ := hs3.addr (by simp)
      obtain ⟨q1, q2, q3⟩ := hs3.len
      have hrw : ∀ {w : World}, Below w0.heap.size w0 w → Row w bb o (bv (b0 :: b1 :: b2' :: b3' :: d :: r)) := fun h => (hsw h).rowOf'
      repeat (first | (refine RunH ?_; intro w hL hB; try clear w) | (refine Both.mk ?_ ?_ <;> conv => whnf) | fail)
      intro o1 ho1
      conv => whnf
      repeat (first | (refine RunH ?_; intro w hL hB; try clear w) | (refine Both.mk ?_ ?_ <;> conv => whnf) | fail)
      refine Ld.row1 ttOk (hrw hL.below) rfl rfl (k := 4) (v := u8 d) rfl (by omega) ?_
      conv => whnf
      by_cases hd : 1 < d.toNat
      · have hn : tail5 v1 v2 v3 (b0 :: b1 :: b2' :: b3' :: d :: r) = none := if_pos hd
        rw [hn] at hplc
        repeat (first | (refine RunH ?_; intro w hL hB; try clear w) | (refine Both.mk ?_ ?_ <;> conv => whnf) | fail)
        exact ⟨fun h p l' h' => (by rw [hplc] at h'; cases h'), fun _ => ⟨_, _, _, rfl, _, _, hs3, (hL.pop 2).tl⟩, hB⟩
      · have hn : tail5 v1 v2 v3 (b0 :: b1 :: b2' :: b3' :: d :: r) = some (⟨v1, v2, v3, ofB [b0, b1, b2', b3'], decide (d.toNat = 1)⟩, r) := if_neg hd
        rw [hn] at hplc
        repeat (first | (refine RunH ?_; intro w hL hB; try clear w) | (refine Both.mk ?_ ?_ <;> conv => whnf) | fail)
        refine (get32_fn _ _ _ (hsw hL.below)).mono fun r1 w1 ⟨hw, hr⟩ => ?_
        subst hw
        rw [if_neg (by simp)] at hr
        subst hr
        conv => whnf
        repeat (first | (refine RunH ?_; intro w hL hB; try clear w) | (refine Both.mk ?_ ?_ <;> conv => whnf) | fail)
        intro o2 ho2
        conv => whnf
        repeat (first | (refine RunH ?_; intro w hL hB; try clear w) | (refine Both.mk ?_ ?_ <;> conv => whnf) | fail)
        refine Ld.row1 ttOk (hrw hL.below) rfl rfl (k := 4) (v := u8 d) rfl (by omega) ?_
        conv => whnf
        repeat (first | (refine RunH ?_; intro w hL hB; try clear w) | (refine Both.mk ?_ ?_ <;> conv => whnf) | fail)
        intro o3 n3 c3' p1 p2 p3 p4
        conv => whnf
        repeat (first | (refine RunH ?_; intro w hL hB; try clear w) | (refine Both.mk ?_ ?_ <;> conv => whnf) | fail)
        refine ⟨fun _ p l' h' => ?_, fun h => (by rcases h with h | h; · rw [hbad] at h; cases h
                                                  · rw [hplc] at h; cases h), hB⟩
        rw [hplc] at h'
        injection h' with h'; injection h' with e1 e2
        subst e1; subst e2
        refine ⟨?_, _, ?_, (hL.pop 2).tl⟩
        · have : decide ((d.toNat : Int) = 1) = decide (d.toNat = 1) := decide_eq_decide.2 (by omega)
          rw [this]; rfl
        · exact hs3.drop (k := 5) (by simp) (fun h => by have := p1 (by omega); omega) (by omega) (by omega)
end Go.Proofs.Ytlldgodjfpgbcaa
