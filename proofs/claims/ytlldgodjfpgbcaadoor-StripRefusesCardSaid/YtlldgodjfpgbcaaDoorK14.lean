/- shard.work: inverse. shard: mend, Mend. Nothing is claimed here. -/
import Derived.Test.YtlldgodjfpgbcaaDoorK13
namespace Go.Proofs.YtlldgodjfpgbcaaDoor
open Go.RowKit
open Go.Maps (Keyed)
set_option linter.unusedVariables false
set_option linter.unusedSimpArgs false
set_option maxRecDepth 100000

def natC (l : List Nat) : List Value := l.map fun i : Nat => .int .i64 (i : Int)
theorem natC_len (l : List Nat) : (natC l).length = l.length := by simp [natC]
theorem natC_snoc (l : List Nat) (i : Nat) : natC (l ++ [i]) = natC l ++ [.int .i64 (i : Int)] := by simp [natC]
theorem natC_get {l : List Nat} {k i : Nat} (h : l[k]? = some i) : (natC l)[k]? = some (.int .i64 (i : Int)) := by simp [natC, h]
/-- the first k of the rows that there are, up to i -/
def selP (k : Nat) (rows : List (List UInt8)) (i : Nat) : List Nat := ((List.range i).filter fun j => decide (rw_ rows j ≠ [])).take k
theorem selP_len (k : Nat) (rows : List (List UInt8)) (i : Nat) : (selP k rows i).length = min k (cnt_ rows i) := by
  unfold selP cnt_
  rw [List.length_take]
theorem selP_succ (k : Nat) (rows : List (List UInt8)) (i : Nat) : selP k rows (i + 1) = if rw_ rows i ≠ [] ∧ (selP k rows i).length < k then selP k rows i ++ [i] else selP k rows i := by
  unfold selP
  rw [List.range_succ, List.filter_append, List.length_take]
  generalize (List.range i).filter (fun j => decide (rw_ rows j ≠ [])) = F
  by_cases h : rw_ rows i = []
  · simp [h]
  · have e : [i].filter (fun j => decide (rw_ rows j ≠ [])) = [i] := by simp [h]
    rw [e]
    by_cases h2 : F.length < k
    · rw [if_pos ⟨h, by omega⟩, List.take_of_length_le (by simp; omega), List.take_of_length_le (by omega)]
    · rw [if_neg (by omega), List.take_append_of_le_length (by omega)]
theorem selP_all {k : Nat} {rows : List (List UInt8)} {n : Nat} (h : rows.length = n) : selP k rows n = selS k rows := by unfold selP selS; rw [h]
theorem codeSel_snoc (k m : Nat) (l : List Nat) (i : Nat) : codeSel k m (l ++ [i]) = codeSel k m l ++ [rw_ (codeM k m) i] := by simp [codeSel]
theorem selP_zero (k : Nat) (rows : List (List UInt8)) : selP k rows 0 = [] := by simp [selP]
theorem codeM_row {k m : Nat} : ∀ l ∈ codeM k m, l.length = k := by
  intro l hl
  rcases List.mem_append.1 hl with h | h
  · obtain ⟨i, _, rfl⟩ := List.mem_map.1 h
    exact oneRow_len ..
  · obtain ⟨i, _, rfl⟩ := List.mem_map.1 h
    exact codeRow_len ..
theorem codeSel_row {k m : Nat} {rows : List (List UInt8)} (hr : rows.length = k + m) : ∀ l ∈ codeSel k m (selS k rows), l.length = k := by
  intro l hl
  obtain ⟨i, hi, rfl⟩ := List.mem_map.1 hl
  exact codeM_row _ (rw_mem (by rw [codeM_len, ← hr]; exact (selS_mem hi).1))
/-- the values that a call of mend works on -/
def workC (k m : Nat) (cv : Value) (mb : Nat) : List Value := [.int .i64 (k : Int), .int .i64 (m : Int), cv, .map (some mb)]

set_option maxHeartbeats 8000000 in
theorem inverse_fn (b mb k m : Nat) (cv : Value) (rows : List (List UInt8)) (h1 : 1 ≤ k) (h2 : k + m ≤ 14) (hr : rows.length = k + m) (hs : (selS k rows).length = k) (w0 w : World) (hT : TabAt 0 Go.Lib.deBruijn64tab w0) (hcode : SS w0 cv (codeM k m))
    (hL : Sep Tryd.prog w0.heap.size w0 w [.blk b (workC k m cv mb) 82, .mp 94 mb []]) (hB : w0.heap.size ≤ w.heap.size) :
    Fn Tryd.prog 44 #[.pointer (some ⟨b, 0, none⟩), .int .u32 (bits_ rows (k + m) : Nat)] w fun r w' => ∃ u tv bs C Rs, InvR k (codeSel k m (selS k rows)) C ∧ InsR bs C Rs ∧ r = .tuple #[u, tv] ∧ w0.heap.size ≤ w'.heap.size ∧ Sep Tryd.prog w0.heap.size w0 w' (.row 22 1 u k bs :: .blk b (workC k m cv mb) 82 :: .row 3 1 tv k (natC (selS k rows)) :: Rs) := by
  obtain ⟨cs, hcs, hci⟩ := hcode.of
  have hcl := hci.len
  rw [codeM_len] at hcl
  obtain ⟨a, cp, rfl⟩ := hcs.shape
  rw [hcl] at hcs hL hcode ⊢
  obtain ⟨cb, co, rfl, hcr⟩ := hcs.addr (by omega)
  have hrow : ∀ {x : World} {L' : List Res}, Sep Tryd.prog w0.heap.size w0 x L' → Row x cb co cs := fun h => (hcs.below h.below).toN.rowOf
  have hI := codeSel_inj h2 hr hs
  have hbl := bits_lt rows (k + m)
  have hbb := bits_bit rows (k + m)
  have h214 : 2 ^ (k + m) ≤ 2 ^ 14 := Nat.pow_le_pow_right (by decide : 0 < 2) h2
  unfold workC at *
  generalize bits_ rows (k + m) = x at *
  refine Fn.mk Tryd.func44 rfl (by kernel_rfl) Tryd.ntmps44 rfl (by rw [Tryd.results44]) ?_
  repeat (first | (refine RunH ?_; intro w hL hB; try clear w) | (refine Both.mk ?_ ?_ <;> conv => whnf) | fail)
  (refine Nw.sep hL hB (fun b6 w hL hB hb6 => ?_); conv => whnf)
  repeat (first | (refine RunH ?_; intro w hL hB; try clear w) | (refine Both.mk ?_ ?_ <;> conv => whnf) | fail)
  replace hL : Sep Tryd.prog w0.heap.size w0 _ (.blk b6 (boolC (List.replicate 14 false)) 94 :: _) := hL
  refine V.loop (α := Nat × Value × Value × List Bool × List Value) (fun z => [(0, .pointer (some ⟨b, 0, none⟩)), (1, .int .u32 (x : Int)), (6, .pointer (some ⟨b6, 0, none⟩)), (7, z.2.1), (8, z.2.2.1), (16, .slice (some ⟨cb, co, none⟩) (k + m) cp), (17, .int .i64 ((k + m : Nat) : Int)), (18, .int .i64 (z.1 : Int))])
    (fun z w' => z.1 ≤ k + m ∧ z.2.2.2.1.length = 14 ∧ Ins w0 z.2.2.2.2 (codeSel k m (selP k rows z.1)) ∧ w0.heap.size ≤ w'.heap.size ∧ Sep Tryd.prog w0.heap.size w0 w' [.row 3 1 z.2.1 (selP k rows z.1).length (natC (selP k rows z.1)), .row 22 1 z.2.2.1 (selP k rows z.1).length z.2.2.2.2, .blk b6 (boolC z.2.2.2.1) 94, .blk b [.int .i64 (k : Int), .int .i64 (m : Int), .slice (some ⟨cb, co, none⟩) (k + m) cp, .map (some mb)] 82, .mp 94 mb []]) (fun z => k + m - z.1) (0, .slice none 0 0, .slice none 0 0, List.replicate 14 false, []) ⟨rfl, rfl, rfl, rfl, rfl, rfl, rfl, rfl, trivial⟩ ⟨Nat.zero_le _, by simp, by dsimp only; rw [selP_zero]; exact Ins.nil _, hB, by dsimp only; rw [selP_zero]; exact (hL.nilRow 22 1).nilRow 3 1⟩ ?_
  repeat clear hL
  repeat clear hB
  rintro ⟨i, tv, pv, bs, ps⟩ w ⟨hi, hbs, hps, hB, hL⟩
  dsimp only at hi hbs hps hL
  have hsl := selP_len k rows i
  have hpl := hps.len
  rw [show (codeSel k m (selP k rows i)).length = (selP k rows i).length by simp [codeSel]] at hpl
  obtain ⟨ta, tc, rfl⟩ := (hL.rowN (i := 0) rfl).shape
  obtain ⟨pa, pc, rfl⟩ := (hL.rowN (i := 1) rfl).shape
  repeat (first | (refine RunH ?_; intro w hL hB; try clear w) | (refine Both.mk ?_ ?_ <;> conv => whnf) | fail)
  refine Br.dec (fun hlt => ?_) (fun hlt => ?_)
  · have hin : i < k + m := by omega
    have hsuc := selP_succ k rows i
    obtain ⟨ui, hui, hsi⟩ := hci.get (rw_some (show i < (codeM k m).length by rw [codeM_len]; omega))
    have hxb := hbb i
    rw [decide_eq_true hin, Bool.true_and] at hxb
    repeat (first | (refine RunH ?_; intro w hL hB; try clear w) | (refine Both.mk ?_ ?_ <;> conv => whnf) | fail)
    intro o3 ho3
    conv => whnf
    repeat (first | (refine RunH ?_; intro w hL hB; try clear w) | (refine Both.mk ?_ ?_ <;> conv => whnf) | fail)
    refine Ld.row1 ttOk (hrow hL) rfl rfl (k := i) hui (by omega) ?_
    conv => whnf
    repeat (first | (refine RunH ?_; intro w hL hB; try clear w) | (refine Both.mk ?_ ?_ <;> conv => whnf) | fail)
    refine (has_fn x i (by omega) (by omega) _).mono fun r w' ⟨hr', hw'⟩ => ?_
    subst hr'
    replace hw' := hw'.symm
    subst hw'
    rw [hxb]
    by_cases he : rw_ rows i = []
    · rw [if_neg (fun h => h.1 he)] at hsuc
      rw [decide_eq_false (fun h => h he)]
      conv => whnf
      repeat (first | (refine RunH ?_; intro w hL hB; try clear w) | (refine Both.mk ?_ ?_ <;> conv => whnf) | fail)
      refine ⟨(i + 1, _, _, bs, ps), ⟨rfl, rfl, rfl, rfl, rfl, rfl, rfl, rfl, trivial⟩, ⟨by dsimp only; omega, hbs, by rw [hsuc]; exact hps, hB, by rw [hsuc]; exact hL⟩, (by first | omega | (dsimp only; omega))⟩
    rw [decide_eq_true (show rw_ rows i ≠ [] from he)]
    by_cases hlk : (selP k rows i).length < k
    · rw [if_pos ⟨he, hlk⟩] at hsuc
      conv => whnf
      repeat (first | (refine RunH ?_; intro w hL hB; try clear w) | (refine Both.mk ?_ ?_ <;> conv => whnf) | fail)
      intro o4 ho4
      obtain rfl : o4 = i := by dsimp only at ho4; omega
      conv => whnf
      refine St.sep ttOk hL 2 rfl rfl rfl rfl (by rw [Nat.ble_eq, llen_eq, boolC_len, hbs]; show o4 + 1 ≤ 14; omega) hB (fun w hL hB => ?_)
      dsimp only [List.set, cellsL] at hL
      rw [show splice (boolC bs) o4 [.bool true] = boolC (bs.set o4 true) by rw [splice_one (by rw [boolC_len]; omega)]; simp [boolC, List.map_set]] at hL
      conv => whnf
      repeat (first | (refine RunH ?_; intro w hL hB; try clear w) | (refine Both.mk ?_ ?_ <;> conv => whnf) | fail)
      refine Rv.buildS ttOk hL tl23 tl3 rfl rfl (by intro u hu; simp only [List.mem_singleton] at hu; subst hu; rfl) (by decide) (by decide) hB fun bo w hL hB => ?_
      conv => whnf
      refine Rv.appendS ttOk hL tl23 tl3 rfl (by decide) 1 rfl (hL.rowN (i := 0) rfl) (allOne_mem rfl) (by simp only [maxLen]; omega) (by omega) hB fun vo w hL hB => ?_
      dsimp only [List.set] at hL
      replace hL := hL.tl
      conv => whnf
      repeat (first | (refine RunH ?_; intro w hL hB; try clear w) | (refine Both.mk ?_ ?_ <;> conv => whnf) | fail)
      obtain ⟨ua, uc, rfl⟩ := hsi.shape
      refine Rv.buildS ttOk hL tl29 tl22 rfl rfl (by intro u hu; simp only [List.mem_singleton] at hu; subst hu; rfl) (by decide) (by decide) hB fun bo2 w hL hB => ?_
      conv => whnf
      refine Rv.appendS ttOk hL tl29 tl22 rfl (by decide) 2 rfl (hL.rowN (i := 0) rfl) (allOne_mem rfl) (by simp only [maxLen]; omega) (by omega) hB fun vp w hL hB => ?_
      dsimp only [List.set] at hL
      replace hL := hL.tl
      conv => whnf
      repeat (first | (refine RunH ?_; intro w hL hB; try clear w) | (refine Both.mk ?_ ?_ <;> conv => whnf) | fail)
      have e1 : (selP k rows o4 ++ [o4]).length = (selP k rows o4).length + 1 := by simp
      refine ⟨(o4 + 1, vo, vp, bs.set o4 true, ps ++ [.slice ua (bv (rw_ (codeM k m) o4)).length uc]), ⟨rfl, rfl, rfl, rfl, rfl, rfl, rfl, rfl, trivial⟩, ⟨by dsimp only; omega, by dsimp only; rw [List.length_set, hbs], ?_, hB, ?_⟩, (by first | omega | (dsimp only; omega))⟩
      · dsimp only
        rw [hsuc, codeSel_snoc]
        exact hps.snoc hsi
      · dsimp only
        rw [hsuc, natC_snoc, e1]
        exact hL
    · rw [if_neg (fun h => hlk h.2)] at hsuc
      conv => whnf
      repeat (first | (refine RunH ?_; intro w hL hB; try clear w) | (refine Both.mk ?_ ?_ <;> conv => whnf) | fail)
      refine ⟨(i + 1, _, _, bs, ps), ⟨rfl, rfl, rfl, rfl, rfl, rfl, rfl, rfl, trivial⟩, ⟨by dsimp only; omega, hbs, by rw [hsuc]; exact hps, hB, by rw [hsuc]; exact hL⟩, (by first | omega | (dsimp only; omega))⟩
  · obtain rfl : i = k + m := by omega
    rw [show (selP k rows (k + m)).length = k by rw [selP_all hr, hs]]
    rw [selP_all hr] at hL hsl hpl hps
    rw [hs] at hL hpl
    repeat (first | (refine RunH ?_; intro w hL hB; try clear w) | (refine Both.mk ?_ ?_ <;> conv => whnf) | fail)
    refine V.treeA ttOk hL (.q 0 (.q 1 (.q 2 (.q 3 (.q 4 (.q 5 (.q 6 (.q 7 (.q 8 (.q 9 (.q 10 .nil))))))))))) mixed (by decide +kernel) ?_
    replace hL := hL.drew
    conv => whnf
    repeat (first | (refine RunH ?_; intro w hL hB; try clear w) | (refine Both.mk ?_ ?_ <;> conv => whnf) | fail)
    refine Lq.of_class (fun x hx => Ld.blkW ttOk hx 2 rfl rfl rfl (by rw [boolC_len]; exact hbs) rfl) ?_
    conv => whnf
    repeat (first | (refine RunH ?_; intro w hL hB; try clear w) | (refine Both.mk ?_ ?_ <;> conv => whnf) | fail)
    refine Rq.mk (.tuple #[.slice none 0 0, .bool false]) (fun x hx => ?_) ?_
    · obtain ⟨v, w', h, rfl, rfl⟩ := (Rv.seekOkS (K := fun v w' => v = .tuple #[.slice none 0 0, .bool false] ∧ w' = x) ttOk hx b14Keyed 4 tl80 tl29 rfl (b14Good bs hbs) fun u ok hg => by
        cases hg with
        | yes u h => cases h
        | no h => exact ⟨rfl, rfl⟩).o
      exact h
    conv => whnf
    repeat (first | (refine RunH ?_; intro w hL hB; try clear w) | (refine Both.mk ?_ ?_ <;> conv => whnf) | fail)
    refine (invert_fn _ _ k h1 (by omega) (by simp [codeSel, hs]) (codeSel_row hr) hI _ ⟨ps, hL.row (i := 1) rfl, hps.below hL.below⟩ (tabAt_below hT hL.below)).mono fun r w ⟨u, bs2, C, Rs, hinv, hins, hru, hS⟩ => ?_
    subst hru
    replace hL := (hL.adds hB hS).perm ((List.perm_append_comm).cons _)
    replace hB := Nat.le_trans hB hS.below.size
    clear hS
    dsimp only [List.cons_append, List.nil_append] at hL
    obtain ⟨ua, uc, rfl⟩ := (hL.rowN (i := 0) rfl).shape
    conv => whnf
    repeat (first | (refine RunH ?_; intro w hL hB; try clear w) | (refine Both.mk ?_ ?_ <;> conv => whnf) | fail)
    refine Lq.of_row (Ld.blkW ttOk hL 3 rfl rfl rfl (by rw [boolC_len]; exact hbs) rfl) ?_
    conv => whnf
    repeat (first | (refine RunH ?_; intro w hL hB; try clear w) | (refine Both.mk ?_ ?_ <;> conv => whnf) | fail)
    refine Ru.putS ttOk hL b14Keyed 5 tl80 rfl (b14Good bs hbs) hB fun w l' _ hL hB => ?_
    dsimp only [List.set] at hL
    conv => whnf
    repeat (first | (refine RunH ?_; intro w hL hB; try clear w) | (refine Both.mk ?_ ?_ <;> conv => whnf) | fail)
    exact ⟨_, _, bs2, C, Rs, hinv, hins, rfl, hB, (((hL.pop 5).pop 3).pop 2).perm ((List.Perm.swap _ _ _).cons _)⟩
end Go.Proofs.YtlldgodjfpgbcaaDoor
namespace Go.Proofs.YtlldgodjfpgbcaaDoor
open Go.RowKit
open Go.Maps (Keyed)
set_option linter.unusedVariables false
set_option linter.unusedSimpArgs false
set_option maxRecDepth 100000

theorem haveS_snoc (rows : List (List UInt8)) (l : List Nat) (i : Nat) : haveS rows (l ++ [i]) = haveS rows l ++ [rw_ rows i] := by simp [haveS]
theorem sl_ss {w : World} {v : Value} {us : List Value} {ls : List (List UInt8)} (h1 : Sl w v us) (h2 : Ins w us ls) : SS w v ls := ⟨us, h1, h2⟩

set_option maxHeartbeats 8000000 in
theorem mend_fn (b mb k m N : Nat) (cv v : Value) (rows : List (List UInt8)) (h1 : 1 ≤ k) (h2 : k + m ≤ 14) (hr : rows.length = k + m) (hs : (selS k rows).length = k) (hN : ∀ l ∈ rows, l ≠ [] → l.length = N) (hN0 : N ≤ 1000000) (w0 w : World) (hT : TabAt 0 Go.Lib.deBruijn64tab w0) (hcode : SS w0 cv (codeM k m)) (hv : SS w0 v rows)
    (hL : Sep Tryd.prog w0.heap.size w0 w [.blk b (workC k m cv mb) 82, .mp 94 mb []]) (hB : w0.heap.size ≤ w.heap.size) :
    Fn Tryd.prog 33 #[.pointer (some ⟨b, 0, none⟩), v, .int .u32 (bits_ rows (k + m) : Nat)] w fun r w' => ∃ out, MendR k m N rows out ∧ Mat w' w0.heap.size r out ∧ Below w0.heap.size w0 w' := by
  obtain ⟨cs, hcs, hci⟩ := hv.of
  have hcl := hci.len
  obtain ⟨a, cp, rfl⟩ := hcs.shape
  rw [hcl, hr] at hcs hv ⊢
  obtain ⟨vb, vo, rfl, hcr⟩ := hcs.addr (by omega)
  have hrow : ∀ {x : World} {L' : List Res}, Sep Tryd.prog w0.heap.size w0 x L' → Row x vb vo cs := fun h => (hcs.below h.below).toN.rowOf
  have hDl : ∀ l ∈ haveS rows (selS k rows), l.length = N := fun l hl => by
    obtain ⟨i, hi, rfl⟩ := List.mem_map.1 hl
    exact hN _ (rw_mem (selS_mem hi).1) (selS_mem hi).2
  have hlt := fun i hi => (selS_mem (k := k) (rows := rows) (i := i) hi).1
  refine Fn.mk Tryd.func33 rfl (by kernel_rfl) Tryd.ntmps33 rfl (by rw [Tryd.results33]) ?_
  repeat (first | (refine RunH ?_; intro w hL hB; try clear w) | (refine Both.mk ?_ ?_ <;> conv => whnf) | fail)
  refine (inverse_fn b mb k m cv rows h1 h2 hr hs w0 w hT hcode hL hB).mono fun r w2 ⟨u, tv, bs, C, Rs, hinv, hins, hru, hB2, hL2⟩ => ?_
  subst hru
  clear hL hB
  obtain ⟨ua, uc, rfl⟩ := (hL2.rowN (i := 0) rfl).shape
  obtain ⟨ta, tc, rfl⟩ := (hL2.rowN (i := 2) rfl).shape
  obtain ⟨⟨tb, rfl⟩, _⟩ := own_addr (hL2.at (i := 2) rfl) (by omega)
  have hmr : ∀ out, out = blends N (codeM k m) (blends N C (haveS rows (selS k rows))) → MendR k m N rows out := fun out h => ⟨C, hinv, h⟩
  have hD0 : (haveS rows (selS k rows)).length = k := by simp [haveS, hs]
  generalize selS k rows = sel at *
  conv => whnf
  repeat (first | (refine RunH ?_; intro w hL hB; try clear w) | (refine Both.mk ?_ ?_ <;> conv => whnf) | fail)
  refine V.loop (α := Nat × Value × List Value) (fun z => [(0, .pointer (some ⟨b, 0, none⟩)), (1, .slice (some ⟨vb, vo, none⟩) (k + m) cp), (7, .slice ua k uc), (9, z.2.1), (18, .slice (some ⟨tb, 0, none⟩) k tc), (19, .int .i64 (k : Int)), (20, .int .i64 (z.1 : Int))])
    (fun z w' => z.1 ≤ k ∧ Ins w0 z.2.2 (haveS rows (sel.take z.1)) ∧ w0.heap.size ≤ w'.heap.size ∧ Sep Tryd.prog w0.heap.size w0 w' (.row 22 1 z.2.1 z.1 z.2.2 :: .row 22 1 (.slice ua k uc) k bs :: .blk b (workC k m cv mb) 82 :: .row 3 1 (.slice (some ⟨tb, 0, none⟩) k tc) k (natC sel) :: Rs)) (fun z => k - z.1) (0, .slice none 0 0, []) ⟨rfl, rfl, rfl, rfl, rfl, rfl, rfl, trivial⟩ ⟨Nat.zero_le _, Ins.nil _, hB2, hL2.nilRow 22 1⟩ ?_
  clear hL2 hB2
  rintro ⟨j, hv9, hs9⟩ w ⟨hj, hps, hB, hL⟩
  dsimp only at hj hps hL
  have hpl := hps.len
  rw [show (haveS rows (sel.take j)).length = j by simp [haveS]; omega] at hpl
  obtain ⟨ha, hc, rfl⟩ := (hL.rowN (i := 0) rfl).shape
  repeat (first | (refine RunH ?_; intro w hL hB; try clear w) | (refine Both.mk ?_ ?_ <;> conv => whnf) | fail)
  refine Br.dec (fun hlt' => ?_) (fun hlt' => ?_)
  · have hjk : j < k := by omega
    have hg : sel[j]? = some sel[j] := List.getElem?_eq_getElem (by omega)
    have hil := hlt sel[j] (List.getElem_mem _)
    have hts : sel.take (j + 1) = sel.take j ++ [sel[j]] := List.take_succ_eq_append_getElem (by omega)
    generalize sel[j] = i at *
    obtain ⟨ui, hui, hsi⟩ := hci.get (rw_some (show i < rows.length by omega))
    repeat (first | (refine RunH ?_; intro w hL hB; try clear w) | (refine Both.mk ?_ ?_ <;> conv => whnf) | fail)
    intro o3 ho3
    conv => whnf
    repeat (first | (refine RunH ?_; intro w hL hB; try clear w) | (refine Both.mk ?_ ?_ <;> conv => whnf) | fail)
    refine Ld.row1 ttOk (hL.rowN (i := 3) rfl).rowOf rfl rfl (k := j) (natC_get hg) (by omega) ?_
    conv => whnf
    repeat (first | (refine RunH ?_; intro w hL hB; try clear w) | (refine Both.mk ?_ ?_ <;> conv => whnf) | fail)
    intro o4 ho4
    conv => whnf
    repeat (first | (refine RunH ?_; intro w hL hB; try clear w) | (refine Both.mk ?_ ?_ <;> conv => whnf) | fail)
    refine Ld.row1 ttOk (hrow hL) rfl rfl (k := i) hui (by omega) ?_
    conv => whnf
    repeat (first | (refine RunH ?_; intro w hL hB; try clear w) | (refine Both.mk ?_ ?_ <;> conv => whnf) | fail)
    obtain ⟨xa, xc, rfl⟩ := hsi.shape
    refine Rv.buildS ttOk hL tl29 tl22 rfl rfl (by intro u hu; simp only [List.mem_singleton] at hu; subst hu; rfl) (by decide) (by decide) hB fun bo2 w hL hB => ?_
    conv => whnf
    refine Rv.appendS ttOk hL tl29 tl22 rfl (by decide) 1 rfl (hL.rowN (i := 0) rfl) (allOne_mem rfl) (by simp only [maxLen]; omega) (by omega) hB fun vp w hL hB => ?_
    dsimp only [List.set] at hL
    replace hL := hL.tl
    conv => whnf
    repeat (first | (refine RunH ?_; intro w hL hB; try clear w) | (refine Both.mk ?_ ?_ <;> conv => whnf) | fail)
    refine ⟨(j + 1, vp, hs9 ++ [.slice xa (bv (rw_ rows i)).length xc]), ⟨rfl, rfl, rfl, rfl, rfl, rfl, rfl, trivial⟩, ⟨by dsimp only; omega, ?_, hB, hL⟩, (by first | omega | (dsimp only; omega))⟩
    dsimp only
    rw [hts, haveS_snoc]
    exact hps.snoc hsi
  · obtain rfl : k = j := by omega
    rw [List.take_of_length_le (by omega)] at hps
    obtain ⟨cva, cvc, rfl⟩ : ∃ a c, cv = .slice a (k + m) c := by
      obtain ⟨us, q1, q2⟩ := hcode.of
      obtain ⟨a, c, rfl⟩ := q1.shape
      exact ⟨a, c, by rw [q2.len, codeM_len]⟩
    unfold workC at hL
    repeat (first | (refine RunH ?_; intro w hL hB; try clear w) | (refine Both.mk ?_ ?_ <;> conv => whnf) | fail)
    have hCl : C.length = k := hinv.len
    have hd1 := rw_some (A := haveS rows sel) (i := 0) (by omega)
    have hd2 := rw_some (A := blends N C (haveS rows sel)) (i := 0) (by rw [blends_len]; omega)
    have hDl2 := blends_row (N := N) (C := C) (D := haveS rows sel) hDl
    refine V.treeA ttOk hL (.q 0 (.q 1 (.q 2 (.q 3 (.q 4 (.q 5 (.alt 6 (.alt 7 (.q 8 .nil) .stop) .stop))))))) mixed (by decide +kernel) ?_
    replace hL := hL.drew
    conv => whnf
    repeat (first | (refine RunH ?_; intro w hL hB; try clear w) | (refine Both.mk ?_ ?_ <;> conv => whnf) | fail)
    refine (times_fn _ _ C (haveS rows sel) N _ hd1 (hDl _ (List.mem_of_getElem? hd1)) hDl (fun l hl => by rw [hinv.row l hl]; omega) (by omega) (by omega) _ (sl_ss (hL.row (i := 1) rfl) ((hins.mono fun R h => mem2 (mem2 h)).ins hL)) (sl_ss (hL.row (i := 0) rfl) (hps.below hL.below))).mono fun r w hr9 => ?_
    obtain ⟨hmat, hbl⟩ := hr9
    replace hL := hL.call hB (Turns.of_below hbl)
    replace hB := Nat.le_trans hB hbl.size
    change Mat _ _ _ (blends N C (haveS rows sel)) at hmat
    conv => whnf
    repeat (first | (refine RunH ?_; intro w hL hB; try clear w) | (refine Both.mk ?_ ?_ <;> conv => whnf) | fail)
    refine (times_fn _ _ (codeM k m) (blends N C (haveS rows sel)) N _ hd2 (hDl2 _ (List.mem_of_getElem? hd2)) hDl2 (fun l hl => by rw [codeM_row l hl, blends_len]; omega) (by omega) (by rw [codeM_len]; omega) _ (hcode.below hL.below) hmat.ss).mono fun r w' hr9 => ?_
    obtain ⟨hmat2, hbl2⟩ := hr9
    replace hL := hL.call hB (Turns.of_below hbl2)
    conv => whnf
    repeat (first | (refine RunH ?_; intro w hL hB; try clear w) | (refine Both.mk ?_ ?_ <;> conv => whnf) | fail)
    exact ⟨_, hmr _ rfl, hmat2.mono hB, hL.below⟩
end Go.Proofs.YtlldgodjfpgbcaaDoor
