/- wal: names of segments, what a name says. wal: what a file's name says. Nothing is claimed here. -/
import Derived.Test.YtjafamiaahabgaaGreatDoorK07
import Derived.Laws.IdiomStrings
namespace Go.Proofs.YtjafamiaahabgaaGreatDoor
open Go.RowKit Go.Lib
set_option linter.unusedVariables false
set_option linter.unusedSimpArgs false
set_option maxRecDepth 100000

/-- the table of tens stands in every world behind w0 -/
def TabW (B : Nat) (w0 : World) : Prop := ∀ w, Below B w0 w → TabIs Tryz.prog w "internal/strconv.uint64pow10" .u64 pow10Tab
/-- a segment's name -/
def wnm (pre : ByteArray) (n : Nat) : ByteArray := pre ++ ⟨#[46]⟩ ++ ⟨(dig8 n).toArray⟩
theorem dig8_sz {i : Nat} (h : i ≤ 99999999) : (⟨(dig8 i).toArray⟩ : ByteArray).size = 8 := by
  show (dig8 i).toArray.size = 8
  simp [dig8_len h]
theorem wnm_size {pre : ByteArray} {n : Nat} (h : n ≤ 99999999) : (wnm pre n).size = pre.size + 9 := by
  rw [wnm, ByteArray.size_append, ByteArray.size_append, dig8_sz h]
  rfl
def segV (d : Nat) (pre : ByteArray) (sv : Value) (af : Nat) : List Value := [.pointer (some ⟨d, 0, none⟩), .string pre, sv, .int .i64 (af : Int)]
set_option maxHeartbeats 1000000 in
theorem name_fn {d l : Nat} {pre : ByteArray} {sv : Value} {af : Nat} (n : Nat) (hn : n ≤ 99999999) (hp : pre.size ≤ 1000) (w0 : World) (hC : Blk w0 l [.pointer (some ⟨d, 0, none⟩), .string pre, sv, .int .i64 (af : Int)] 65) (htab : TabIs Tryz.prog w0 "internal/strconv.uint64pow10" .u64 pow10Tab) :
    Fn Tryz.prog 33 #[.pointer (some ⟨l, 0, none⟩), .int .i64 (n : Int)] w0 fun r w' => r = .string (wnm pre n) ∧ Below w0.heap.size w0 w' := by
  have hL := Sep.start Tryz.prog w0
  have hB := Nat.le_refl w0.heap.size
  have hd1 := decDigits_pos n
  have hd8 := decDigits_len 7 n (by omega)
  refine Fn.mk Tryz.func33 rfl (by kernel_rfl) Tryz.ntmps33 rfl (by rw [Tryz.results33]) ?_
  repeat (first | (refine RunH ?_; intro w hL hB; try clear w) | (refine Both.mk ?_ ?_ <;> conv => whnf) | fail)
  refine (itoaG_fn n hn _ htab).mono fun r w ⟨hr, hw⟩ => ?_
  subst hr
  replace hL := hL.call hB (Turns.of_below hw)
  replace hB := Nat.le_trans hB hw.size
  have hsz : (⟨(decDigits n).toArray⟩ : ByteArray).size = (decDigits n).length := rfl
  conv => whnf
  repeat (first | (refine RunH ?_; intro w hL hB; try clear w) | (refine Both.mk ?_ ?_ <;> conv => whnf) | fail)
  have e1 : ∀ x y : ByteArray, (x ++ y).size = x.size + y.size := fun x y => ByteArray.size_append
  have s1 : (⟨#[46]⟩ : ByteArray).size = 1 := rfl
  have hC2 : ∀ x, Below w0.heap.size w0 x → Blk x l [.pointer (some ⟨d, 0, none⟩), .string pre, sv, .int .i64 (af : Int)] 65 := fun x h => hC.below h hC.lt
  refine V.tree ttOk (fun x => Blk x l [.pointer (some ⟨d, 0, none⟩), .string pre, sv, .int .i64 (af : Int)] 65) (.q 0 (.q 1 (.q 2 (.q 3 (.q 4 (.q 5 (.q 6 (.q 7 (.q 10 (.alt 8 (.q 9 (.q 11 (.q 12 .nil))) .stop)))))))))) mixed (by decide +kernel) (hC2 _ hL.drew.below) ?_
  replace hL := hL.drew
  conv => whnf
  repeat' (first | (refine RunH ?_; intro w hL hB; try clear w) | (refine Br.dec (fun hbr => ?_) (fun hbr => ?_) <;> conv => whnf) | (refine Br.mk (fun hbr => ?_) (fun hbr => ?_) <;> conv => whnf) | (refine Both.mk ?_ ?_ <;> conv => whnf) | (refine Lq.of_class (fun x hx => Ld.blk ttOk rfl rfl hx rfl rfl) ?_; conv => whnf) | (refine And.intro (hC2 _ hL.below) ?_; conv => whnf) | fail)
  rw [show (8 - ((⟨(decDigits n).toArray⟩ : ByteArray).size : Int)) = ((8 - (decDigits n).length : Nat) : Int) from by rw [hsz]; omega]
  refine (repeat0_fn (8 - (decDigits n).length) (by omega) _).mono fun r w' ⟨hr, hw⟩ => ?_
  subst hr; subst hw
  have hzs : (zs (8 - (decDigits n).length)).size = 8 - (decDigits n).length := by
    show (List.replicate (8 - (decDigits n).length) (48 : UInt8)).toArray.size = _
    simp
  conv => whnf
  refine And.intro (hC2 _ hL.below) ?_
  conv => whnf
  repeat (first | (refine RunH ?_; intro w hL hB; try clear w) | (refine Both.mk ?_ ?_ <;> conv => whnf) | fail)
  have s2 : (⟨(decDigits n).toArray⟩ : ByteArray).size ≤ 8 := by rw [hsz]; omega
  refine Chk.mk (by rw [e1, hzs, s1]; omega) ?_
  conv => whnf
  repeat (first | (refine RunH ?_; intro w hL hB; try clear w) | (refine Both.mk ?_ ?_ <;> conv => whnf) | fail)
  refine Chk.mk (by rw [e1, e1, hzs, s1]; omega) ?_
  conv => whnf
  repeat (first | (refine RunH ?_; intro w hL hB; try clear w) | (refine Both.mk ?_ ?_ <;> conv => whnf) | fail)
  refine ⟨congrArg Value.string ?_, hL.below⟩
  apply ByteArray.ext
  apply Array.toList_inj.1
  simp [wnm, dig8, zs]
end Go.Proofs.YtjafamiaahabgaaGreatDoor
namespace Go.Proofs.YtjafamiaahabgaaGreatDoor
open Go.RowKit Go.Lib
set_option linter.unusedVariables false
set_option linter.unusedSimpArgs false
set_option maxRecDepth 100000

section
variable {P : Program} {T : Tab} (hT : TabOk P T) {B : Nat} {w0 w : World} {L : List Res} (hL : Sep P B w0 w L)
include hT hL
/-- a text as bytes: they are read alone -/
theorem Rv.ofStr {K : Value → World → Prop} {t u e : TypeId} {s b s1 b1 s2 b2 : Nat} {z z1 z2 : Value} (ht : look T t = some ⟨.slice e, s, b, z⟩) (he : look T e = some ⟨.int .u8, s1, b1, z1⟩) (hu : look T u = some ⟨.str, s2, b2, z2⟩) (x : ByteArray) (hx : x.size ≤ maxLen) (hB : B ≤ w.heap.size)
    (hk : ∀ g c w', Sep P B w0 w' (.ro (.slice (some ⟨g, 0, none⟩) x.size c) (bv (nmB x)) :: L) → B ≤ w'.heap.size → K (.slice (some ⟨g, 0, none⟩) x.size c) w') : Rv P (convert u t (.string x)) w K := by
  have ht' := und_slice hT ht
  obtain ⟨y, hy, hs⟩ := shOf_cases hT he
  cases y <;> simp only [shOf, reduceCtorEq, Sh.int.injEq] at hs
  subst hs
  obtain ⟨y, hy2, hs⟩ := shOf_cases hT hu
  cases y <;> simp only [shOf, reduceCtorEq] at hs
  have hr := run_bytes_of_string (P := P) w u t e x hy2 ht' hy
  have hge := grownCap_ge w x.size 0 e
  have hle := grownCap_le_maxLen w x.size 0 e hx
  have h1 : (w.drew.alloc (.cells (bytesRow x (grownCap w x.size 0 e)) e ((bytesRow x (grownCap w x.size 0 e)).size, (bytesRow x (grownCap w x.size 0 e)).size + 1))).heap[w.heap.size]? = some (.cells (bytesRow x (grownCap w x.size 0 e)) e ((bytesRow x (grownCap w x.size 0 e)).size, (bytesRow x (grownCap w x.size 0 e)).size + 1)) := heap_alloc_new w.drew _
  have htn : Turns w (w.drew.alloc (.cells (bytesRow x (grownCap w x.size 0 e)) e ((bytesRow x (grownCap w x.size 0 e)).size, (bytesRow x (grownCap w x.size 0 e)).size + 1))) [] :=
    ⟨rfl, rfl, rfl, by rw [show (w.drew.alloc _).heap.size = (w.heap.push _).size from rfl, Array.size_push]; omega, fun k hk _ => heap_alloc_old w.drew _ hk⟩
  generalize w.drew.alloc (.cells (bytesRow x (grownCap w x.size 0 e)) e ((bytesRow x (grownCap w x.size 0 e)).size, (bytesRow x (grownCap w x.size 0 e)).size + 1)) = w1 at *
  have hlen : (nmB x).length = x.size := Array.length_toList
  have hcell : Row w1 w.heap.size 0 (bv (nmB x)) := fun i v hv => by
    rw [Nat.zero_add, cell_of_row w1 w.heap.size i _ e _ h1]
    have hi : i < x.data.size := by
      have := (List.getElem?_eq_some_iff.1 hv).1
      simpa [nmB] using this
    rw [bytesRow, Array.getElem?_append_left (by simpa using hi)]
    have : (nmB x)[i]? = some (x.data[i]'hi) := by
      rw [nmB, Array.getElem?_toList]
      exact Array.getElem?_eq_getElem hi
    rw [bv_get this] at hv
    rw [← hv, Array.getElem?_map, Array.getElem?_eq_getElem hi]
    rfl
  have hsl : Sl w1 (.slice (some ⟨w.heap.size, 0, none⟩) x.size (grownCap w x.size 0 e)) (bv (nmB x)) :=
    Sl.some' (by rw [bv_length, hlen]) (by rw [bv_length, hlen]; exact hge) hle hcell
  refine Rv.mk hr (hk _ _ _ (hL.add (R := .ro (.slice (some ⟨w.heap.size, 0, none⟩) x.size (grownCap w x.size 0 e)) (bv (nmB x))) hB htn ⟨hsl, fun b hb => ?_⟩ (fun b hb => ?_) ?_) (Nat.le_trans hB htn.size))
  · injection hb with hb; subst hb; exact (Array.getElem?_eq_some_iff.1 h1).1
  · simp only [Res.blocks, Value.ownBlock, rowB, List.mem_singleton] at hb; subst hb; exact Nat.le_refl _
  · simp [Res.blocks, Value.ownBlock, rowB]
end
/-- does a text begin with another one? -/
def hasP (a z : ByteArray) : Bool := decide (z.size ≤ a.size ∧ a.extract 0 z.size = z)
theorem hasP_fn (a z : ByteArray) (ha : a.size ≤ 1000000) (hz : z.size ≤ 1000000) (w : World) : Fn Tryz.prog 108 #[.string a, .string z] w fun r w' => r = .bool (hasP a z) ∧ w' = w := by
  have hL := Sep.start Tryz.prog w
  have hB := Nat.le_refl w.heap.size
  by_cases h : z.size ≤ a.size
  · refine Fn.mk Tryz.func108 rfl (by kernel_rfl) Tryz.ntmps108 rfl (by rw [Tryz.results108]) ?_
    repeat (first | (refine RunH ?_; intro w hL hB; try clear w) | (refine Both.mk ?_ ?_ <;> conv => whnf) | fail)
    refine ⟨?_, rfl⟩
    simp [hasP, h]
  · refine Fn.mk Tryz.func108 rfl (by kernel_rfl) Tryz.ntmps108 rfl (by rw [Tryz.results108]) ?_
    repeat (first | (refine RunH ?_; intro w hL hB; try clear w) | (refine Both.mk ?_ ?_ <;> conv => whnf) | fail)
    refine ⟨?_, rfl⟩
    simp [hasP, h]
theorem cutPre_fn (a z : ByteArray) (ha : a.size ≤ 1000000) (hz : z.size ≤ 1000000) (w : World) : Fn Tryz.prog 64 #[.string a, .string z] w fun r w' => r = .tuple #[.string (if hasP a z then a.extract z.size a.size else a), .bool (hasP a z)] ∧ w' = w := by
  have hL := Sep.start Tryz.prog w
  have hB := Nat.le_refl w.heap.size
  refine Fn.mk Tryz.func64 rfl (by kernel_rfl) Tryz.ntmps64 rfl (by rw [Tryz.results64]) ?_
  refine RunR ?_
  refine Fn.mk Tryz.func88 rfl (by kernel_rfl) Tryz.ntmps88 rfl (by rw [Tryz.results88]) ?_
  refine RunR ?_
  refine (hasP_fn a z ha hz _).mono fun r w' ⟨hr, hw⟩ => ?_
  subst hr; subst hw
  conv => whnf
  by_cases h : hasP a z = true
  · rw [h]
    have h2 : z.size ≤ a.size := by simp [hasP] at h; exact h.1
    repeat (first | (refine RunH ?_; intro w hL hB; try clear w) | (refine Both.mk ?_ ?_ <;> conv => whnf) | fail)
    exact ⟨by simp, rfl⟩
  · rw [Bool.not_eq_true] at h
    rw [h]
    repeat (first | (refine RunH ?_; intro w hL hB; try clear w) | (refine Both.mk ?_ ?_ <;> conv => whnf) | fail)
    exact ⟨by simp, rfl⟩
def numL (l : List UInt8) : Nat := l.foldl (fun n c => n * 10 + (c.toNat - 48)) 0
def isDig (c : UInt8) : Bool := decide (48 ≤ c.toNat ∧ c.toNat ≤ 57)
/-- what a file's name says -/
def numG (pre nm : ByteArray) : Option Nat := if hasP nm (pre ++ ⟨#[46]⟩) = true ∧ nm.size = pre.size + 9 ∧ ((nmB nm).drop (pre.size + 1)).all isDig = true then some (numL ((nmB nm).drop (pre.size + 1))) else none
def numR (o : Option Nat) : Value := match o with
  | some n => .tuple #[.int .i64 (n : Int), .bool true]
  | none => .tuple #[.int .i64 0, .bool false]
theorem numL_lt : ∀ (l : List UInt8), l.all isDig = true → ∀ a, l.foldl (fun n c => n * 10 + (c.toNat - 48)) a < (a + 1) * 10 ^ l.length
  | [], _, a => by simp
  | c :: l, h, a => by
    simp only [List.all_cons, Bool.and_eq_true] at h
    have hc : 48 ≤ c.toNat ∧ c.toNat ≤ 57 := by simpa [isDig] using h.1
    have := numL_lt l h.2 (a * 10 + (c.toNat - 48))
    rw [List.foldl_cons, List.length_cons, Nat.pow_succ]
    have h2 : (a * 10 + (c.toNat - 48) + 1) * 10 ^ l.length ≤ ((a + 1) * 10) * 10 ^ l.length := Nat.mul_le_mul_right _ (by omega)
    calc _ < _ := this
      _ ≤ _ := h2
      _ = _ := by rw [Nat.mul_assoc, Nat.mul_comm 10]
theorem numG_le {pre nm : ByteArray} {n : Nat} (h : numG pre nm = some n) : n ≤ 99999999 := by
  unfold numG at h
  split at h
  · rename_i hc
    injection h with h
    subst h
    have := numL_lt _ hc.2.2 0
    have hl : ((nmB nm).drop (pre.size + 1)).length = 8 := by
      have : (nmB nm).length = nm.size := Array.length_toList
      rw [List.length_drop, this]; omega
    rw [hl] at this
    unfold numL
    omega
  · cases h

set_option maxHeartbeats 4000000 in
theorem number_fn {d l : Nat} {pre : ByteArray} {sv : Value} {af : Nat} (nm : ByteArray) (hn : nm.size ≤ 1000) (hp : pre.size ≤ 1000) (w0 : World) (hC : Blk w0 l [.pointer (some ⟨d, 0, none⟩), .string pre, sv, .int .i64 (af : Int)] 65) :
    Fn Tryz.prog 26 #[.pointer (some ⟨l, 0, none⟩), .string nm] w0 fun r w' => r = numR (numG pre nm) ∧ Below w0.heap.size w0 w' := by
  have hL := Sep.start Tryz.prog w0
  have hB := Nat.le_refl w0.heap.size
  have e1 : ∀ x y : ByteArray, (x ++ y).size = x.size + y.size := fun x y => ByteArray.size_append
  have s1 : (⟨#[46]⟩ : ByteArray).size = 1 := rfl
  refine Fn.mk Tryz.func26 rfl (by kernel_rfl) Tryz.ntmps26 rfl (by rw [Tryz.results26]) ?_
  repeat (first | (refine RunH ?_; intro w hL hB; try clear w) | (refine Both.mk ?_ ?_ <;> conv => whnf) | fail)
  refine (cutPre_fn nm (pre ++ ⟨#[46]⟩) (by omega) (by rw [e1, s1]; omega) w0).mono fun r w1 ⟨hr, hw⟩ => ?_
  subst hr; rw [hw]; clear hw
  cases hb : hasP nm (pre ++ ⟨#[46]⟩) with
  | false =>
    have hg : numG pre nm = none := by rw [numG, if_neg (by rw [hb]; simp)]
    conv => whnf
    repeat (first | (refine RunH ?_; intro w hL hB; try clear w) | (refine Both.mk ?_ ?_ <;> conv => whnf) | fail)
    exact ⟨by rw [hg]; rfl, hL.below⟩
  | true =>
  have hps : pre.size + 1 ≤ nm.size := by
    have := hb
    simp only [hasP, decide_eq_true_eq, e1, s1] at this
    exact this.1
  have hz : (pre ++ ⟨#[46]⟩ : ByteArray).size = pre.size + 1 := by rw [e1, s1]
  rw [if_pos rfl, hz]
  generalize hsd : nm.extract (pre.size + 1) nm.size = s
  have hss : s.size = nm.size - (pre.size + 1) := by rw [← hsd, ByteArray.size_extract]; omega
  have hsb : nmB s = (nmB nm).drop (pre.size + 1) := by
    rw [← hsd, nmB, nmB, ByteArray.data_extract, Array.toList_extract, List.extract_eq_take_drop, List.take_of_length_le]
    rw [List.length_drop, Array.length_toList]; exact Nat.le_refl _
  by_cases h8 : s.size ≠ 8
  · have hg : numG pre nm = none := by rw [numG, if_neg (by omega)]
    conv => whnf
    repeat (first | (refine RunH ?_; intro w hL hB; try clear w) | (refine Both.mk ?_ ?_ <;> conv => whnf) | fail)
    exact ⟨by rw [hg]; rfl, hL.below⟩
  replace h8 : s.size = 8 := by omega
  have hl8 : (nmB s).length = 8 := by rw [nmB, Array.length_toList]; exact h8
  have hg : numG pre nm = if (nmB s).all isDig = true then some (numL (nmB s)) else none := by
    unfold numG
    rw [← hsb]
    by_cases ha : (nmB s).all isDig = true
    · rw [if_pos ha, if_pos ⟨hb, by omega, ha⟩]
    · rw [if_neg ha, if_neg (fun h => ha h.2.2)]
  conv => whnf
  repeat (first | (refine RunH ?_; intro w hL hB; try clear w) | (refine Both.mk ?_ ?_ <;> conv => whnf) | fail)
  refine Rv.ofStr ttOk hL tl23 tl5 tl9 s (by rw [h8]; decide) hB fun g c w hL hB => ?_
  rw [h8] at hL ⊢
  conv => whnf
  repeat (first | (refine RunH ?_; intro w hL hB; try clear w) | (refine Both.mk ?_ ?_ <;> conv => whnf) | fail)
  refine V.loop (α := Nat × Nat) (fun z => [(8, .int .i64 (z.2 : Int)), (29, .slice (some ⟨g, 0, none⟩) 8 c), (30, .int .i64 8), (31, .int .i64 (z.1 : Int))])
    (fun z w' => z.1 ≤ 8 ∧ ((nmB s).take z.1).all isDig = true ∧ z.2 = numL ((nmB s).take z.1) ∧ Sep Tryz.prog w0.heap.size w0 w' [.ro (.slice (some ⟨g, 0, none⟩) 8 c) (bv (nmB s))] ∧ w0.heap.size ≤ w'.heap.size)
    (fun z => 8 - z.1) (0, 0) ⟨rfl, rfl, rfl, rfl, trivial⟩ ⟨by simp, by simp, by simp [numL], hL, hB⟩ ?_
  clear hL hB
  rintro ⟨i, n⟩ w ⟨hi, hd, hn2, hL, hB⟩
  dsimp only at *
  refine RunR ?_
  refine Br.dec (fun hlt => ?_) (fun hlt => ?_)
  · have hil : i < (nmB s).length := by omega
    have hs : Sl w (.slice (some ⟨g, 0, none⟩) 8 c) (bv (nmB s)) := (hL.hold _ (.head _)).1
    obtain ⟨b, o, hbo, hrow⟩ := hs.addr (by omega)
    obtain ⟨rfl, rfl⟩ : b = g ∧ o = 0 := by
      injection hbo with q1
      injection q1 with q1 q3
      exact ⟨q1.symm, q3.symm⟩
    have htk : (nmB s).take (i + 1) = (nmB s).take i ++ [(nmB s)[i]] := List.take_succ_eq_append_getElem hil
    generalize hc : (nmB s)[i] = ch at *
    have hcc : (bv (nmB s))[i]? = some (.int .u8 (ch.toNat : Int)) := bv_get (by rw [List.getElem?_eq_getElem hil, hc])
    have hcl := ch.toNat_lt
    have hnl : n < 10 ^ i := by
      have := numL_lt _ hd 0
      rw [List.length_take, Nat.min_eq_left (by omega)] at this
      rw [hn2]; unfold numL; omega
    have hp8 : (10 : Nat) ^ i ≤ 10 ^ 8 := Nat.pow_le_pow_right (by decide) hi
    have hmem : ch ∈ nmB s := hc ▸ List.getElem_mem hil
    refine RunR ?_
    intro o1 ho1
    conv => whnf
    refine Ld.row1 ttOk hrow rfl rfl hcc (by omega) ?_
    conv => whnf
    by_cases hlow : ch.toNat < 48
    · have hf : numG pre nm = none := by
        rw [hg, if_neg]
        intro ha
        have := List.all_eq_true.1 ha ch hmem
        simp [isDig] at this
        omega
      repeat (first | (refine RunH ?_; intro w hL hB; try clear w) | (refine Both.mk ?_ ?_ <;> conv => whnf) | fail)
      exact ⟨by rw [hf]; rfl, hL.below⟩
    by_cases hhi : 57 < ch.toNat
    · have hf : numG pre nm = none := by
        rw [hg, if_neg]
        intro ha
        have := List.all_eq_true.1 ha ch hmem
        simp [isDig] at this
        omega
      repeat (first | (refine RunH ?_; intro w hL hB; try clear w) | (refine Both.mk ?_ ?_ <;> conv => whnf) | fail)
      exact ⟨by rw [hf]; rfl, hL.below⟩
    repeat (first | (refine RunH ?_; intro w hL hB; try clear w) | (refine Both.mk ?_ ?_ <;> conv => whnf) | fail)
    refine ⟨(i + 1, n * 10 + (ch.toNat - 48)), ⟨by first | rfl | exact vint (by dsimp only; push_cast; omega), rfl, rfl, vint (by push_cast; omega), trivial⟩, ⟨by dsimp only; omega, ?_, ?_, hL, hB⟩, (by first | omega | (dsimp only; omega))⟩
    · dsimp only
      rw [htk, List.all_append, hd]
      simp [isDig]; omega
    · dsimp only
      rw [htk, hn2]
      simp [numL]
  · obtain rfl : i = 8 := by omega
    rw [List.take_of_length_le (by omega)] at hd hn2
    rw [if_pos hd] at hg
    repeat (first | (refine RunH ?_; intro w hL hB; try clear w) | (refine Both.mk ?_ ?_ <;> conv => whnf) | fail)
    exact ⟨by rw [hg, hn2]; rfl, hL.below⟩
end Go.Proofs.YtjafamiaahabgaaGreatDoor
