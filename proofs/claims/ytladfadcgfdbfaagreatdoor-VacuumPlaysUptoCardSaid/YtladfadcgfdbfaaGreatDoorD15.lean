/- needle: Size, headOf, Encode. needle: Encode. Nothing is claimed here. -/
import Derived.Test.YtladfadcgfdbfaaGreatDoorD13
import Derived.Test.YtladfadcgfdbfaaGreatDoorD14
namespace Go.Proofs.YtladfadcgfdbfaaGreatDoor
open Go.RowKit
set_option linter.unusedVariables false
set_option linter.unusedSimpArgs false
set_option maxRecDepth 100000
def hd20 (key cook : Nat) (dead : Bool) (size : Nat) : List UInt8 := [110, 100, if dead then 1 else 0, 0] ++ putB key 8 ++ putB cook 4 ++ putB size 4
def hd24 (key cook : Nat) (dead : Bool) (size : Nat) : List UInt8 := hd20 key cook dead size ++ putB (crc (hd20 key cook dead size)) 4
def szN (n : Nat) : Nat := (24 + n + 4 + 7) / 8 * 8
def encN (key cook : Nat) (dead : Bool) (d : List UInt8) : List UInt8 := hd24 key cook dead d.length ++ d ++ putB (crc d) 4 ++ List.replicate (szN d.length - (28 + d.length)) 0
theorem hd20_len (key cook : Nat) (dead : Bool) (size : Nat) : (hd20 key cook dead size).length = 20 := by simp [hd20, putB_len]
theorem hd24_len (key cook : Nat) (dead : Bool) (size : Nat) : (hd24 key cook dead size).length = 24 := by simp [hd24, hd20_len, putB_len]
theorem szN_le (n : Nat) : 28 + n ≤ szN n ∧ szN n ≤ 35 + n := by unfold szN; omega
theorem encN_len (key cook : Nat) (dead : Bool) (d : List UInt8) : (encN key cook dead d).length = szN d.length := by
  have := szN_le d.length
  simp [encN, hd24_len, putB_len]; omega
theorem put64_fn (v : Nat) (hv : v < 18446744073709551616) (w : World) :
    Fn Tryz.prog 130 #[.int .u64 v] w fun r w' => w'.ownsRow w.heap.size 5 1 r (putB v 8).length (bv (putB v 8)) ∧ Below w.heap.size w w' := by
  refine Fn.mk Tryz.func130 rfl (by kernel_rfl) Tryz.ntmps130 rfl (by rw [Tryz.results130]) ?_
  refine RunR ?_
  refine (put_fn v 8 hv (by omega) w).mono fun r w' ⟨ho, hb⟩ => ?_
  conv => whnf
  refine RunR ?_
  rw [putB_len]
  exact ⟨ho, hb⟩
theorem put32m (v : Nat) (hv : v < 4294967296) (w : World) : Fn Tryz.prog 79 #[.int .u32 v] w fun r w' => w'.ownsRow w.heap.size 5 1 r (putB v 4).length (bv (putB v 4)) ∧ Below w.heap.size w w' :=
  (put32_fn v hv w).mono fun r w' h => by rw [putB_len]; exact h
theorem get64_fn (v : Value) (l : List UInt8) (w : World) (hs : Sl w v (bv l)) :
    Fn Tryz.prog 109 #[v] w fun r w' => w' = w ∧ r = if l.length < 8 then .tuple #[.int .u64 0, .int .i64 2] else .tuple #[.int .u64 (ofB (l.take 8)), .int .i64 0] := by
  refine Fn.mk Tryz.func109 rfl (by kernel_rfl) Tryz.ntmps109 rfl (by rw [Tryz.results109]) ?_
  refine RunR ?_
  refine (get_fn v l 8 (by decide) (by decide) w hs).mono fun r w1 ⟨hw, hr⟩ => ?_
  subst hr; subst hw
  by_cases h : l.length < 8
  · rw [if_pos h]
    conv => whnf
    refine RunR ?_
    exact ⟨rfl, rfl⟩
  · rw [if_neg h]
    conv => whnf
    refine RunR ?_
    exact ⟨rfl, rfl⟩
theorem ndSize_fn (n : Int) (hn : 0 ≤ n ∧ n ≤ 65536) (w : World) : Fn Tryz.prog 97 #[.int .i64 n] w fun r w' => r = .int .i64 (szN n.toNat : Nat) ∧ w' = w := by
  obtain ⟨m, rfl⟩ := Int.eq_ofNat_of_zero_le hn.1
  have hL := Sep.start Tryz.prog w
  have hB := Nat.le_refl w.heap.size
  refine Fn.mk Tryz.func97 rfl (by kernel_rfl) Tryz.ntmps97 rfl (by rw [Tryz.results97]) ?_
  repeat (first | (refine RunH ?_; intro w hL hB; try clear w) | (refine Both.mk ?_ ?_ <;> conv => whnf) | fail)
  refine Shr.i64 (m + 35) 3 8 (by omega) rfl (by decide) rfl ?_
  conv => whnf
  repeat (first | (refine RunH ?_; intro w hL hB; try clear w) | (refine Both.mk ?_ ?_ <;> conv => whnf) | fail)
  refine Shl.i64 3 8 rfl (by decide) rfl ?_
  conv => whnf
  repeat (first | (refine RunH ?_; intro w hL hB; try clear w) | (refine Both.mk ?_ ?_ <;> conv => whnf) | fail)
  refine ⟨?_, rfl⟩
  refine vintv ?_
  show (((m + 35) / 8 : Nat) : Int) * 8 = ((szN (m : Int).toNat : Nat) : Int)
  rw [Int.toNat_natCast, szN]; omega
/-- a needle's cells -/
def ndC (key cook : Nat) (dead : Bool) (v : Value) : List Value := [.int .u64 (key : Int), .int .u32 (cook : Int), .bool dead, v]
set_option maxHeartbeats 4000000 in
theorem ndHead_fn (key cook : Nat) (dead : Bool) (v : Value) (size : Nat) (hk : key < 18446744073709551616) (hc : cook < 4294967296) (hsz : size < 4294967296) (w0 : World) :
    Fn Tryz.prog 96 #[.agg (ndC key cook dead v).toArray, .int .i64 (size : Int)] w0 fun r w' => r = .agg (bv (hd24 key cook dead size)).toArray ∧ Below w0.heap.size w0 w' := by
  have hL := Sep.start Tryz.prog w0
  have hB := Nat.le_refl w0.heap.size
  rw [ndC]
  have e20 := hd20_len key cook dead size
  have ehd : hd20 key cook dead size = (([110, 100, if dead then 1 else 0, 0] ++ putB key 8) ++ putB cook 4) ++ putB size 4 := rfl
  have e24 := hd24_len key cook dead size
  obtain ⟨H, hH⟩ : ∃ H, H = hd20 key cook dead size := ⟨_, rfl⟩
  obtain ⟨G, hG⟩ : ∃ G, G = hd24 key cook dead size := ⟨_, rfl⟩
  have hGH : G = H ++ putB (crc H) 4 := by rw [hG, hH]; rfl
  rw [← hH] at e20 ehd
  rw [← hG] at e24 ⊢
  clear hH hG
  cases dead <;> (
    first | rw [if_pos rfl] at ehd | rw [if_neg (by decide)] at ehd
    refine Fn.mk Tryz.func96 rfl (by kernel_rfl) Tryz.ntmps96 rfl (by rw [Tryz.results96]) ?_
    repeat (first | (refine RunH ?_; intro w hL hB; try clear w) | (refine Both.mk ?_ ?_ <;> conv => whnf) | fail)
    (refine Nw.sep hL hB (fun t2 w hL hB ht2 => ?_); conv => whnf)
    repeat (first | (refine RunH ?_; intro w hL hB; try clear w) | (refine Both.mk ?_ ?_ <;> conv => whnf) | fail)
    (refine Nw.sep hL hB (fun t4 w hL hB ht4 => ?_); conv => whnf)
    repeat (first | (refine RunH ?_; intro w hL hB; try clear w) | (refine Both.mk ?_ ?_ <;> conv => whnf) | fail)
    refine Qv.arr (cells := #[.int .u8 110, .int .u8 100, .int .u8 0, .int .u8 0, .int .u8 0, .int .u8 0, .int .u8 0, .int .u8 0, .int .u8 0, .int .u8 0, .int .u8 0, .int .u8 0, .int .u8 0, .int .u8 0, .int .u8 0, .int .u8 0, .int .u8 0, .int .u8 0, .int .u8 0, .int .u8 0, .int .u8 0, .int .u8 0, .int .u8 0, .int .u8 0]) ttOk tl160 tl5 rfl ?_
    conv => whnf
    (refine Nw.sep hL hB (fun t5 w hL hB ht5 => ?_); conv => whnf)
    repeat (first | (refine RunH ?_; intro w hL hB; try clear w) | (refine Both.mk ?_ ?_ <;> conv => whnf) | fail)
    try (intro o1 ho1; obtain rfl : o1 = 2 := by omega)
    conv => whnf
    repeat (first | (refine RunH ?_; intro w hL hB; try clear w) | (refine Both.mk ?_ ?_ <;> conv => whnf) | fail)
    first
    | replace hL := hL.saidN 0 rfl (R' := .blk t5 (bv ([110, 100, 0, 0] ++ List.replicate 20 0)) 160) (hL.at (i := 0) rfl) rfl
    | replace hL := hL.saidN 0 rfl (R' := .blk t5 (bv ([110, 100, 1, 0] ++ List.replicate 20 0)) 160) (hL.at (i := 0) rfl) rfl
    repeat (first | (refine RunK ?_; intro w hL hB; try clear w) | (refine V.treeS ttOk hL 0 (b := t5) rfl (.q 0 (.q 1 (.q 2 (.alt 3 (.alt 4 .nil .stop) .stop)))) mixed (by decide +kernel) ?_; replace hL := hL.drew; conv => whnf) | (refine V.treeS ttOk hL 1 (b := t5) rfl (.q 0 (.q 1 (.q 2 (.alt 3 (.alt 4 .nil .stop) .stop)))) mixed (by decide +kernel) ?_; replace hL := hL.drew; conv => whnf) | (refine V.treeS ttOk hL 2 (b := t5) rfl (.q 0 (.q 1 (.q 2 (.alt 3 (.alt 4 .nil .stop) .stop)))) mixed (by decide +kernel) ?_; replace hL := hL.drew; conv => whnf) | (refine V.treeS ttOk hL 3 (b := t5) rfl (.q 0 (.q 1 (.q 2 (.alt 3 (.alt 4 .nil .stop) .stop)))) mixed (by decide +kernel) ?_; replace hL := hL.drew; conv => whnf) | (refine V.treeS ttOk hL 4 (b := t5) rfl (.q 0 (.q 1 (.q 2 (.alt 3 (.alt 4 .nil .stop) .stop)))) mixed (by decide +kernel) ?_; replace hL := hL.drew; conv => whnf) | (refine V.tailA ttOk mixed (by decide +kernel) ?_; replace hL := hL.drew; conv => whnf) | (refine Both.mk ?_ ?_ <;> conv => whnf) | fail)
    intro o1 n1 c1 z1 z2 z3 z4
    obtain ⟨rfl, rfl, rfl⟩ : o1 = 4 ∧ n1 = 20 ∧ c1 = 20 := by omega
    conv => whnf
    repeat (first | (refine RunH ?_; intro w hL hB; try clear w) | (refine Both.mk ?_ ?_ <;> conv => whnf) | fail)
    refine (put64_fn key hk _).mono fun r w ⟨ho, hw⟩ => ?_
    replace hL := hL.addRow hB hw ho
    replace hB := Nat.le_trans hB hw.size
    obtain ⟨ra, rc, rfl⟩ := (show SlN w 1 r _ _ from hL.rowN (i := 0) rfl).shape
    rw [putB_len]
    conv => whnf
    repeat (first | (refine RunH ?_; intro w hL hB; try clear w) | (refine Both.mk ?_ ?_ <;> conv => whnf) | fail)
    refine Rv.copyB ttOk hL 1 tl40 tl5 rfl (by have := hL.row (i := 0) rfl; rwa [putB_len] at this) (bv_one _) (by simp [putB_len]) hB fun w hL hB => ?_
    dsimp only [List.set] at hL
    rw [List.take_of_length_le (by simp [putB_len]), splice_tail _ _ 20 12 4 (by simp [putB_len]) (by simp [putB_len])] at hL
    replace hL := hL.tl
    conv => whnf
    repeat (first | (refine RunH ?_; intro w hL hB; try clear w) | (refine Both.mk ?_ ?_ <;> conv => whnf) | fail)
    repeat (first | (refine RunK ?_; intro w hL hB; try clear w) | (refine V.treeS ttOk hL 0 (b := t5) rfl (.q 0 (.q 1 (.q 2 (.alt 3 (.alt 4 .nil .stop) .stop)))) mixed (by decide +kernel) ?_; replace hL := hL.drew; conv => whnf) | (refine V.treeS ttOk hL 1 (b := t5) rfl (.q 0 (.q 1 (.q 2 (.alt 3 (.alt 4 .nil .stop) .stop)))) mixed (by decide +kernel) ?_; replace hL := hL.drew; conv => whnf) | (refine V.treeS ttOk hL 2 (b := t5) rfl (.q 0 (.q 1 (.q 2 (.alt 3 (.alt 4 .nil .stop) .stop)))) mixed (by decide +kernel) ?_; replace hL := hL.drew; conv => whnf) | (refine V.treeS ttOk hL 3 (b := t5) rfl (.q 0 (.q 1 (.q 2 (.alt 3 (.alt 4 .nil .stop) .stop)))) mixed (by decide +kernel) ?_; replace hL := hL.drew; conv => whnf) | (refine V.treeS ttOk hL 4 (b := t5) rfl (.q 0 (.q 1 (.q 2 (.alt 3 (.alt 4 .nil .stop) .stop)))) mixed (by decide +kernel) ?_; replace hL := hL.drew; conv => whnf) | (refine V.tailA ttOk mixed (by decide +kernel) ?_; replace hL := hL.drew; conv => whnf) | (refine Both.mk ?_ ?_ <;> conv => whnf) | fail)
    intro o1 n1 c1 z1 z2 z3 z4
    obtain ⟨rfl, rfl, rfl⟩ : o1 = 12 ∧ n1 = 12 ∧ c1 = 12 := by omega
    conv => whnf
    repeat (first | (refine RunH ?_; intro w hL hB; try clear w) | (refine Both.mk ?_ ?_ <;> conv => whnf) | fail)
    refine (put32m cook hc _).mono fun r w ⟨ho, hw⟩ => ?_
    replace hL := hL.addRow hB hw ho
    replace hB := Nat.le_trans hB hw.size
    obtain ⟨ra, rc, rfl⟩ := (show SlN w 1 r _ _ from hL.rowN (i := 0) rfl).shape
    rw [putB_len]
    conv => whnf
    repeat (first | (refine RunH ?_; intro w hL hB; try clear w) | (refine Both.mk ?_ ?_ <;> conv => whnf) | fail)
    refine Rv.copyB ttOk hL 1 tl40 tl5 rfl (by have := hL.row (i := 0) rfl; rwa [putB_len] at this) (bv_one _) (by simp [putB_len]) hB fun w hL hB => ?_
    dsimp only [List.set] at hL
    rw [List.take_of_length_le (by simp [putB_len]), splice_tail _ _ 12 8 12 (by simp [putB_len]) (by simp [putB_len])] at hL
    replace hL := hL.tl
    conv => whnf
    repeat (first | (refine RunH ?_; intro w hL hB; try clear w) | (refine Both.mk ?_ ?_ <;> conv => whnf) | fail)
    repeat (first | (refine RunK ?_; intro w hL hB; try clear w) | (refine V.treeS ttOk hL 0 (b := t5) rfl (.q 0 (.q 1 (.q 2 (.alt 3 (.alt 4 .nil .stop) .stop)))) mixed (by decide +kernel) ?_; replace hL := hL.drew; conv => whnf) | (refine V.treeS ttOk hL 1 (b := t5) rfl (.q 0 (.q 1 (.q 2 (.alt 3 (.alt 4 .nil .stop) .stop)))) mixed (by decide +kernel) ?_; replace hL := hL.drew; conv => whnf) | (refine V.treeS ttOk hL 2 (b := t5) rfl (.q 0 (.q 1 (.q 2 (.alt 3 (.alt 4 .nil .stop) .stop)))) mixed (by decide +kernel) ?_; replace hL := hL.drew; conv => whnf) | (refine V.treeS ttOk hL 3 (b := t5) rfl (.q 0 (.q 1 (.q 2 (.alt 3 (.alt 4 .nil .stop) .stop)))) mixed (by decide +kernel) ?_; replace hL := hL.drew; conv => whnf) | (refine V.treeS ttOk hL 4 (b := t5) rfl (.q 0 (.q 1 (.q 2 (.alt 3 (.alt 4 .nil .stop) .stop)))) mixed (by decide +kernel) ?_; replace hL := hL.drew; conv => whnf) | (refine V.tailA ttOk mixed (by decide +kernel) ?_; replace hL := hL.drew; conv => whnf) | (refine Both.mk ?_ ?_ <;> conv => whnf) | fail)
    intro o1 n1 c1 z1 z2 z3 z4
    obtain ⟨rfl, rfl, rfl⟩ : o1 = 16 ∧ n1 = 8 ∧ c1 = 8 := by omega
    conv => whnf
    repeat (first | (refine RunH ?_; intro w hL hB; try clear w) | (refine Both.mk ?_ ?_ <;> conv => whnf) | fail)
    refine (put32m size hsz _).mono fun r w ⟨ho, hw⟩ => ?_
    replace hL := hL.addRow hB hw ho
    replace hB := Nat.le_trans hB hw.size
    obtain ⟨ra, rc, rfl⟩ := (show SlN w 1 r _ _ from hL.rowN (i := 0) rfl).shape
    rw [putB_len]
    conv => whnf
    repeat (first | (refine RunH ?_; intro w hL hB; try clear w) | (refine Both.mk ?_ ?_ <;> conv => whnf) | fail)
    refine Rv.copyB ttOk hL 1 tl40 tl5 rfl (by have := hL.row (i := 0) rfl; rwa [putB_len] at this) (bv_one _) (by simp [putB_len]) hB fun w hL hB => ?_
    dsimp only [List.set] at hL
    rw [List.take_of_length_le (by simp [putB_len]), splice_tail _ _ 8 4 16 (by simp [putB_len]) (by simp [putB_len])] at hL
    replace hL := hL.tl
    conv => whnf
    repeat (first | (refine RunH ?_; intro w hL hB; try clear w) | (refine Both.mk ?_ ?_ <;> conv => whnf) | fail)
    rw [← ehd] at hL
    repeat (first | (refine RunK ?_; intro w hL hB; try clear w) | (refine V.treeS ttOk hL 0 (b := t5) rfl (.q 0 (.q 1 (.alt 2 (.alt 3 (.alt 4 .nil .stop) .stop) .stop))) mixed (by decide +kernel) ?_; replace hL := hL.drew; conv => whnf) | (refine V.treeS ttOk hL 1 (b := t5) rfl (.q 0 (.q 1 (.alt 2 (.alt 3 (.alt 4 .nil .stop) .stop) .stop))) mixed (by decide +kernel) ?_; replace hL := hL.drew; conv => whnf) | (refine V.treeS ttOk hL 2 (b := t5) rfl (.q 0 (.q 1 (.alt 2 (.alt 3 (.alt 4 .nil .stop) .stop) .stop))) mixed (by decide +kernel) ?_; replace hL := hL.drew; conv => whnf) | (refine V.treeS ttOk hL 3 (b := t5) rfl (.q 0 (.q 1 (.alt 2 (.alt 3 (.alt 4 .nil .stop) .stop) .stop))) mixed (by decide +kernel) ?_; replace hL := hL.drew; conv => whnf) | (refine V.treeS ttOk hL 4 (b := t5) rfl (.q 0 (.q 1 (.alt 2 (.alt 3 (.alt 4 .nil .stop) .stop) .stop))) mixed (by decide +kernel) ?_; replace hL := hL.drew; conv => whnf) | (refine V.tailA ttOk mixed (by decide +kernel) ?_; replace hL := hL.drew; conv => whnf) | (refine Both.mk ?_ ?_ <;> conv => whnf) | fail)
    intro o1 n1 c1 z1 z2 z3 z4
    obtain ⟨rfl, rfl, rfl⟩ : o1 = 20 ∧ n1 = 4 ∧ c1 = 4 := by omega
    conv => whnf
    repeat (first | (refine RunH ?_; intro w hL hB; try clear w) | (refine Both.mk ?_ ?_ <;> conv => whnf) | fail)
    intro n2 c2 z5 z6
    obtain ⟨rfl, rfl⟩ : n2 = 20 ∧ c2 = 24 := by omega
    conv => whnf
    repeat (first | (refine RunH ?_; intro w hL hB; try clear w) | (refine Both.mk ?_ ?_ <;> conv => whnf) | fail)
    refine (sum_fn _ (H) _ (by
      have := sl_blk (o := 0) (n := 20) (c := 24) (hL.blk (i := 0) rfl) (by simp [e20]) (by decide) (by decide)
      rwa [List.drop_zero, ← bv_take, List.take_left' e20] at this)).mono fun r2 w ⟨hr, hw⟩ => ?_
    subst hr
    replace hL := hL.call hB (Turns.of_below hw)
    replace hB := Nat.le_trans hB hw.size
    conv => whnf
    repeat (first | (refine RunH ?_; intro w hL hB; try clear w) | (refine Both.mk ?_ ?_ <;> conv => whnf) | fail)
    refine (put32m _ (crc_lt _) _).mono fun r w ⟨ho, hw⟩ => ?_
    replace hL := hL.addRow hB hw ho
    replace hB := Nat.le_trans hB hw.size
    obtain ⟨ra, rc, rfl⟩ := (show SlN w 1 r _ _ from hL.rowN (i := 0) rfl).shape
    rw [putB_len]
    conv => whnf
    repeat (first | (refine RunH ?_; intro w hL hB; try clear w) | (refine Both.mk ?_ ?_ <;> conv => whnf) | fail)
    refine Rv.copyB ttOk hL 1 tl40 tl5 rfl (by have := hL.row (i := 0) rfl; rwa [putB_len] at this) (bv_one _) (by simp [e20]) hB fun w hL hB => ?_
    dsimp only [List.set] at hL
    rw [List.take_of_length_le (by simp [putB_len]), splice_tail _ _ 4 0 20 (by rw [e20]) (by simp [putB_len])] at hL
    replace hL := hL.tl
    rw [List.replicate_zero, List.append_nil] at hL
    rw [← hGH] at hL
    conv => whnf
    repeat (first | (refine RunH ?_; intro w hL hB; try clear w) | (refine Both.mk ?_ ?_ <;> conv => whnf) | fail)
    refine Ld.blkV ttOk hL 0 (bv (G)) tl160 rfl rfl (by rw [List.drop_zero]; exact List.take_of_length_le (by rw [bv_length]; exact Nat.le_of_eq e24)) (by rw [bv_length]; exact Nat.le_of_eq e24.symm) ?_
    conv => whnf
    repeat (first | (refine RunH ?_; intro w hL hB; try clear w) | (refine Both.mk ?_ ?_ <;> conv => whnf) | fail)
    refine St.blkV ttOk hL 1 tl160 (by rw [bv_length]; exact e24) (bv_one _) rfl (by decide) hB fun w hL hB => ?_
    dsimp only [List.set] at hL
    rw [show ∀ cs : List Value, cs.length = 24 → splice cs 0 (bv (G)) = bv (G) from fun cs h => by rw [splice_eq _ _ _ (by rw [h, bv_length, e24]; decide), bv_length, List.drop_eq_nil_of_le (by rw [h, e24]; decide)]; simp] at hL
    conv => whnf
    repeat (first | (refine RunH ?_; intro w hL hB; try clear w) | (refine Both.mk ?_ ?_ <;> conv => whnf) | fail)
    refine Ld.blkV ttOk hL 1 (bv (G)) tl160 rfl rfl (by rw [List.drop_zero]; exact List.take_of_length_le (by rw [bv_length]; exact Nat.le_of_eq e24)) (by rw [bv_length]; exact Nat.le_of_eq e24.symm) ?_
    conv => whnf
    all_goals first | exact ⟨rfl, hL.below⟩ | rfl)
end Go.Proofs.YtladfadcgfdbfaaGreatDoor
namespace Go.Proofs.YtladfadcgfdbfaaGreatDoor
open Go.RowKit
set_option linter.unusedVariables false
set_option linter.unusedSimpArgs false
set_option maxRecDepth 100000
def encNE (dead : Bool) (n : Nat) : Nat := if dead = true ∧ 0 < n then 1 else if 65536 < n then 5 else 0
set_option maxHeartbeats 4000000 in
theorem encN_bad (key cook : Nat) (dead : Bool) (v : Value) (d : List UInt8) (w0 : World) (hs : Sl w0 v (bv d)) (hE : encNE dead d.length ≠ 0) :
    Fn Tryz.prog 59 #[.agg (ndC key cook dead v).toArray] w0 fun r w' => r = .tuple #[.slice none 0 0, .int .i64 (encNE dead d.length : Nat)] ∧ Below w0.heap.size w0 w' := by
  have hL := Sep.start Tryz.prog w0
  have hB := Nat.le_refl w0.heap.size
  have hle := hs.le
  obtain ⟨va, vc, rfl⟩ := hs.shape
  simp only [bv_length] at *
  rw [ndC]
  by_cases h1 : dead = true ∧ 0 < d.length
  · have e1 : encNE dead d.length = 1 := if_pos h1
    obtain ⟨rfl, h1⟩ := h1
    rw [e1]
    refine Fn.mk Tryz.func59 rfl (by kernel_rfl) Tryz.ntmps59 rfl (by rw [Tryz.results59]) ?_
    repeat (first | (refine RunH ?_; intro w hL hB; try clear w) | (refine Both.mk ?_ ?_ <;> conv => whnf) | fail)
    (refine Nw.sep hL hB (fun t1 w hL hB ht1 => ?_); conv => whnf)
    repeat (first | (refine RunH ?_; intro w hL hB; try clear w) | (refine Both.mk ?_ ?_ <;> conv => whnf) | fail)
    exact ⟨rfl, hL.below⟩
  by_cases h2 : 65536 < d.length
  · have e1 : encNE dead d.length = 5 := by rw [encNE, if_neg h1, if_pos h2]
    obtain rfl : dead = false := by cases dead; rfl; exact absurd ⟨rfl, by omega⟩ h1
    rw [e1]
    refine Fn.mk Tryz.func59 rfl (by kernel_rfl) Tryz.ntmps59 rfl (by rw [Tryz.results59]) ?_
    repeat (first | (refine RunH ?_; intro w hL hB; try clear w) | (refine Both.mk ?_ ?_ <;> conv => whnf) | fail)
    (refine Nw.sep hL hB (fun t1 w hL hB ht1 => ?_); conv => whnf)
    repeat (first | (refine RunH ?_; intro w hL hB; try clear w) | (refine Both.mk ?_ ?_ <;> conv => whnf) | fail)
    exact ⟨rfl, hL.below⟩
  exact absurd (by rw [encNE, if_neg h1, if_neg h2]) hE
set_option maxHeartbeats 4000000 in
theorem encN_fn (key cook : Nat) (dead : Bool) (v : Value) (d : List UInt8) (hk : key < 18446744073709551616) (hc : cook < 4294967296) (w0 : World) (hs : Sl w0 v (bv d)) (hE : encNE dead d.length = 0) :
    Fn Tryz.prog 59 #[.agg (ndC key cook dead v).toArray] w0 fun r w' => ∃ u, r = .tuple #[u, .int .i64 0] ∧ w'.ownsRow w0.heap.size 5 1 u (encN key cook dead d).length (bv (encN key cook dead d)) ∧ Below w0.heap.size w0 w' := by
  have hL := Sep.start Tryz.prog w0
  have hB := Nat.le_refl w0.heap.size
  have hle := hs.le
  obtain ⟨va, vc, rfl⟩ := hs.shape
  simp only [bv_length] at *
  have h1 : ¬ (dead = true ∧ 0 < d.length) := fun h => by rw [encNE, if_pos h] at hE; cases hE
  have h2 : ¬ 65536 < d.length := fun h => by rw [encNE, if_neg h1, if_pos h] at hE; cases hE
  have hsz := szN_le d.length
  have e24 := hd24_len key cook dead d.length
  have hend : (hd24 key cook dead d.length ++ d ++ putB (crc d) 4 ++ List.replicate (szN d.length - (28 + d.length)) 0) = encN key cook dead d := rfl
  have hnl := encN_len key cook dead d
  generalize encN key cook dead d = E at *
  have hhead := ndHead_fn key cook dead (.slice va d.length vc) d.length hk hc (by omega)
  have hsize := ndSize_fn (d.length : Int) (by omega)
  rw [Int.toNat_natCast] at hsize
  generalize szN d.length = N at *
  generalize hd24 key cook dead d.length = G at *
  have run : ∀ dd : Bool, dd = dead → True := fun _ _ => trivial
  rw [ndC] at *
  cases dead <;> (
    refine Fn.mk Tryz.func59 rfl (by kernel_rfl) Tryz.ntmps59 rfl (by rw [Tryz.results59]) ?_
    repeat (first | (refine RunH ?_; intro w hL hB; try clear w) | (refine Both.mk ?_ ?_ <;> conv => whnf) | fail)
    (refine Nw.sep hL hB (fun t1 w hL hB ht1 => ?_); conv => whnf)
    repeat (first | (refine RunH ?_; intro w hL hB; try clear w) | (refine Both.mk ?_ ?_ <;> conv => whnf) | (refine Br.f ?_ (by first | omega | (simp; omega) | (intro h; exact h1 ⟨rfl, by omega⟩)); conv => whnf) | fail)
    refine (hhead _).mono fun r w ⟨hr, hw⟩ => ?_
    subst hr
    replace hL := hL.call hB (Turns.of_below hw)
    replace hB := Nat.le_trans hB hw.size
    conv => whnf
    (refine Nw.sep hL hB (fun t4 w hL hB ht4 => ?_); conv => whnf)
    repeat (first | (refine RunH ?_; intro w hL hB; try clear w) | (refine Both.mk ?_ ?_ <;> conv => whnf) | fail)
    refine St.blkW ttOk hL 0 tl160 (by rw [bv_length]; exact e24) (bv_one _) rfl (by rw [bv_length, e24]; rfl) hB fun w hL hB => ?_
    dsimp only [List.set] at hL
    conv => whnf
    repeat (first | (refine RunH ?_; intro w hL hB; try clear w) | (refine Both.mk ?_ ?_ <;> conv => whnf) | fail)
    refine (hsize _).mono fun r w' ⟨hr, hw⟩ => ?_
    subst hr; subst hw
    conv => whnf
    repeat (first | (refine RunH ?_; intro w hL hB; try clear w) | (refine Both.mk ?_ ?_ <;> conv => whnf) | fail)
    refine Rv.makeS ttOk hL N N tl40 tl5 rfl rfl rfl (Nat.le_refl _) (by omega) (by simp only [maxLen]; omega) hB fun g w hL hB => ?_
    replace hL := hL.saidN 0 rfl (R' := .row 5 1 (.slice (some ⟨g, 0, none⟩) N N) N (bv ([] ++ List.replicate N 0))) (by
      have := hL.at (i := 0) rfl
      have e : bv ([] ++ List.replicate N 0) = List.replicate N (.int .u8 0) := by simp [bv, u8]
      rw [e]; exact this) rfl
    dsimp only [List.set] at hL
    conv => whnf
    repeat (first | (refine RunH ?_; intro w hL hB; try clear w) | (refine Both.mk ?_ ?_ <;> conv => whnf) | fail)
    intro n1 c1 z1 z2
    obtain ⟨rfl, rfl⟩ : n1 = 24 ∧ c1 = 24 := by omega
    conv => whnf
    repeat (first | (refine RunH ?_; intro w hL hB; try clear w) | (refine Both.mk ?_ ?_ <;> conv => whnf) | fail)
    have hsl := sl_blk (o := 0) (n := 24) (c := 24) (hL.blk (i := 1) rfl) (by rw [bv_length, e24]; decide) (by decide) (by decide)
    rw [List.drop_zero, List.take_of_length_le (by rw [bv_length, e24]; decide)] at hsl
    refine Rv.copyR ttOk hL 0 tl40 tl5 rfl hsl (bv_one _) (by omega) hB fun w hL hB => ?_
    dsimp only [List.set] at hL
    rw [List.take_of_length_le (by rw [bv_length, e24]; omega), splice_tail _ _ N (N - 24) 0 rfl (by omega), List.nil_append] at hL
    rw [bv_length, e24, Nat.min_eq_right (by omega)]
    conv => whnf
    repeat (first | (refine RunK ?_; intro w hL hB; try clear w) | (refine V.treeP ttOk hL 0 (.q 0 (.q 1 (.q 2 (.q 3 (.q 4 (.q 5 (.alt 6 (.q 7 (.q 8 .nil)) .stop))))))) mixed (by decide +kernel) ?_; replace hL := hL.drew; conv => whnf) | (refine V.tailA ttOk mixed (by decide +kernel) ?_; replace hL := hL.drew; conv => whnf) | (refine Both.mk ?_ ?_ <;> conv => whnf) | fail)
    intro o1 n1 c1 z1 z2 z3 z4
    obtain ⟨rfl, rfl, rfl⟩ : o1 = 24 ∧ n1 = N - 24 ∧ c1 = N - 24 := by omega
    conv => whnf
    repeat (first | (refine RunH ?_; intro w hL hB; try clear w) | (refine Both.mk ?_ ?_ <;> conv => whnf) | fail)
    refine Rv.copyR ttOk hL 0 tl40 tl5 rfl (hs.below hL.below) (bv_one _) (by omega) hB fun w hL hB => ?_
    dsimp only [List.set] at hL
    rw [List.take_of_length_le (by rw [bv_length]; omega), splice_tail _ _ (N - 24) (N - 24 - d.length) 24 e24.symm (by omega)] at hL
    rw [bv_length, Nat.min_eq_right (by omega)]
    conv => whnf
    repeat (first | (refine RunH ?_; intro w hL hB; try clear w) | (refine Both.mk ?_ ?_ <;> conv => whnf) | fail)
    repeat (first | (refine RunK ?_; intro w hL hB; try clear w) | (refine V.treeP ttOk hL 0 (.q 0 (.q 1 (.q 2 (.q 3 (.q 4 (.alt 5 (.alt 6 (.alt 7 .nil .stop) .stop) .stop)))))) mixed (by decide +kernel) ?_; replace hL := hL.drew; conv => whnf) | (refine V.tailA ttOk mixed (by decide +kernel) ?_; replace hL := hL.drew; conv => whnf) | (refine Both.mk ?_ ?_ <;> conv => whnf) | fail)
    intro o1 n1 c1 z1 z2 z3 z4
    obtain ⟨rfl, rfl, rfl⟩ : o1 = 24 + d.length ∧ n1 = N - (24 + d.length) ∧ c1 = N - (24 + d.length) := by omega
    conv => whnf
    repeat (first | (refine RunH ?_; intro w hL hB; try clear w) | (refine Both.mk ?_ ?_ <;> conv => whnf) | fail)
    refine (sum_fn _ d _ (hs.below hL.below)).mono fun r2 w ⟨hr, hw⟩ => ?_
    subst hr
    replace hL := hL.call hB (Turns.of_below hw)
    replace hB := Nat.le_trans hB hw.size
    conv => whnf
    repeat (first | (refine RunH ?_; intro w hL hB; try clear w) | (refine Both.mk ?_ ?_ <;> conv => whnf) | fail)
    refine (put32m _ (crc_lt _) _).mono fun r w ⟨ho, hw⟩ => ?_
    replace hL := hL.addRow hB hw ho
    replace hB := Nat.le_trans hB hw.size
    obtain ⟨ra, rc, rfl⟩ := (show SlN w 1 r _ _ from hL.rowN (i := 0) rfl).shape
    rw [putB_len]
    conv => whnf
    repeat (first | (refine RunH ?_; intro w hL hB; try clear w) | (refine Both.mk ?_ ?_ <;> conv => whnf) | fail)
    refine Rv.copyR ttOk hL 1 tl40 tl5 rfl (by have := hL.row (i := 0) rfl; rwa [putB_len] at this) (bv_one _) (by omega) hB fun w hL hB => ?_
    dsimp only [List.set] at hL
    rw [List.take_of_length_le (by rw [bv_length, putB_len]; omega), splice_tail _ _ _ (N - (28 + d.length)) (24 + d.length) (by rw [List.length_append, e24]) (by rw [putB_len]; omega), hend] at hL
    replace hL := hL.tl
    conv => whnf
    repeat (first | (refine RunH ?_; intro w hL hB; try clear w) | (refine Both.mk ?_ ?_ <;> conv => whnf) | fail)
    refine ⟨_, rfl, ?_, hL.below⟩
    rw [hnl]
    exact hL.ownR (i := 0) rfl)
end Go.Proofs.YtladfadcgfdbfaaGreatDoor
