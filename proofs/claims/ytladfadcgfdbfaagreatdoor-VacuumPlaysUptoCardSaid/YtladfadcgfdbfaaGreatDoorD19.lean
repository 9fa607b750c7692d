/- volume: what it is in memory; lay, headOf, begins, Size. volume: headOf, begins, Size, Create. Nothing is claimed here. -/
import Derived.Test.YtladfadcgfdbfaaGreatDoorD16
import Derived.Test.YtladfadcgfdbfaaGreatDoorD17
import Derived.Test.YtladfadcgfdbfaaGreatDoorD18
namespace Go.Proofs.YtladfadcgfdbfaaGreatDoor
open Go.RowKit
open Go.Maps (Keyed)
set_option linter.unusedVariables false
set_option linter.unusedSimpArgs false
set_option maxRecDepth 100000
theorem u64K : Keyed Tryz.prog 38 := Go.Maps.int_keyed Tryz.underlying38
/-- a record's place -/
structure Pc where
  key : Nat
  at_ : Nat
  n : Nat
  cook : Nat
  dead : Bool
deriving DecidableEq
def pcC (p : Pc) : List Value := [.int .u64 (p.key : Int), .int .i64 (p.at_ : Int), .int .i64 (p.n : Int), .int .u32 (p.cook : Int), .bool p.dead]
theorem pcC_len (p : Pc) : (pcC p).length = 5 := rfl
def encK (k : Nat) : Value := .int .u64 (k : Int)
theorem encK_inj : ∀ a b : Nat, encK a = encK b → a = b := fun a b h => by simp only [encK, Value.int.injEq] at h; omega
def pcV (p : Pc) : Value := .agg (pcC p).toArray
def pcE (p : Pc) : Value × Value := (encK p.key, pcV p)
def getP (ps : List Pc) (k : Nat) : Option Pc := getA Pc.key ps k
def putP (ps : List Pc) (p : Pc) : List Pc := putA Pc.key ps p
def NdP (ps : List Pc) : Prop := (ps.map Pc.key).Nodup
def pcOf (o : Option Pc) : Value := match o with
  | some p => pcV p
  | none => .agg #[.int .u64 0, .int .i64 0, .int .i64 0, .int .u32 0, .bool false]
/-- a needle is counted at its place -/
def layP (ps : List Pc) (p : Pc) : List Pc := match getP ps p.key with
  | none => putP ps p
  | some o => if p.dead = true ∧ o.dead = false then putP ps p else ps
theorem NdP.lay {ps : List Pc} (h : NdP ps) (p : Pc) : NdP (layP ps p) := by
  unfold layP
  split
  · exact putA_nd h p
  · split
    · exact putA_nd h p
    · exact h
theorem good64 {k : Nat} (h : k < 18446744073709551616) : Good Tryz.prog 38 (encK k) := good_int Tryz.underlying38 (by
  simp only [Lit.wf, IntKind.min, IntKind.max, IntKind.bits, IntKind.signed, Bool.and_eq_true, decide_eq_true_eq]
  simp; omega)
def volC (d : Nat) (id : Nat) (nm : ByteArray) (m : Nat) : List Value := [ptr d, .int .i64 (id : Int), .string nm, .map (some m)]
section
variable {B : Nat} {w0 w : World} {L : List Res} (hL : Sep Tryz.prog B w0 w L)
include hL
theorem Rv.pcOk {K : Value → World → Prop} (n : Nat) {m : Nat} {ps : List Pc} {k : Nat} (hn : L[n]? = some (.mp 38 m (ps.map pcE))) (hnd : NdP ps) (hk64 : k < 18446744073709551616) (hk : K (.tuple #[pcOf (getP ps k), .bool (getP ps k).isSome]) w) :
    Rv Tryz.prog (Instr.lookup 98 (.map (some m)) (.int .u64 (k : Int)) true) w K := by
  refine Rv.seekOkS ttOk hL u64K n tl98 tl87 hn (good64 hk64) fun u ok hgot => ?_
  rcases got_assoc (key := Pc.key) (enc := encK) (val := pcV) encK_inj hnd hgot with ⟨a, h1, rfl, rfl⟩ | ⟨h1, rfl, rfl⟩
  · rw [getP, h1] at hk; exact hk
  · rw [getP, h1] at hk; exact hk
end
theorem Rq.pcOk {B : Nat} {w0 : World} {L : List Res} {C : World → Prop} (hc : ∀ x, C x → Sep Tryz.prog B w0 x L) {K : Value → Prop} (n : Nat) {m : Nat} {ps : List Pc} {k : Nat} (hn : L[n]? = some (.mp 38 m (ps.map pcE))) (hnd : NdP ps) (hk64 : k < 18446744073709551616) (hk : K (.tuple #[pcOf (getP ps k), .bool (getP ps k).isSome])) :
    Rq Tryz.prog C (Instr.lookup 98 (.map (some m)) (.int .u64 (k : Int)) true) K :=
  Rq.of_rv _ (fun x hx => Rv.pcOk (hc x hx) n hn hnd hk64 ⟨rfl, rfl⟩) hk
set_option maxHeartbeats 4000000 in
theorem vlay_fn {B v d id m : Nat} {nm : ByteArray} {ps : List Pc} {F : List Res} {w0 w : World} (p : Pc) (nv : Value) (hnd : NdP ps) (hk : p.key < 18446744073709551616)
    (hL : Sep Tryz.prog B w0 w (.blk v (volC d id nm m) 100 :: .mp 38 m (ps.map pcE) :: F)) (hB : B ≤ w.heap.size) :
    Fn Tryz.prog 60 #[ptr v, .agg (ndC p.key p.cook p.dead nv).toArray, .int .i64 (p.at_ : Int), .int .i64 (p.n : Int)] w fun r w' => Sep Tryz.prog B w0 w' (.blk v (volC d id nm m) 100 :: .mp 38 m ((layP ps p).map pcE) :: F) ∧ B ≤ w'.heap.size := by
  obtain ⟨key, at_, n, cook, dead⟩ := p
  dsimp only at *
  rw [ndC]
  have hlay : layP ps ⟨key, at_, n, cook, dead⟩ = match getP ps key with | none => putP ps ⟨key, at_, n, cook, dead⟩ | some o => if dead = true ∧ o.dead = false then putP ps ⟨key, at_, n, cook, dead⟩ else ps := rfl
  rw [volC] at hL ⊢
  have hput : ∀ {l' : List (Value × Value)}, Put (ps.map pcE) (encK key) (pcV ⟨key, at_, n, cook, dead⟩) l' → l' = (putP ps ⟨key, at_, n, cook, dead⟩).map pcE := fun h => put_assoc (key := Pc.key) (enc := encK) (val := pcV) (g := ⟨key, at_, n, cook, dead⟩) encK_inj hnd h
  cases hg : getP ps key with
  | none =>
    rw [hg] at hlay
    rw [show layP ps ⟨key, at_, n, cook, dead⟩ = putP ps ⟨key, at_, n, cook, dead⟩ from hlay]
    refine Fn.mk Tryz.func60 rfl (by kernel_rfl) Tryz.ntmps60 rfl (by rw [Tryz.results60]) ?_
    repeat (first | (refine RunH ?_; intro w hL hB; try clear w) | (refine Both.mk ?_ ?_ <;> conv => whnf) | fail)
    (refine Nw.sep hL hB (fun t5 w hL hB ht5 => ?_); conv => whnf)
    repeat (first | (refine RunK ?_; intro w hL hB; try clear w) | (refine V.treeA ttOk hL (.q 0 (.q 1 (.q 2 (.q 3 (.q 4 (.q 5 (.q 6 (.q 7 (.q 8 (.q 9 (.alt 10 (.alt 11 (.q 12 .nil) .stop) .stop))))))))))) mixed (by decide +kernel) ?_; replace hL := hL.drew; conv => whnf) | (refine V.tailA ttOk mixed (by decide +kernel) ?_; replace hL := hL.drew; conv => whnf) | (refine Both.mk ?_ ?_ <;> conv => whnf) | (refine Rq.pcOk (fun _ h => h) 2 rfl hnd hk ?_; rw [hg]; conv => whnf) | (refine Nw.sep hL hB (fun t8 w hL hB ht8 => ?_); conv => whnf) | fail)
    refine Ru.putS (v := pcV ⟨key, at_, n, cook, dead⟩) ttOk hL u64K 3 tl98 rfl (good64 hk) hB (fun w l' hp hL hB => ?_)
    obtain rfl := hput hp
    conv => whnf
    repeat (first | (refine RunH ?_; intro w hL hB; try clear w) | (refine Both.mk ?_ ?_ <;> conv => whnf) | fail)
    exact hB
  | some o =>
    obtain ⟨ok, oa, on, oc, od⟩ := o
    rw [hg] at hlay
    dsimp only at hlay
    by_cases hc : dead = true ∧ od = false
    · obtain ⟨rfl, rfl⟩ := hc
      rw [if_pos ⟨rfl, rfl⟩] at hlay
      rw [hlay]
      refine Fn.mk Tryz.func60 rfl (by kernel_rfl) Tryz.ntmps60 rfl (by rw [Tryz.results60]) ?_
      repeat (first | (refine RunH ?_; intro w hL hB; try clear w) | (refine Both.mk ?_ ?_ <;> conv => whnf) | fail)
      (refine Nw.sep hL hB (fun t5 w hL hB ht5 => ?_); conv => whnf)
      repeat (first | (refine RunK ?_; intro w hL hB; try clear w) | (refine V.treeA ttOk hL (.q 0 (.q 1 (.q 2 (.q 3 (.q 4 (.q 5 (.q 6 (.q 7 (.q 8 (.q 9 (.alt 10 (.alt 11 (.q 12 .nil) .stop) .stop))))))))))) mixed (by decide +kernel) ?_; replace hL := hL.drew; conv => whnf) | (refine V.tailA ttOk mixed (by decide +kernel) ?_; replace hL := hL.drew; conv => whnf) | (refine Both.mk ?_ ?_ <;> conv => whnf) | (refine Rq.pcOk (fun _ h => h) 2 rfl hnd hk ?_; rw [hg]; conv => whnf) | (refine Nw.sep hL hB (fun t8 w hL hB ht8 => ?_); conv => whnf) | fail)
      refine Ru.putS (v := pcV ⟨key, at_, n, cook, true⟩) ttOk hL u64K 3 tl98 rfl (good64 hk) hB (fun w l' hp hL hB => ?_)
      obtain rfl := hput hp
      conv => whnf
      repeat (first | (refine RunH ?_; intro w hL hB; try clear w) | (refine Both.mk ?_ ?_ <;> conv => whnf) | fail)
      exact hB
    rw [if_neg hc] at hlay
    rw [hlay]
    cases dead with
    | false =>
      refine Fn.mk Tryz.func60 rfl (by kernel_rfl) Tryz.ntmps60 rfl (by rw [Tryz.results60]) ?_
      repeat (first | (refine RunH ?_; intro w hL hB; try clear w) | (refine Both.mk ?_ ?_ <;> conv => whnf) | fail)
      (refine Nw.sep hL hB (fun t5 w hL hB ht5 => ?_); conv => whnf)
      repeat (first | (refine RunK ?_; intro w hL hB; try clear w) | (refine V.treeA ttOk hL (.q 0 (.q 1 (.q 2 (.q 3 (.q 4 (.q 5 (.q 6 (.q 7 (.q 8 (.q 9 (.alt 10 (.alt 11 (.q 12 .nil) .stop) .stop))))))))))) mixed (by decide +kernel) ?_; replace hL := hL.drew; conv => whnf) | (refine V.tailA ttOk mixed (by decide +kernel) ?_; replace hL := hL.drew; conv => whnf) | (refine Both.mk ?_ ?_ <;> conv => whnf) | (refine Rq.pcOk (fun _ h => h) 2 rfl hnd hk ?_; rw [hg]; conv => whnf) | (refine Nw.sep hL hB (fun t8 w hL hB ht8 => ?_); conv => whnf) | fail)
      exact hB
    | true =>
      obtain rfl : od = true := by cases od; exact absurd ⟨rfl, rfl⟩ hc; rfl
      refine Fn.mk Tryz.func60 rfl (by kernel_rfl) Tryz.ntmps60 rfl (by rw [Tryz.results60]) ?_
      repeat (first | (refine RunH ?_; intro w hL hB; try clear w) | (refine Both.mk ?_ ?_ <;> conv => whnf) | fail)
      (refine Nw.sep hL hB (fun t5 w hL hB ht5 => ?_); conv => whnf)
      repeat (first | (refine RunK ?_; intro w hL hB; try clear w) | (refine V.treeA ttOk hL (.q 0 (.q 1 (.q 2 (.q 3 (.q 4 (.q 5 (.q 6 (.q 7 (.q 8 (.q 9 (.alt 10 (.alt 11 (.q 12 .nil) .stop) .stop))))))))))) mixed (by decide +kernel) ?_; replace hL := hL.drew; conv => whnf) | (refine V.tailA ttOk mixed (by decide +kernel) ?_; replace hL := hL.drew; conv => whnf) | (refine Both.mk ?_ ?_ <;> conv => whnf) | (refine Rq.pcOk (fun _ h => h) 2 rfl hnd hk ?_; rw [hg]; conv => whnf) | (refine Nw.sep hL hB (fun t8 w hL hB ht8 => ?_); conv => whnf) | fail)
      exact hB
end Go.Proofs.YtladfadcgfdbfaaGreatDoor
namespace Go.Proofs.YtladfadcgfdbfaaGreatDoor
open Go.RowKit
open Go.Maps (Keyed)
set_option linter.unusedVariables false
set_option linter.unusedSimpArgs false
set_option maxRecDepth 100000
def vhd (id : Nat) : List UInt8 := [103, 118, 1, 0] ++ putB id 4
theorem vhd_len (id : Nat) : (vhd id).length = 8 := by simp [vhd, putB_len]
set_option maxHeartbeats 2000000 in
theorem vhead_fn (id : Nat) (hid : id ≤ 99999999) (w0 : World) : Fn Tryz.prog 43 #[.int .i64 (id : Int)] w0 fun r w' => r = .agg (bv (vhd id)).toArray ∧ Below w0.heap.size w0 w' := by
  have hL := Sep.start Tryz.prog w0
  have hB := Nat.le_refl w0.heap.size
  have e8 := vhd_len id
  have ehd : vhd id = [103, 118, 1, 0] ++ putB id 4 := rfl
  generalize vhd id = G at *
  refine Fn.mk Tryz.func43 rfl (by kernel_rfl) Tryz.ntmps43 rfl (by rw [Tryz.results43]) ?_
  repeat (first | (refine RunH ?_; intro w hL hB; try clear w) | (refine Both.mk ?_ ?_ <;> conv => whnf) | fail)
  (refine Nw.sep hL hB (fun t2 w hL hB ht2 => ?_); conv => whnf)
  repeat (first | (refine RunH ?_; intro w hL hB; try clear w) | (refine Both.mk ?_ ?_ <;> conv => whnf) | fail)
  refine Qv.arr (cells := #[.int .u8 103, .int .u8 118, .int .u8 1, .int .u8 0, .int .u8 0, .int .u8 0, .int .u8 0, .int .u8 0]) ttOk tl101 tl5 rfl ?_
  conv => whnf
  (refine Nw.sep hL hB (fun t3 w hL hB ht3 => ?_); conv => whnf)
  repeat (first | (refine RunH ?_; intro w hL hB; try clear w) | (refine Both.mk ?_ ?_ <;> conv => whnf) | fail)
  replace hL := hL.saidN 0 rfl (R' := .blk t3 (bv ([103, 118, 1, 0] ++ List.replicate 4 0)) 101) (hL.at (i := 0) rfl) rfl
  dsimp only [List.set] at hL
  repeat (first | (refine RunK ?_; intro w hL hB; try clear w) | (refine V.treeS ttOk hL 0 (b := t3) rfl (.q 0 (.q 1 (.q 2 (.alt 3 (.alt 4 .nil .stop) .stop)))) mixed (by decide +kernel) ?_; replace hL := hL.drew; conv => whnf) | (refine V.treeS ttOk hL 1 (b := t3) rfl (.q 0 (.q 1 (.q 2 (.alt 3 (.alt 4 .nil .stop) .stop)))) mixed (by decide +kernel) ?_; replace hL := hL.drew; conv => whnf) | (refine V.treeS ttOk hL 2 (b := t3) rfl (.q 0 (.q 1 (.q 2 (.alt 3 (.alt 4 .nil .stop) .stop)))) mixed (by decide +kernel) ?_; replace hL := hL.drew; conv => whnf) | (refine V.treeS ttOk hL 3 (b := t3) rfl (.q 0 (.q 1 (.q 2 (.alt 3 (.alt 4 .nil .stop) .stop)))) mixed (by decide +kernel) ?_; replace hL := hL.drew; conv => whnf) | (refine V.treeS ttOk hL 4 (b := t3) rfl (.q 0 (.q 1 (.q 2 (.alt 3 (.alt 4 .nil .stop) .stop)))) mixed (by decide +kernel) ?_; replace hL := hL.drew; conv => whnf) | (refine V.tailA ttOk mixed (by decide +kernel) ?_; replace hL := hL.drew; conv => whnf) | (refine Both.mk ?_ ?_ <;> conv => whnf) | fail)
  intro o1 n1 c1 z1 z2 z3 z4
  obtain ⟨rfl, rfl, rfl⟩ : o1 = 4 ∧ n1 = 4 ∧ c1 = 4 := by omega
  conv => whnf
  repeat (first | (refine RunH ?_; intro w hL hB; try clear w) | (refine Both.mk ?_ ?_ <;> conv => whnf) | fail)
  refine (put32m id (by omega) _).mono fun r w ⟨ho, hw⟩ => ?_
  replace hL := hL.addRow hB hw ho
  replace hB := Nat.le_trans hB hw.size
  obtain ⟨ra, rc, rfl⟩ := (show SlN w 1 r _ _ from hL.rowN (i := 0) rfl).shape
  rw [putB_len]
  conv => whnf
  repeat (first | (refine RunH ?_; intro w hL hB; try clear w) | (refine Both.mk ?_ ?_ <;> conv => whnf) | fail)
  refine Rv.copyB ttOk hL 1 tl40 tl5 rfl (by have := hL.row (i := 0) rfl; rwa [putB_len] at this) (bv_one _) (by simp) hB fun w hL hB => ?_
  dsimp only [List.set] at hL
  rw [List.take_of_length_le (by simp [putB_len]), splice_tail _ _ 4 0 4 rfl (by simp [putB_len]), List.replicate_zero, List.append_nil, ← ehd] at hL
  replace hL := hL.tl
  conv => whnf
  repeat (first | (refine RunH ?_; intro w hL hB; try clear w) | (refine Both.mk ?_ ?_ <;> conv => whnf) | fail)
  refine Ld.blkW ttOk hL 0 tl101 rfl rfl (by rw [bv_length]; exact e8) ?_
  conv => whnf
  repeat (first | (refine RunH ?_; intro w hL hB; try clear w) | (refine Both.mk ?_ ?_ <;> conv => whnf) | fail)
  refine St.blkW ttOk hL 1 tl101 (by rw [bv_length]; exact e8) (bv_one _) rfl (by rw [bv_length, e8]; rfl) hB fun w hL hB => ?_
  dsimp only [List.set] at hL
  conv => whnf
  repeat (first | (refine RunH ?_; intro w hL hB; try clear w) | (refine Both.mk ?_ ?_ <;> conv => whnf) | fail)
  refine Ld.blkW ttOk hL 1 tl101 rfl rfl (by rw [bv_length]; exact e8) ?_
  conv => whnf
  exact ⟨rfl, hL.below⟩
theorem delS_none : ∀ {S : List Fl} {nm : ByteArray}, getS S nm = none → delS S nm = S
  | [], _, _ => rfl
  | f :: S, nm, h => by
    unfold getS at h
    split at h
    · cases h
    · rename_i hn
      unfold delS
      rw [if_neg hn, delS_none h]
def szS (S : List Fl) (nm : ByteArray) : Nat := match getS S nm with
  | some f => f.d.length
  | none => 0
/-- Name tells this, in every world that is older than B as w0 is -/
def NameIn (B : Nat) (w0 : World) (id : Nat) (nm : ByteArray) : Prop := (id ≤ 99999999 ∧ 1 ≤ nm.size ∧ nm.size ≤ 64) ∧ ∀ (w : World) (L : List Res), Sep Tryz.prog B w0 w L → B ≤ w.heap.size → Fn Tryz.prog 20 #[.int .i64 (id : Int)] w fun r w' => r = .string nm ∧ Below w.heap.size w w'
theorem nameIs {B : Nat} {w0 : World} (i : Nat) (hi : i = 1 ∨ i = 3 ∨ i = 5 ∨ i = 7) : NameIn B w0 i (vnm i) :=
  ⟨⟨by omega, by rcases hi with rfl | rfl | rfl | rfl <;> decide, by rcases hi with rfl | rfl | rfl | rfl <;> decide⟩, fun w L _ _ => (vname_fn i hi w).mono fun r w' ⟨h1, h2⟩ => by subst h2; exact ⟨h1, Below.refl _ _⟩⟩
section
variable {B d v m room id : Nat} {nm : ByteArray} {S : List Fl} {F : List Res} {w0 w : World}
theorem begins_fn (hn : NameIn B w0 id nm) (hL : Sep Tryz.prog B w0 w F) (hB : B ≤ w.heap.size) :
    Fn Tryz.prog 42 #[ptr d, .int .i64 (id : Int)] w fun r w' => ∃ v m, r = ptr v ∧ Sep Tryz.prog B w0 w' (.blk v (volC d id nm m) 100 :: .mp 38 m (([] : List Pc).map pcE) :: F) ∧ B ≤ w'.heap.size := by
  refine Fn.mk Tryz.func42 rfl (by kernel_rfl) Tryz.ntmps42 rfl (by rw [Tryz.results42]) ?_
  repeat (first | (refine RunH ?_; intro w hL hB; try clear w) | (refine Both.mk ?_ ?_ <;> conv => whnf) | fail)
  refine (hn.2 _ _ hL hB).mono fun r w ⟨hr, hw⟩ => ?_
  subst hr
  replace hL := hL.call hB (Turns.of_below hw)
  replace hB := Nat.le_trans hB hw.size
  conv => whnf
  repeat (first | (refine RunH ?_; intro w hL hB; try clear w) | (refine Both.mk ?_ ?_ <;> conv => whnf) | fail)
  refine Nw.sepM hL 38 hB fun m w hL hB _ => ?_
  conv => whnf
  repeat (first | (refine RunH ?_; intro w hL hB; try clear w) | (refine Both.mk ?_ ?_ <;> conv => whnf) | fail)
  (refine Nw.sep hL hB (fun b w hL hB hb => ?_); conv => whnf)
  repeat (first | (refine RunH ?_; intro w hL hB; try clear w) | (refine Both.mk ?_ ?_ <;> conv => whnf) | fail)
  exact ⟨b, m, rfl, hL, hB⟩
theorem vsize_fn (hn : nm.size ≤ 1000000) (hD : DkS B w0 w d room S (.blk v (volC d id nm m) 100 :: F)) :
    Fn Tryz.prog 25 #[ptr v] w fun r w' => r = .int .i64 (szS S nm : Nat) ∧ DkS B w0 w' d room S (.blk v (volC d id nm m) 100 :: F) := by
  obtain ⟨dL, hL, hB, close⟩ := hD.open
  clear hD
  rw [volC] at *
  refine Fn.mk Tryz.func25 rfl (by kernel_rfl) Tryz.ntmps25 rfl (by rw [Tryz.results25]) ?_
  repeat (first | (refine RunK ?_; intro w hL hB; try clear w) | (refine V.tree ttOk (fun x0 => Sep Tryz.prog _ w0 x0 (.blk v [ptr d, .int .i64 (id : Int), .string nm, .map (some m)] 100 :: [])) (.q 0 (.q 1 (.q 2 (.q 3 (.q 4 (.q 5 (.q 6 (.q 7 (.alt 8 (.q 9 (.q 10 (.q 11 (.q 12 (.q 13 .nil))))) .stop))))))))) mixed (by decide +kernel) (hL.drew.sub (.cons_cons _ (List.nil_sublist _))) ?_; replace hL := hL.drew; conv => whnf) | (refine V.tailA ttOk mixed (by decide +kernel) ?_; replace hL := hL.drew; conv => whnf) | (refine Both.mk ?_ ?_ <;> conv => whnf) | fail)
  refine (size_fn nm hn (close (F' := _ :: F) hL hB)).mono fun r w ⟨hr, hD⟩ => ?_
  subst hr
  obtain ⟨dL, hL, hB, close⟩ := hD.open
  clear hD
  conv => whnf
  refine ⟨hL.sub (.cons_cons _ (List.nil_sublist _)), ?_⟩
  conv => whnf
  repeat (first | (refine RunH ?_; intro w hL hB; try clear w) | (refine Both.mk ?_ ?_ <;> conv => whnf) | fail)
  exact ⟨rfl, close (F' := _ :: F) hL hB⟩
set_option maxHeartbeats 2000000 in
theorem create_fn (hn : NameIn B w0 id nm) (hD : DkS B w0 w d room S F) :
    Fn Tryz.prog 14 #[ptr d, .int .i64 (id : Int)] w fun r w' =>
      ((getS S nm).isSome = true → r = .tuple #[.pointer none, .int .i64 8] ∧ DkS B w0 w' d room S F) ∧
      ((getS S nm).isSome = false → appE room S nm 8 ≠ 0 → r = .tuple #[.pointer none, .int .i64 (appE room S nm 8 : Nat)] ∧ DkS B w0 w' d room S F) ∧
      ((getS S nm).isSome = false → appE room S nm 8 = 0 → ∃ v m, r = .tuple #[ptr v, .int .i64 0] ∧ DkS B w0 w' d room (syncS (appS room S nm (vhd id)) nm) (.blk v (volC d id nm m) 100 :: .mp 38 m (([] : List Pc).map pcE) :: F)) := by
  have h8 := vhd_len id
  have hnn := hn.1
  have hn6 : nm.size ≤ 1000000 := by omega
  have hid := isID_fn (id : Int)
  rw [decide_eq_true (by omega)] at hid
  have hvh := vhead_fn id hnn.1
  generalize vhd id = G at *
  obtain ⟨dL, hL, hB, close⟩ := hD.open
  clear hD
  refine Fn.mk Tryz.func14 rfl (by kernel_rfl) Tryz.ntmps14 rfl (by rw [Tryz.results14]) ?_
  repeat (first | (refine RunH ?_; intro w hL hB; try clear w) | (refine Both.mk ?_ ?_ <;> conv => whnf) | fail)
  refine (hid _).mono fun r w' ⟨hr, hw⟩ => ?_
  subst hr; subst hw
  conv => whnf
  repeat (first | (refine RunH ?_; intro w hL hB; try clear w) | (refine Both.mk ?_ ?_ <;> conv => whnf) | fail)
  refine (begins_fn hn hL hB).mono fun r w ⟨v, m, hr, hL, hB⟩ => ?_
  subst hr
  rw [volC] at hL
  conv => whnf
  repeat (first | (refine RunH ?_; intro w hL hB; try clear w) | (refine Both.mk ?_ ?_ <;> conv => whnf) | fail)
  refine (size_fn nm hn6 (close (F' := _ :: _ :: F) hL hB)).mono fun r w ⟨hr, hD⟩ => ?_
  subst hr
  obtain ⟨dL, hL, hB, close⟩ := hD.open
  clear hD
  cases hg : getS S nm with
  | some f =>
    conv => whnf
    repeat (first | (refine RunH ?_; intro w hL hB; try clear w) | (refine Both.mk ?_ ?_ <;> conv => whnf) | fail)
    exact ⟨fun _ => ⟨rfl, close (F' := F) hL.tl.tl hB⟩, (fun h => by cases h), (fun h => by cases h)⟩
  | none =>
    conv => whnf
    repeat (first | (refine RunH ?_; intro w hL hB; try clear w) | (refine Both.mk ?_ ?_ <;> conv => whnf) | fail)
    refine (hvh _).mono fun r w ⟨hr, hw⟩ => ?_
    subst hr
    replace hL := hL.call hB (Turns.of_below hw)
    replace hB := Nat.le_trans hB hw.size
    conv => whnf
    (refine Nw.sep hL hB (fun t9 w hL hB ht9 => ?_); conv => whnf)
    repeat (first | (refine RunH ?_; intro w hL hB; try clear w) | (refine Both.mk ?_ ?_ <;> conv => whnf) | fail)
    refine St.blkW ttOk hL 0 tl101 (by rw [bv_length]; exact h8) (bv_one _) rfl (by rw [bv_length, h8]; rfl) hB fun w hL hB => ?_
    dsimp only [List.set] at hL
    conv => whnf
    repeat (first | (refine RunH ?_; intro w hL hB; try clear w) | (refine Both.mk ?_ ?_ <;> conv => whnf) | fail)
    intro n1 c1 z1 z2
    obtain ⟨rfl, rfl⟩ : n1 = 8 ∧ c1 = 8 := by omega
    conv => whnf
    repeat (first | (refine RunH ?_; intro w hL hB; try clear w) | (refine Both.mk ?_ ?_ <;> conv => whnf) | fail)
    refine (append_fn nm hn6 _ G (fun w' h => by
      have := sl_blk (o := 0) (n := 8) (c := 8) (h.blk (i := 0) rfl) (by rw [bv_length, h8]; decide) (by decide) (by decide)
      rwa [List.drop_zero, List.take_of_length_le (by rw [bv_length, h8]; decide)] at this) (close (F' := _ :: _ :: _ :: F) hL hB)).mono fun r w ⟨hr, hD⟩ => ?_
    rw [h8] at hr
    subst hr
    obtain ⟨dL, hL, hB, close⟩ := hD.open
    clear hD
    by_cases hE : appE room S nm 8 = 0
    case neg =>
      rw [show appS room S nm G = S from by rw [appS, h8, if_neg hE]] at close
      conv => whnf
      repeat (first | (refine RunH ?_; intro w hL hB; try clear w) | (refine Both.mk ?_ ?_ <;> conv => whnf) | (refine Br.yes (by simp; omega) ?_; conv => whnf) | fail)
      refine (remove_fn nm hn6 (close (F' := _ :: _ :: _ :: F) hL hB)).mono fun r w ⟨hr, hD⟩ => ?_
      rw [delS_none hg] at hD
      obtain ⟨dL, hL, hB, close⟩ := hD.open
      clear hD
      conv => whnf
      repeat (first | (refine RunH ?_; intro w hL hB; try clear w) | (refine Both.mk ?_ ?_ <;> conv => whnf) | fail)
      exact ⟨(fun h => by cases h), fun _ _ => ⟨rfl, close (F' := F) hL.tl.tl.tl hB⟩, fun _ h => absurd h hE⟩
    rw [hE]
    conv => whnf
    repeat (first | (refine RunH ?_; intro w hL hB; try clear w) | (refine Both.mk ?_ ?_ <;> conv => whnf) | fail)
    refine (sync_fn nm hn6 (close (F' := _ :: _ :: _ :: F) hL hB)).mono fun r w ⟨hr, hD⟩ => ?_
    obtain ⟨dL, hL, hB, close⟩ := hD.open
    clear hD
    conv => whnf
    repeat (first | (refine RunH ?_; intro w hL hB; try clear w) | (refine Both.mk ?_ ?_ <;> conv => whnf) | fail)
    exact ⟨(fun h => by cases h), fun _ h => absurd rfl h, fun _ _ => ⟨v, m, rfl, close (F' := _ :: _ :: F) hL.tl hB⟩⟩
end
end Go.Proofs.YtladfadcgfdbfaaGreatDoor
