/- volume: what it is in memory; lay, headOf, begins, Size. Nothing is claimed here. -/
import Derived.Test.YtpkealgeigpjpaaDoorNc
import Derived.Test.YtpkealgeigpjpaaDoorUn
import Derived.Test.YtpkealgeigpjpaaDoorSe
import Derived.Test.YtpkealgeigpjpaaDoorDh
namespace Go.Proofs.YtpkealgeigpjpaaDoor
open Go.RowKit
open Go.Maps (Keyed)
set_option linter.unusedVariables false
set_option linter.unusedSimpArgs false
set_option maxRecDepth 100000

theorem u64K : Keyed Tryd.prog 32 := Go.Maps.int_keyed Tryd.underlying32
/-- a record's place -/
structure Pc where
  key : Nat
  at_ : Nat
  n : Nat
  cook : Nat
  dead : Bool
deriving DecidableEq
def pcC (p : Pc) : List Value := [.int .u64 (p.key : Int), .int .i64 (p.at_ : Int), .int .i64 (p.n : Int), .int .u32 (p.cook : Int), .bool p.dead]
theorem pcC_len (p : Pc) : (pcC p).length = 5 := rfl
def encK (k : Nat) : Value := .int .u64 (k : Int)
theorem encK_inj : ∀ a b : Nat, encK a = encK b → a = b := fun a b h => by simp only [encK, Value.int.injEq] at h; omega
def pcV (p : Pc) : Value := .agg (pcC p).toArray
def pcE (p : Pc) : Value × Value := (encK p.key, pcV p)
def getP (ps : List Pc) (k : Nat) : Option Pc := getA Pc.key ps k
def putP (ps : List Pc) (p : Pc) : List Pc := putA Pc.key ps p
def NdP (ps : List Pc) : Prop := (ps.map Pc.key).Nodup
def pcOf (o : Option Pc) : Value := match o with
  | some p => pcV p
  | none => .agg #[.int .u64 0, .int .i64 0, .int .i64 0, .int .u32 0, .bool false]
/-- a needle is counted at its place -/
def layP (ps : List Pc) (p : Pc) : List Pc := match getP ps p.key with
  | none => putP ps p
  | some o => if p.dead = true ∧ o.dead = false then putP ps p else ps
theorem NdP.lay {ps : List Pc} (h : NdP ps) (p : Pc) : NdP (layP ps p) := by
  unfold layP
  split
  · exact putA_nd h p
  · split
    · exact putA_nd h p
    · exact h
theorem good64 {k : Nat} (h : k < 18446744073709551616) : Good Tryd.prog 32 (encK k) := good_int Tryd.underlying32 (by
  simp only [Lit.wf, IntKind.min, IntKind.max, IntKind.bits, IntKind.signed, Bool.and_eq_true, decide_eq_true_eq]
  simp; omega)
def volC (d : Nat) (id : Nat) (nm : ByteArray) (m : Nat) : List Value := [ptr d, .int .i64 (id : Int), .string nm, .map (some m)]
section
variable {B : Nat} {w0 w : World} {L : List Res} (hL : Sep Tryd.prog B w0 w L)
include hL
theorem Rv.pcOk {K : Value → World → Prop} (n : Nat) {m : Nat} {ps : List Pc} {k : Nat} (hn : L[n]? = some (.mp 32 m (ps.map pcE))) (hnd : NdP ps) (hk64 : k < 18446744073709551616) (hk : K (.tuple #[pcOf (getP ps k), .bool (getP ps k).isSome]) w) :
    Rv Tryd.prog (Instr.lookup 61 (.map (some m)) (.int .u64 (k : Int)) true) w K := by
  refine Rv.seekOkS ttOk hL u64K n tl61 tl70 hn (good64 hk64) fun u ok hgot => ?_
  rcases got_assoc (key := Pc.key) (enc := encK) (val := pcV) encK_inj hnd hgot with ⟨a, h1, rfl, rfl⟩ | ⟨h1, rfl, rfl⟩
  · rw [getP, h1] at hk; exact hk
  · rw [getP, h1] at hk; exact hk
end
theorem Rq.pcOk {B : Nat} {w0 : World} {L : List Res} {C : World → Prop} (hc : ∀ x, C x → Sep Tryd.prog B w0 x L) {K : Value → Prop} (n : Nat) {m : Nat} {ps : List Pc} {k : Nat} (hn : L[n]? = some (.mp 32 m (ps.map pcE))) (hnd : NdP ps) (hk64 : k < 18446744073709551616) (hk : K (.tuple #[pcOf (getP ps k), .bool (getP ps k).isSome])) :
    Rq Tryd.prog C (Instr.lookup 61 (.map (some m)) (.int .u64 (k : Int)) true) K :=
  Rq.of_rv _ (fun x hx => Rv.pcOk (hc x hx) n hn hnd hk64 ⟨rfl, rfl⟩) hk

set_option maxHeartbeats 4000000 in
theorem vlay_fn {B v d id m : Nat} {nm : ByteArray} {ps : List Pc} {F : List Res} {w0 w : World} (p : Pc) (nv : Value) (hnd : NdP ps) (hk : p.key < 18446744073709551616)
    (hL : Sep Tryd.prog B w0 w (.blk v (volC d id nm m) 63 :: .mp 32 m (ps.map pcE) :: F)) (hB : B ≤ w.heap.size) :
    Fn Tryd.prog 30 #[ptr v, .agg (ndC p.key p.cook p.dead nv).toArray, .int .i64 (p.at_ : Int), .int .i64 (p.n : Int)] w fun r w' => Sep Tryd.prog B w0 w' (.blk v (volC d id nm m) 63 :: .mp 32 m ((layP ps p).map pcE) :: F) ∧ B ≤ w'.heap.size := by
  obtain ⟨key, at_, n, cook, dead⟩ := p
  dsimp only at *
  rw [ndC]
  have hlay : layP ps ⟨key, at_, n, cook, dead⟩ = match getP ps key with | none => putP ps ⟨key, at_, n, cook, dead⟩ | some o => if dead = true ∧ o.dead = false then putP ps ⟨key, at_, n, cook, dead⟩ else ps := rfl
  rw [volC] at hL ⊢
  have hput : ∀ {l' : List (Value × Value)}, Put (ps.map pcE) (encK key) (pcV ⟨key, at_, n, cook, dead⟩) l' → l' = (putP ps ⟨key, at_, n, cook, dead⟩).map pcE := fun h => put_assoc (key := Pc.key) (enc := encK) (val := pcV) (g := ⟨key, at_, n, cook, dead⟩) encK_inj hnd h
  cases hg : getP ps key with
  | none =>
    rw [hg] at hlay
    rw [show layP ps ⟨key, at_, n, cook, dead⟩ = putP ps ⟨key, at_, n, cook, dead⟩ from hlay]
    refine Fn.mk Tryd.func30 rfl (by kernel_rfl) Tryd.ntmps30 rfl (by rw [Tryd.results30]) ?_
    repeat (first | (refine RunH ?_; intro w hL hB; try clear w) | (refine Both.mk ?_ ?_ <;> conv => whnf) | fail)
    (refine Nw.sep hL hB (fun t5 w hL hB ht5 => ?_); conv => whnf)
    repeat (first | (refine RunK ?_; intro w hL hB; try clear w) | (refine V.treeA ttOk hL (.q 0 (.q 1 (.q 2 (.q 3 (.q 4 (.q 5 (.q 6 (.q 7 (.q 8 (.q 9 (.alt 10 (.alt 11 (.q 12 .nil) .stop) .stop))))))))))) mixed (by decide +kernel) ?_; replace hL := hL.drew; conv => whnf) | (refine V.tailA ttOk mixed (by decide +kernel) ?_; replace hL := hL.drew; conv => whnf) | (refine Both.mk ?_ ?_ <;> conv => whnf) | (refine Rq.pcOk (fun _ h => h) 2 rfl hnd hk ?_; rw [hg]; conv => whnf) | (refine Nw.sep hL hB (fun t8 w hL hB ht8 => ?_); conv => whnf) | fail)
    refine Ru.putS (v := pcV ⟨key, at_, n, cook, dead⟩) ttOk hL u64K 3 tl61 rfl (good64 hk) hB (fun w l' hp hL hB => ?_)
    obtain rfl := hput hp
    conv => whnf
    repeat (first | (refine RunH ?_; intro w hL hB; try clear w) | (refine Both.mk ?_ ?_ <;> conv => whnf) | fail)
    exact hB
  | some o =>
    obtain ⟨ok, oa, on, oc, od⟩ := o
    rw [hg] at hlay
    dsimp only at hlay
    by_cases hc : dead = true ∧ od = false
    · obtain ⟨rfl, rfl⟩ := hc
      rw [if_pos ⟨rfl, rfl⟩] at hlay
      rw [hlay]
      refine Fn.mk Tryd.func30 rfl (by kernel_rfl) Tryd.ntmps30 rfl (by rw [Tryd.results30]) ?_
      repeat (first | (refine RunH ?_; intro w hL hB; try clear w) | (refine Both.mk ?_ ?_ <;> conv => whnf) | fail)
      (refine Nw.sep hL hB (fun t5 w hL hB ht5 => ?_); conv => whnf)
      repeat (first | (refine RunK ?_; intro w hL hB; try clear w) | (refine V.treeA ttOk hL (.q 0 (.q 1 (.q 2 (.q 3 (.q 4 (.q 5 (.q 6 (.q 7 (.q 8 (.q 9 (.alt 10 (.alt 11 (.q 12 .nil) .stop) .stop))))))))))) mixed (by decide +kernel) ?_; replace hL := hL.drew; conv => whnf) | (refine V.tailA ttOk mixed (by decide +kernel) ?_; replace hL := hL.drew; conv => whnf) | (refine Both.mk ?_ ?_ <;> conv => whnf) | (refine Rq.pcOk (fun _ h => h) 2 rfl hnd hk ?_; rw [hg]; conv => whnf) | (refine Nw.sep hL hB (fun t8 w hL hB ht8 => ?_); conv => whnf) | fail)
      refine Ru.putS (v := pcV ⟨key, at_, n, cook, true⟩) ttOk hL u64K 3 tl61 rfl (good64 hk) hB (fun w l' hp hL hB => ?_)
      obtain rfl := hput hp
      conv => whnf
      repeat (first | (refine RunH ?_; intro w hL hB; try clear w) | (refine Both.mk ?_ ?_ <;> conv => whnf) | fail)
      exact hB
    rw [if_neg hc] at hlay
    rw [hlay]
    cases dead with
    | false =>
      refine Fn.mk Tryd.func30 rfl (by kernel_rfl) Tryd.ntmps30 rfl (by rw [Tryd.results30]) ?_
      repeat (first | (refine RunH ?_; intro w hL hB; try clear w) | (refine Both.mk ?_ ?_ <;> conv => whnf) | fail)
      (refine Nw.sep hL hB (fun t5 w hL hB ht5 => ?_); conv => whnf)
      repeat (first | (refine RunK ?_; intro w hL hB; try clear w) | (refine V.treeA ttOk hL (.q 0 (.q 1 (.q 2 (.q 3 (.q 4 (.q 5 (.q 6 (.q 7 (.q 8 (.q 9 (.alt 10 (.alt 11 (.q 12 .nil) .stop) .stop))))))))))) mixed (by decide +kernel) ?_; replace hL := hL.drew; conv => whnf) | (refine V.tailA ttOk mixed (by decide +kernel) ?_; replace hL := hL.drew; conv => whnf) | (refine Both.mk ?_ ?_ <;> conv => whnf) | (refine Rq.pcOk (fun _ h => h) 2 rfl hnd hk ?_; rw [hg]; conv => whnf) | (refine Nw.sep hL hB (fun t8 w hL hB ht8 => ?_); conv => whnf) | fail)
      exact hB
    | true =>
      obtain rfl : od = true := by cases od; exact absurd ⟨rfl, rfl⟩ hc; rfl
      refine Fn.mk Tryd.func30 rfl (by kernel_rfl) Tryd.ntmps30 rfl (by rw [Tryd.results30]) ?_
      repeat (first | (refine RunH ?_; intro w hL hB; try clear w) | (refine Both.mk ?_ ?_ <;> conv => whnf) | fail)
      (refine Nw.sep hL hB (fun t5 w hL hB ht5 => ?_); conv => whnf)
      repeat (first | (refine RunK ?_; intro w hL hB; try clear w) | (refine V.treeA ttOk hL (.q 0 (.q 1 (.q 2 (.q 3 (.q 4 (.q 5 (.q 6 (.q 7 (.q 8 (.q 9 (.alt 10 (.alt 11 (.q 12 .nil) .stop) .stop))))))))))) mixed (by decide +kernel) ?_; replace hL := hL.drew; conv => whnf) | (refine V.tailA ttOk mixed (by decide +kernel) ?_; replace hL := hL.drew; conv => whnf) | (refine Both.mk ?_ ?_ <;> conv => whnf) | (refine Rq.pcOk (fun _ h => h) 2 rfl hnd hk ?_; rw [hg]; conv => whnf) | (refine Nw.sep hL hB (fun t8 w hL hB ht8 => ?_); conv => whnf) | fail)
      exact hB
end Go.Proofs.YtpkealgeigpjpaaDoor
