/- A closure of the library, laid at this program. Lowest bits, sets of shards, what a matrix is. Nothing is claimed here. -/
import Derived.Shelf.Spec.TrailingZeros
import Derived.Test.YtlldgodjfpgbcaaDoorProg
import Derived.Test.YtlldgodjfpgbcaaDoorK08
import Derived.Test.YtlldgodjfpgbcaaDoorK09
import Derived.Test.YtlldgodjfpgbcaaDoorK05
namespace Go.Proofs
open Go.Shelf
def Tryd.ctzL_ren : Go.Shelf.Ren := ⟨fun | 29 => 59 | n => n, fun | 22 => 76 | 3 => 3 | 4 => 4 | 25 => 77 | 54 => 98 | 0 => 0 | 5 => 5 | n => n, fun | 1 => 0 | n => n⟩
theorem Tryd.ctzL : Go.Proofs.Lays7.n29 Tryd.prog Tryd.ctzL_ren := {
  mixed := by kernel_rfl
  f29 := Tryd.func59.trans (congrArg some (by kernel_rfl))
  t0 := Tryd.underlying0
  a0 := Tryd.isAgg0
  z0 := Tryd.sizeOf0
  v0 := Tryd.zeroValue0
  i0 := by kernel_rfl
  t3 := Tryd.underlying3
  a3 := Tryd.isAgg3
  z3 := Tryd.sizeOf3
  v3 := Tryd.zeroValue3
  i3 := by kernel_rfl
  t4 := Tryd.underlying4
  a4 := Tryd.isAgg4
  z4 := Tryd.sizeOf4
  v4 := Tryd.zeroValue4
  i4 := by kernel_rfl
  t5 := Tryd.underlying5
  a5 := Tryd.isAgg5
  z5 := Tryd.sizeOf5
  v5 := Tryd.zeroValue5
  i5 := by kernel_rfl
  t22 := Tryd.underlying76
  a22 := Tryd.isAgg76
  z22 := Tryd.sizeOf76
  v22 := Tryd.zeroValue76
  i22 := by kernel_rfl
  t25 := Tryd.underlying77
  a25 := Tryd.isAgg77
  z25 := Tryd.sizeOf77
  v25 := Tryd.zeroValue77
  i25 := by kernel_rfl
  t54 := Tryd.underlying98
  a54 := Tryd.isAgg98
  z54 := Tryd.sizeOf98
  g1 := by kernel_rfl }
end Go.Proofs
namespace Go.Proofs.YtlldgodjfpgbcaaDoor
open Go.RowKit
set_option linter.unusedVariables false
set_option linter.unusedSimpArgs false
set_option maxRecDepth 100000

theorem Fn.of_calls {P : Program} {f : FuncId} {fn : Func} {args : Array Value} {w : World} {K : Value → World → Prop} (h1 : P.funcs[f]? = some fn) (h2 : (fn.name == "runtime.NumGoroutine") = false) (h3 : fn.body.isNone = false) (h : Calls P f args w fun e w' => ∃ v, e = .returned v ∧ K v w') : Fn P f args w K := ⟨⟨fn, h1, h2, h3⟩, h⟩
theorem tabAt_below {w0 w : World} {g : Nat} {tab : List Nat} (h : TabAt g tab w0) (hb : Below w0.heap.size w0 w) : TabAt g tab w := fun j hj => by
  have h1 := h j hj
  have hg : g < w0.heap.size := by
    simp only [World.cell?] at h1
    refine Classical.byContradiction fun hn => ?_
    rw [Array.getElem?_eq_none (by omega)] at h1
    simp at h1
  have h2 := hb.block g hg
  rw [← h1]
  simp only [World.cell?, h2]
theorem ctz_fn (x : Nat) (hx : x < 18446744073709551616) (w : World) (hT : TabAt 0 Go.Lib.deBruijn64tab w) : Fn Tryd.prog 59 #[.int .u64 (x : Int)] w fun r w' => r = .int .i64 (Go.Lib.ctz 64 x : Nat) ∧ w' = w :=
  Fn.of_calls Tryd.func59 (by decide +kernel) rfl ((Any7.bits_TrailingZeros64 Tryd.ctzL x hx w fun _ => hT).mono fun e w' ⟨h1, h2⟩ => ⟨_, h1, rfl, h2⟩)
theorem shr_bit (x i : Nat) : ((x / 2 ^ i) &&& 1) = if x.testBit i then 1 else 0 := by
  rw [Nat.and_one_is_mod, Nat.testBit_eq_decide_div_mod_eq]
  have : x / 2 ^ i % 2 < 2 := Nat.mod_lt _ (by decide)
  by_cases h : x / 2 ^ i % 2 = 1
  · simp [h]
  · simp [h]; omega
theorem has_fn (x i : Nat) (hx : x < 4294967296) (hi : i < 32) (w : World) : Fn Tryd.prog 55 #[.int .u32 (x : Int), .int .i64 (i : Int)] w fun r w' => r = .bool (x.testBit i) ∧ w' = w := by
  refine Fn.mk Tryd.func55 rfl (by kernel_rfl) Tryd.ntmps55 rfl (by rw [Tryd.results55]) ?_
  refine RunR ?_
  refine Shr.u32 x i (2 ^ i) rfl rfl (by omega) rfl ?_
  have h1 : x / 2 ^ i < 4294967296 := Nat.lt_of_le_of_lt (Nat.div_le_self _ _) hx
  refine Bt.and32 (x / 2 ^ i) 1 rfl rfl h1 (by decide) ?_
  rw [shr_bit]
  conv => whnf
  refine RunR ?_
  refine ⟨?_, rfl⟩
  cases x.testBit i <;> rfl
set_option maxHeartbeats 4000000 in
theorem isMatrix_fn (v : Value) (A : List (List UInt8)) (n : Nat) (h1 : 1 ≤ n) (h2 : n ≤ 64) (hl : A.length = n) (hr : ∀ l ∈ A, l.length = n) (w : World) (hs : SS w v A) : Fn Tryd.prog 58 #[v] w fun r w' => r = .bool true ∧ w' = w := by
  obtain ⟨cs, hcs, hci⟩ := hs.of
  have hcl := hci.len
  obtain ⟨a, cp, rfl⟩ := hcs.shape
  rw [hcl, hl] at hcs ⊢
  obtain ⟨b1, o1, rfl, hr1⟩ := hcs.addr (by omega)
  obtain ⟨u0, hu0, hs0⟩ := hci.get (List.getElem?_eq_getElem (show 0 < A.length by omega))
  have e0 : (A[0]'(by omega)).length = n := hr _ (List.getElem_mem _)
  obtain ⟨a0, c0, rfl⟩ := hs0.shape
  rw [bv_length, e0] at hu0 
  refine Fn.mk Tryd.func58 rfl (by kernel_rfl) Tryd.ntmps58 rfl (by rw [Tryd.results58]) ?_
  refine RunR ?_
  refine V.loop (α := Nat) (fun i => [(0, .slice (some ⟨b1, o1, none⟩) n cp), (13, .slice (some ⟨b1, o1, none⟩) n cp), (14, .int .i64 n), (15, .int .i64 i)])
    (fun i w' => i ≤ n ∧ w' = w) (fun i => n - i) 0 ⟨rfl, rfl, rfl, rfl, trivial⟩ ⟨by omega, rfl⟩ ?_
  rintro i w2 ⟨hi, rfl⟩
  refine RunR ?_
  refine Br.dec (fun h => ?_) (fun h => ?_)
  · have hil : i < A.length := by omega
    obtain ⟨ui, hui, hsi⟩ := hci.get (List.getElem?_eq_getElem hil)
    have ei : A[i].length = n := hr _ (List.getElem_mem _)
    obtain ⟨ai, ci, rfl⟩ := hsi.shape
    rw [bv_length, ei] at hui
    refine RunR ?_
    intro o' ho'
    conv => whnf
    refine Ld.one ttOk tl22 rfl (hr1.at hui (by omega)) ?_
    conv => whnf
    refine RunR ?_
    intro o4 ho4
    conv => whnf
    refine Ld.one ttOk tl22 rfl (hr1.at hu0 (by omega)) ?_
    conv => whnf
    refine RunR ?_
    exact ⟨i + 1, ⟨rfl, rfl, rfl, rfl, trivial⟩, ⟨by omega, rfl⟩, (by first | omega | (dsimp only; omega))⟩
  · refine RunR ?_
    exact ⟨rfl, rfl⟩
end Go.Proofs.YtlldgodjfpgbcaaDoor
