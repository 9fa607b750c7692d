/- A closure of the library, laid at this program. Nothing is claimed here. -/
import Derived.Shelf.Spec.TrailingZeros
import Derived.Test.YtlldgodjfpgbcaaDoorProg
namespace Go.Proofs
open Go.Shelf
def Tryd.ctzL_ren : Go.Shelf.Ren := ⟨fun | 29 => 59 | n => n, fun | 22 => 76 | 3 => 3 | 4 => 4 | 25 => 77 | 54 => 98 | 0 => 0 | 5 => 5 | n => n, fun | 1 => 0 | n => n⟩
theorem Tryd.ctzL : Go.Proofs.Lays7.n29 Tryd.prog Tryd.ctzL_ren := {
  mixed := by kernel_rfl
  f29 := Tryd.func59.trans (congrArg some (by kernel_rfl))
  t0 := Tryd.underlying0
  a0 := Tryd.isAgg0
  z0 := Tryd.sizeOf0
  v0 := Tryd.zeroValue0
  i0 := by kernel_rfl
  t3 := Tryd.underlying3
  a3 := Tryd.isAgg3
  z3 := Tryd.sizeOf3
  v3 := Tryd.zeroValue3
  i3 := by kernel_rfl
  t4 := Tryd.underlying4
  a4 := Tryd.isAgg4
  z4 := Tryd.sizeOf4
  v4 := Tryd.zeroValue4
  i4 := by kernel_rfl
  t5 := Tryd.underlying5
  a5 := Tryd.isAgg5
  z5 := Tryd.sizeOf5
  v5 := Tryd.zeroValue5
  i5 := by kernel_rfl
  t22 := Tryd.underlying76
  a22 := Tryd.isAgg76
  z22 := Tryd.sizeOf76
  v22 := Tryd.zeroValue76
  i22 := by kernel_rfl
  t25 := Tryd.underlying77
  a25 := Tryd.isAgg77
  z25 := Tryd.sizeOf77
  v25 := Tryd.zeroValue77
  i25 := by kernel_rfl
  t54 := Tryd.underlying98
  a54 := Tryd.isAgg98
  z54 := Tryd.sizeOf98
  g1 := by kernel_rfl }
end Go.Proofs
