/- The library's contracts at this program's numbers: one application each. No conditions beyond those of each contract. -/
import Derived.Shelf.SlGeneric
import Derived.Shelf.SlSorted.IsSorted
import Derived.Test.YtnmimagninhkkaaGreatDoorProg
namespace Go.Proofs
open Go.Shelf
def Tryz.isSortedI_ren : Go.Shelf.Ren := ⟨fun | 10 => 57 | 18 => 124 | 24 => 183 | n => n, fun | 22 => 22 | 24 => 3 | 4 => 4 | 3 => 3 | 0 => 0 | n => n, fun | n => n⟩
theorem Tryz.isSortedI : Go.Proofs.SlLaysO.n10 Tryz.prog Tryz.isSortedI_ren := {
  mixed := by kernel_rfl
  f10 := ⟨Tryz.f57.name, by decide, Tryz.func57.trans (congrArg some (by kernel_rfl))⟩
  f18 := ⟨Tryz.f124.name, by decide, Tryz.func124.trans (congrArg some (by kernel_rfl))⟩
  f24 := ⟨Tryz.f183.name, by decide, Tryz.func183.trans (congrArg some (by kernel_rfl))⟩
  t0 := Tryz.underlying0
  a0 := Tryz.isAgg0
  z0 := Tryz.sizeOf0
  v0 := Tryz.zeroValue0
  t3 := Tryz.underlying3
  a3 := Tryz.isAgg3
  z3 := Tryz.sizeOf3
  v3 := Tryz.zeroValue3
  t4 := Tryz.underlying4
  a4 := Tryz.isAgg4
  z4 := Tryz.sizeOf4
  v4 := Tryz.zeroValue4
  t22 := Tryz.underlying22
  a22 := Tryz.isAgg22
  z22 := Tryz.sizeOf22
  v22 := Tryz.zeroValue22
  t24 := Tryz.underlying3
  a24 := Tryz.isAgg3
  z24 := Tryz.sizeOf3
  v24 := Tryz.zeroValue3 }
end Go.Proofs
