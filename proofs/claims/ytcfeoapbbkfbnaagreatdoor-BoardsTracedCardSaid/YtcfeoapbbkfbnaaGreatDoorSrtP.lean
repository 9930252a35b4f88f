/- The library's contracts at this program's numbers: one application each. No conditions beyond those of each contract. -/
import Derived.Shelf.SlGeneric
import Derived.Shelf.SlSortCmp.InsertionK
import Derived.Test.YtcfeoapbbkfbnaaGreatDoorProg
namespace Go.Proofs
open Go.Shelf
def Tryz.insP_ren : Go.Shelf.Ren := ⟨fun | 20 => 208 | n => n, fun | 24 => 106 | 22 => 33 | 3 => 3 | 25 => 197 | 4 => 4 | 0 => 0 | n => n, fun | n => n⟩
theorem Tryz.insP : Go.Proofs.SlLaysF0.n20 Tryz.prog Tryz.insP_ren := {
  mixed := by kernel_rfl
  f20 := ⟨Tryz.f208.name, by decide, Tryz.func208.trans (congrArg some (by kernel_rfl))⟩
  t0 := Tryz.underlying0
  a0 := Tryz.isAgg0
  z0 := Tryz.sizeOf0
  v0 := Tryz.zeroValue0
  t3 := Tryz.underlying3
  a3 := Tryz.isAgg3
  z3 := Tryz.sizeOf3
  v3 := Tryz.zeroValue3
  t4 := Tryz.underlying4
  a4 := Tryz.isAgg4
  z4 := Tryz.sizeOf4
  v4 := Tryz.zeroValue4
  t22 := Tryz.underlying33
  a22 := Tryz.isAgg33
  z22 := Tryz.sizeOf33
  v22 := Tryz.zeroValue33
  t25 := Tryz.underlying197
  a25 := Tryz.isAgg197
  z25 := Tryz.sizeOf197
  v25 := Tryz.zeroValue197 }
end Go.Proofs
