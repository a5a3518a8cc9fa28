/- The library's slices.BinarySearch at strings, laid at this translation by hand. Conditions: none. -/
import Derived.Shelf.Spec.SearchS
import Derived.Test.YtlhhcgiifgkngaaDoorProg
namespace Go.Proofs
open Go.Shelf Go.RowKit
def Tryd.laysBs_ren : Go.Shelf.Ren := ⟨fun | 26 => 143 | 33 => 185 | 34 => 186 | 38 => 108 | n => n, fun | 0 => 0 | 3 => 3 | 4 => 4 | 9 => 9 | 24 => 22 | 40 => 173 | n => n, fun | n => n⟩
theorem Tryd.laysBs : Go.Proofs.Lays2.n26 Tryd.prog Tryd.laysBs_ren := {
  mixed := by kernel_rfl
  f26 := Tryd.func143.trans (congrArg some (by kernel_rfl))
  f33 := Tryd.func185.trans (congrArg some (by kernel_rfl))
  f34 := Tryd.func186.trans (congrArg some (by kernel_rfl))
  f38 := Tryd.func108.trans (congrArg some (by kernel_rfl))
  t0 := Tryd.underlying0
  a0 := Tryd.isAgg0
  z0 := Tryd.sizeOf0
  v0 := Tryd.zeroValue0
  t3 := Tryd.underlying3
  a3 := Tryd.isAgg3
  z3 := Tryd.sizeOf3
  v3 := Tryd.zeroValue3
  t4 := Tryd.underlying4
  a4 := Tryd.isAgg4
  z4 := Tryd.sizeOf4
  v4 := Tryd.zeroValue4
  t9 := Tryd.underlying9
  a9 := Tryd.isAgg9
  z9 := Tryd.sizeOf9
  v9 := Tryd.zeroValue9
  t24 := Tryd.underlying22
  a24 := Tryd.isAgg22
  z24 := Tryd.sizeOf22
  v24 := Tryd.zeroValue22
  t40 := Tryd.underlying173
  a40 := Tryd.isAgg173
  z40 := Tryd.sizeOf173
  v40 := Tryd.zeroValue173 }
end Go.Proofs
