/- The library's slices.AppendSeq, Collect and Sorted at strings, laid at this translation by hand (the kit's plain tool leaves them out). Conditions: none. -/
import Derived.Shelf.SlIter.Sorted
import Derived.Test.YtlhhcgiifgkngaaDoorProg
namespace Go.Proofs
open Go.Shelf Go.RowKit
def Tryd.laysZ_ren : Go.Shelf.Ren := ⟨fun | 6 => 106 | 8 => 145 | 9 => 146 | 11 => 187 | n => n, fun | 0 => 0 | 24 => 22 | 26 => 9 | 28 => 144 | 33 => 80 | n => n, fun | n => n⟩
theorem Tryd.laysZ11 : Go.Proofs.SlLaysZ.n11 Tryd.prog Tryd.laysZ_ren := {
  mixed := by kernel_rfl
  f11 := ⟨Tryd.f187.name, by kernel_rfl, Tryd.func187.trans (congrArg some (by kernel_rfl))⟩
  t0 := Tryd.underlying0
  a0 := Tryd.isAgg0
  z0 := Tryd.sizeOf0
  v0 := Tryd.zeroValue0
  t24 := Tryd.underlying22
  a24 := Tryd.isAgg22
  z24 := Tryd.sizeOf22
  v24 := Tryd.zeroValue22
  t26 := Tryd.underlying9
  a26 := Tryd.isAgg9
  z26 := Tryd.sizeOf9
  v26 := Tryd.zeroValue9
  t28 := Tryd.underlying144
  a28 := Tryd.isAgg144
  z28 := Tryd.sizeOf144
  v28 := Tryd.zeroValue144
  i26 := by kernel_rfl }
end Go.Proofs
