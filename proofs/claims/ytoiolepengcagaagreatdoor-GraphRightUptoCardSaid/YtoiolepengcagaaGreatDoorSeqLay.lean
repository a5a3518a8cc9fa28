/- The library's slices.AppendSeq, Collect and Sorted at strings, laid at this translation by hand (the kit's plain tool leaves them out). Conditions: none. -/
import Derived.Shelf.SlIter.Sorted
import Derived.Test.YtoiolepengcagaaGreatDoorProg
namespace Go.Proofs
open Go.Shelf Go.RowKit
def Tryz.laysZ_ren : Go.Shelf.Ren := ⟨fun | 6 => 88 | 8 => 124 | 9 => 125 | 11 => 150 | n => n, fun | 0 => 0 | 24 => 23 | 26 => 9 | 28 => 159 | 33 => 36 | n => n, fun | n => n⟩
theorem Tryz.laysZ11 : Go.Proofs.SlLaysZ.n11 Tryz.prog Tryz.laysZ_ren := {
  mixed := by kernel_rfl
  f11 := ⟨Tryz.f150.name, by kernel_rfl, Tryz.func150.trans (congrArg some (by kernel_rfl))⟩
  t0 := Tryz.underlying0
  a0 := Tryz.isAgg0
  z0 := Tryz.sizeOf0
  v0 := Tryz.zeroValue0
  t24 := Tryz.underlying23
  a24 := Tryz.isAgg23
  z24 := Tryz.sizeOf23
  v24 := Tryz.zeroValue23
  t26 := Tryz.underlying9
  a26 := Tryz.isAgg9
  z26 := Tryz.sizeOf9
  v26 := Tryz.zeroValue9
  t28 := Tryz.underlying159
  a28 := Tryz.isAgg159
  z28 := Tryz.sizeOf159
  v28 := Tryz.zeroValue159
  i26 := by kernel_rfl }
end Go.Proofs
