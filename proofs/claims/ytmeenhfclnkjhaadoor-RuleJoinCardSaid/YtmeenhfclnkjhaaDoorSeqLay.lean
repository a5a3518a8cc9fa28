/- The library's slices.AppendSeq, Collect and Sorted at strings, laid at this translation by hand (the kit's plain tool leaves them out). Conditions: none. -/
import Derived.Shelf.SlIter.Sorted
import Derived.Test.YtmeenhfclnkjhaaDoorProg
namespace Go.Proofs
open Go.Shelf Go.RowKit
def Tryd.laysZ_ren : Go.Shelf.Ren := ⟨fun | 6 => 45 | 8 => 69 | 9 => 70 | 11 => 89 | n => n, fun | 0 => 0 | 24 => 35 | 26 => 9 | 28 => 84 | 33 => 112 | n => n, fun | n => n⟩
theorem Tryd.laysZ11 : Go.Proofs.SlLaysZ.n11 Tryd.prog Tryd.laysZ_ren := {
  mixed := by kernel_rfl
  f11 := ⟨Tryd.f89.name, by kernel_rfl, Tryd.func89.trans (congrArg some (by kernel_rfl))⟩
  t0 := Tryd.underlying0
  a0 := Tryd.isAgg0
  z0 := Tryd.sizeOf0
  v0 := Tryd.zeroValue0
  t24 := Tryd.underlying35
  a24 := Tryd.isAgg35
  z24 := Tryd.sizeOf35
  v24 := Tryd.zeroValue35
  t26 := Tryd.underlying9
  a26 := Tryd.isAgg9
  z26 := Tryd.sizeOf9
  v26 := Tryd.zeroValue9
  t28 := Tryd.underlying84
  a28 := Tryd.isAgg84
  z28 := Tryd.sizeOf84
  v28 := Tryd.zeroValue84
  i26 := by kernel_rfl }
end Go.Proofs
