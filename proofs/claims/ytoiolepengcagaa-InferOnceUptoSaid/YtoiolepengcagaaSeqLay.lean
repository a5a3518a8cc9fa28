/- The library's slices.AppendSeq, Collect and Sorted at strings, laid at this translation by hand (the kit's plain tool leaves them out). Conditions: none. -/
import Derived.Shelf.SlIter.Sorted
import Derived.Test.YtoiolepengcagaaProg
namespace Go.Proofs
open Go.Shelf Go.RowKit
def Try.laysZ_ren : Go.Shelf.Ren := ⟨fun | 6 => 22 | 8 => 35 | 9 => 36 | 11 => 45 | n => n, fun | 0 => 0 | 24 => 24 | 26 => 9 | 28 => 56 | 33 => 64 | n => n, fun | n => n⟩
theorem Try.laysZ11 : Go.Proofs.SlLaysZ.n11 Try.prog Try.laysZ_ren := {
  mixed := by kernel_rfl
  f11 := ⟨Try.f45.name, by kernel_rfl, Try.func45.trans (congrArg some (by kernel_rfl))⟩
  t0 := Try.underlying0
  a0 := Try.isAgg0
  z0 := Try.sizeOf0
  v0 := Try.zeroValue0
  t24 := Try.underlying24
  a24 := Try.isAgg24
  z24 := Try.sizeOf24
  v24 := Try.zeroValue24
  t26 := Try.underlying9
  a26 := Try.isAgg9
  z26 := Try.sizeOf9
  v26 := Try.zeroValue9
  t28 := Try.underlying56
  a28 := Try.isAgg56
  z28 := Try.sizeOf56
  v28 := Try.zeroValue56
  i26 := by kernel_rfl }
end Go.Proofs
