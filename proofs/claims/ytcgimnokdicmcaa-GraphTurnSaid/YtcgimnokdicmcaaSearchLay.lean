/- The library's slices.BinarySearch at strings, laid at this translation by hand. Conditions: none. -/
import Derived.Shelf.Spec.SearchS
import Derived.Test.YtcgimnokdicmcaaProg
namespace Go.Proofs
open Go.Shelf Go.RowKit
def Try.laysBs_ren : Go.Shelf.Ren := ⟨fun | 26 => 25 | 33 => 36 | 34 => 37 | 38 => 34 | n => n, fun | 0 => 0 | 3 => 3 | 4 => 4 | 9 => 9 | 24 => 22 | 40 => 60 | n => n, fun | n => n⟩
theorem Try.laysBs : Go.Proofs.Lays2.n26 Try.prog Try.laysBs_ren := {
  mixed := by kernel_rfl
  f26 := Try.func25.trans (congrArg some (by kernel_rfl))
  f33 := Try.func36.trans (congrArg some (by kernel_rfl))
  f34 := Try.func37.trans (congrArg some (by kernel_rfl))
  f38 := Try.func34.trans (congrArg some (by kernel_rfl))
  t0 := Try.underlying0
  a0 := Try.isAgg0
  z0 := Try.sizeOf0
  v0 := Try.zeroValue0
  t3 := Try.underlying3
  a3 := Try.isAgg3
  z3 := Try.sizeOf3
  v3 := Try.zeroValue3
  t4 := Try.underlying4
  a4 := Try.isAgg4
  z4 := Try.sizeOf4
  v4 := Try.zeroValue4
  t9 := Try.underlying9
  a9 := Try.isAgg9
  z9 := Try.sizeOf9
  v9 := Try.zeroValue9
  t24 := Try.underlying22
  a24 := Try.isAgg22
  z24 := Try.sizeOf22
  v24 := Try.zeroValue22
  t40 := Try.underlying60
  a40 := Try.isAgg60
  z40 := Try.sizeOf60
  v40 := Try.zeroValue60 }
end Go.Proofs
