/- The library's slices.AppendSeq, Collect and Sorted at strings, laid at this translation by hand (the kit's plain tool leaves them out). Conditions: none. -/
import Derived.Shelf.SlIter.Sorted
import Derived.Test.YtnffcboelkkbmaaProg
namespace Go.Proofs
open Go.Shelf Go.RowKit
def Try.laysZ_ren : Go.Shelf.Ren := ⟨fun | 6 => 30 | 8 => 47 | 9 => 48 | 11 => 64 | n => n, fun | 0 => 0 | 24 => 22 | 26 => 9 | 28 => 53 | 33 => 30 | n => n, fun | n => n⟩
theorem Try.laysZ11 : Go.Proofs.SlLaysZ.n11 Try.prog Try.laysZ_ren := {
  mixed := by kernel_rfl
  f11 := ⟨Try.f64.name, by kernel_rfl, Try.func64.trans (congrArg some (by kernel_rfl))⟩
  t0 := Try.underlying0
  a0 := Try.isAgg0
  z0 := Try.sizeOf0
  v0 := Try.zeroValue0
  t24 := Try.underlying22
  a24 := Try.isAgg22
  z24 := Try.sizeOf22
  v24 := Try.zeroValue22
  t26 := Try.underlying9
  a26 := Try.isAgg9
  z26 := Try.sizeOf9
  v26 := Try.zeroValue9
  t28 := Try.underlying53
  a28 := Try.isAgg53
  z28 := Try.sizeOf53
  v28 := Try.zeroValue53
  i26 := by kernel_rfl }
end Go.Proofs
