/- The library's slices.Grow at strings, laid at this translation by hand. Conditions: none. -/
import Derived.Shelf.Spec.SlicesGrow
import Derived.Test.YtoiolepengcagaaProg
namespace Go.Proofs
open Go.Shelf Go.RowKit
def Try.laysGs_ren : Go.Shelf.Ren := ⟨fun | 4 => 32 | n => n, fun | 0 => 0 | 3 => 3 | 4 => 4 | 9 => 9 | 20 => 20 | 22 => 24 | 25 => 9 | n => n, fun | n => n⟩
theorem Try.laysGs : Go.Proofs.Lays8.n4 Try.prog Try.laysGs_ren := {
  mixed := by kernel_rfl
  f4 := ⟨Try.f32.name, by kernel_rfl, Try.func32.trans (congrArg some (by kernel_rfl))⟩
  t0 := Try.underlying0
  a0 := Try.isAgg0
  z0 := Try.sizeOf0
  v0 := Try.zeroValue0
  t3 := Try.underlying3
  a3 := Try.isAgg3
  z3 := Try.sizeOf3
  v3 := Try.zeroValue3
  t4 := Try.underlying4
  a4 := Try.isAgg4
  z4 := Try.sizeOf4
  v4 := Try.zeroValue4
  t9 := Try.underlying9
  a9 := Try.isAgg9
  z9 := Try.sizeOf9
  v9 := Try.zeroValue9
  t20 := Try.underlying20
  a20 := Try.isAgg20
  z20 := Try.sizeOf20
  v20 := Try.zeroValue20
  t22 := Try.underlying24
  a22 := Try.isAgg24
  z22 := Try.sizeOf24
  v22 := Try.zeroValue24 }
end Go.Proofs
