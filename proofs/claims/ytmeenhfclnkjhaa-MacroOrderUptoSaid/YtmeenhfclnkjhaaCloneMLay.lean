/- The library's slices.Clone at macros, laid at this translation by hand. Conditions: none. -/
import Derived.Shelf.SlicesE.Clone
import Derived.Test.YtmeenhfclnkjhaaProg
namespace Go.Proofs
open Go.Shelf Go.RowKit
def Try.laysCloneM_ren : Go.Shelf.Ren := ⟨fun | 41 => 10 | n => n, fun | 22 => 22 | 23 => 24 | 4 => 4 | n => n, fun | n => n⟩
theorem Try.laysCloneM : Go.Proofs.SlLaysE0.n41 Try.prog Try.laysCloneM_ren := {
  mixed := by kernel_rfl
  f41 := ⟨Try.f10.name, by kernel_rfl, Try.func10.trans (congrArg some (by kernel_rfl))⟩
  t4 := Try.underlying4
  a4 := Try.isAgg4
  z4 := Try.sizeOf4
  v4 := Try.zeroValue4
  t22 := Try.underlying22
  a22 := Try.isAgg22
  z22 := Try.sizeOf22
  v22 := Try.zeroValue22 }
end Go.Proofs
