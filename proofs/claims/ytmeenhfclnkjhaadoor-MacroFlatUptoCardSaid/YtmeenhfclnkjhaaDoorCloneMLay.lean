/- The library's slices.Clone at macros, laid at this translation by hand. Conditions: none. -/
import Derived.Shelf.SlicesE.Clone
import Derived.Test.YtmeenhfclnkjhaaDoorProg
namespace Go.Proofs
open Go.Shelf Go.RowKit
def Tryd.laysCloneM_ren : Go.Shelf.Ren := ⟨fun | 41 => 10 | n => n, fun | 22 => 22 | 23 => 31 | 4 => 4 | n => n, fun | n => n⟩
theorem Tryd.laysCloneM : Go.Proofs.SlLaysE0.n41 Tryd.prog Tryd.laysCloneM_ren := {
  mixed := by kernel_rfl
  f41 := ⟨Tryd.f10.name, by kernel_rfl, Tryd.func10.trans (congrArg some (by kernel_rfl))⟩
  t4 := Tryd.underlying4
  a4 := Tryd.isAgg4
  z4 := Tryd.sizeOf4
  v4 := Tryd.zeroValue4
  t22 := Tryd.underlying22
  a22 := Tryd.isAgg22
  z22 := Tryd.sizeOf22
  v22 := Tryd.zeroValue22 }
end Go.Proofs
