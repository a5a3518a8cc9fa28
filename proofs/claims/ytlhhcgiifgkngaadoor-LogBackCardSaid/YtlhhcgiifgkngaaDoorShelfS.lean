/- The library's WriteString of a strings.Builder, laid at this translation by hand (the kit's tool leaves it out). Conditions: none. -/
import Derived.Shelf.Strings.BuilderK
import Derived.Shelf.Strings.Builder1
import Derived.Test.YtlhhcgiifgkngaaDoorProg
namespace Go.Proofs
open Go.Shelf Go.RowKit
def Tryd.lays166b_ren : Go.Shelf.Ren := ⟨fun | 166 => 94 | 240 => 137 | 276 => 183 | n => n, fun | 0 => 0 | 3 => 3 | 4 => 4 | 5 => 5 | 9 => 9 | 20 => 20 | 37 => 149 | 70 => 148 | 72 => 151 | 75 => 128 | 80 => 155 | 164 => 233 | n => n, fun | n => n⟩
theorem Tryd.lays166b : Go.Proofs.Lays.n166 Tryd.prog Tryd.lays166b_ren := {
  mixed := by kernel_rfl
  f166 := Tryd.func94.trans (congrArg some (by kernel_rfl))
  f240 := Tryd.func137.trans (congrArg some (by kernel_rfl))
  f276 := Tryd.func183.trans (congrArg some (by kernel_rfl))
  t0 := Tryd.underlying0
  a0 := Tryd.isAgg0
  z0 := Tryd.sizeOf0
  v0 := Tryd.zeroValue0
  t3 := Tryd.underlying3
  a3 := Tryd.isAgg3
  z3 := Tryd.sizeOf3
  v3 := Tryd.zeroValue3
  t4 := Tryd.underlying4
  a4 := Tryd.isAgg4
  z4 := Tryd.sizeOf4
  v4 := Tryd.zeroValue4
  t9 := Tryd.underlying9
  a9 := Tryd.isAgg9
  z9 := Tryd.sizeOf9
  v9 := Tryd.zeroValue9
  t20 := Tryd.underlying20
  a20 := Tryd.isAgg20
  z20 := Tryd.sizeOf20
  v20 := Tryd.zeroValue20
  t37 := Tryd.underlying149
  a37 := Tryd.isAgg149
  z37 := Tryd.sizeOf149
  v37 := Tryd.zeroValue149
  t70 := Tryd.underlying148
  a70 := Tryd.isAgg148
  z70 := Tryd.sizeOf148
  v70 := Tryd.zeroValue148
  t72 := Tryd.underlying151
  a72 := Tryd.isAgg151
  z72 := Tryd.sizeOf151
  v72 := Tryd.zeroValue151
  t75 := Tryd.underlying128
  a75 := Tryd.isAgg128
  z75 := Tryd.sizeOf128
  v75 := Tryd.zeroValue128
  t164 := Tryd.underlying233
  a164 := Tryd.isAgg233
  z164 := Tryd.sizeOf233
  v164 := Tryd.zeroValue233 }
theorem Tryd.Builder_Extra_166b : Builder.Extra Tryd.prog Tryd.lays166b_ren := {
  sizeBuilder := by kernel_rfl
  liesBuilder := by kernel_rfl
  t5 := Tryd.underlying5
  a5 := Tryd.isAgg5
  z5 := Tryd.sizeOf5
  v5 := Tryd.zeroValue5
  infoByte := by kernel_rfl
  cellsByte := by kernel_rfl
  sizeByte := by kernel_rfl
  neB5 := by decide }
theorem Tryd.Builder_WriteString_b (B b : Nat) (bs : List Value) (s : ByteArray) (w : World) (h : Lib.IsBuilderF 151 5 B b bs w) (hlen : bs.length + s.size ≤ 140737488355328) (hBw : B ≤ w.heap.size) :
    Calls Tryd.prog 94 #[.pointer (some ⟨b, 0, none⟩), .string s] w fun e w' => e = .returned (.tuple #[.int .i64 s.size, .nilIface]) ∧ (Lib.BuilderAtF 151 5 B b (.pointer (some ⟨b, 0, none⟩)) (bs ++ Lib.strCells s) w' ∧ Below B w w' ∧ Lib.OthersKept 5 (some b) w w') := Any.Builder_WriteString_k Tryd.lays166b Tryd.Builder_Extra_166b B b bs s w h hlen hBw
end Go.Proofs
