/- slices.Sorted(maps.Keys(m)) at map[string][]string, laid at this translation by hand (the kit's program lays it by a command that a hand-in may not bear). Conditions: none. -/
import Derived.Shelf.SlIter.Sorted
import Derived.Shelf.SlIter.Keys
import Derived.Test.YtmeenhfclnkjhaaDoorProg
import Derived.Test.YtmeenhfclnkjhaaDoorShelf
namespace Go.Proofs
open Go.RowKit Go.Maps Go.Sort Go.Shelf
def Tryd.keysS_ren : Go.Shelf.Ren := ⟨fun | 6 => 45 | 8 => 69 | 9 => 70 | 11 => 89 | n => n, fun | 0 => 0 | 24 => 35 | 26 => 9 | 28 => 84 | 33 => 112 | n => n, fun | n => n⟩
theorem Tryd.keysS : Go.Proofs.SlLaysZ.n6 Tryd.prog Tryd.keysS_ren := {
  mixed := by kernel_rfl
  f6 := ⟨Tryd.f45.name, by kernel_rfl, Tryd.func45.trans (congrArg some (by kernel_rfl))⟩
  f8 := ⟨Tryd.f69.name, by kernel_rfl, Tryd.func69.trans (congrArg some (by kernel_rfl))⟩
  f11 := ⟨Tryd.f89.name, by kernel_rfl, Tryd.func89.trans (congrArg some (by kernel_rfl))⟩
  t0 := Tryd.underlying0
  a0 := Tryd.isAgg0
  z0 := Tryd.sizeOf0
  v0 := Tryd.zeroValue0
  t24 := Tryd.underlying35
  a24 := Tryd.isAgg35
  z24 := Tryd.sizeOf35
  v24 := Tryd.zeroValue35
  t26 := Tryd.underlying9
  a26 := Tryd.isAgg9
  z26 := Tryd.sizeOf9
  v26 := Tryd.zeroValue9
  t28 := Tryd.underlying84
  a28 := Tryd.isAgg84
  z28 := Tryd.sizeOf84
  v28 := Tryd.zeroValue84
  i26 := by kernel_rfl }
def Tryd.keysK_ren : Go.Shelf.Ren := ⟨fun | 7 => 46 | 10 => 71 | n => n, fun | 0 => 0 | 4 => 4 | 23 => 81 | 26 => 9 | 3 => 35 | 27 => 83 | 28 => 84 | 33 => 112 | n => n, fun | n => n⟩
theorem Tryd.keysK : Go.Proofs.SlLaysZ.n7 Tryd.prog Tryd.keysK_ren := {
  mixed := by kernel_rfl
  f7 := ⟨Tryd.f46.name, by kernel_rfl, Tryd.func46.trans (congrArg some (by kernel_rfl))⟩
  f10 := ⟨Tryd.f71.name, by kernel_rfl, Tryd.func71.trans (congrArg some (by kernel_rfl))⟩
  t0 := Tryd.underlying0
  a0 := Tryd.isAgg0
  z0 := Tryd.sizeOf0
  v0 := Tryd.zeroValue0
  t4 := Tryd.underlying4
  a4 := Tryd.isAgg4
  z4 := Tryd.sizeOf4
  v4 := Tryd.zeroValue4
  t23 := Tryd.underlying81
  a23 := Tryd.isAgg81
  z23 := Tryd.sizeOf81
  v23 := Tryd.zeroValue81
  t26 := Tryd.underlying9
  a26 := Tryd.isAgg9
  z26 := Tryd.sizeOf9
  v26 := Tryd.zeroValue9
  t27 := Tryd.underlying83
  a27 := Tryd.isAgg83
  z27 := Tryd.sizeOf83
  v27 := Tryd.zeroValue83
  t28 := Tryd.underlying84
  a28 := Tryd.isAgg84
  z28 := Tryd.sizeOf84
  v28 := Tryd.zeroValue84
  t33 := Tryd.underlying112
  a33 := Tryd.isAgg112
  z33 := Tryd.sizeOf112
  v33 := Tryd.zeroValue112 }
theorem Tryd.sortsK (m : Nat) : AnyZ.SortsIn Tryd.prog Tryd.keysS_ren Fence.wide m :=
  ⟨fun blk off cap ss W hH hblk hsz => callsIn_wide.2 (Tryd.slices_Sort_string blk off cap ss W hH hblk hsz),
   fun p cap W => callsIn_wide.2 (Tryd.slices_Sort_string_none p cap W)⟩
/-- maps.Keys at whatever map: a function value over one new block, which holds the map. -/
theorem Tryd.maps_Keys_k (mb : Option Nat) (W : World) : CallsIn Fence.wide 5 Tryd.prog 46 #[.map mb] W fun e w' => e = .returned (.func (.func 71) #[] #[.pointer (some ⟨W.heap.size, 0, none⟩)]) ∧ w' = W.alloc (.cells #[.map mb] 81) :=
  AnyZ.keys_in Tryd.keysK Fence.wide 5 trivial rfl mb W
set_option maxHeartbeats 1000000 in
/-- slices.Sorted at what maps.Keys handed back for a map that is not nil: a new slice of its keys, sorted; nothing that lay before has turned. -/
theorem Tryd.sorted_keys {H : Type} (b nn : Nat) (D0 : DataW H) (R : Value → Option (DataW H × List MemPlace)) (w : World) (hown : w.ownsMap Tryd.prog 9 R b nn D0) (hmax : Maps.size D0 ≤ maxLen) (hbytes : Maps.size D0 * 16 ≤ 140737488355328) :
    CallsIn Fence.wide 5 Tryd.prog 45 #[.func (.func 71) #[] #[.pointer (some ⟨w.heap.size, 0, none⟩)]] (w.alloc (.cells #[.map (some b)] 81)) fun e w' => ∃ (v : Value) (ss : List (List UInt8)), e = .returned v ∧ ss.Perm (strKeys D0) ∧
      w'.ownsRow (w.alloc (.cells #[.map (some b)] 81)).heap.size 9 1 v ss.length ((ss.mergeSort (fun x y => decide (x ≤ y))).map encStr) ∧ (v = .slice none 0 0 ↔ ss = []) ∧ Below (w.alloc (.cells #[.map (some b)] 81)).heap.size (w.alloc (.cells #[.map (some b)] 81)) w' := by
  have hbl := hown.lt
  have hseq : SeqGives Fence.wide 2 Tryd.prog 71 #[.pointer (some ⟨w.heap.size, 0, none⟩)] encStr (fun ss => ss.Perm (strKeys D0)) (Maps.size D0) (w.alloc (.cells #[.map (some b)] 81)) :=
    AnyZ.keys_gives (ρ := Tryd.keysK_ren) { Tryd.keysK with } Fence.wide _ trivial rfl (by omega) w.heap.size b nn D0 _ (by simp) (by simp) (by
      obtain ⟨es, clock, hb, Ft, hs, hD⟩ := hown
      exact ⟨es, clock, (Below.heap_alloc _ _ b hbl).trans hb, Ft, hs, hD⟩)
  exact AnyZ.sorted_in Tryd.keysS Fence.wide 5 trivial trivial trivial trivial rfl (by omega) (Tryd.sortsK _) (enters_of Tryd.func70 (by kernel_rfl) rfl) 71 #[.pointer (some ⟨w.heap.size, 0, none⟩)] trivial (enters_of Tryd.func71 (by kernel_rfl) rfl) _ _ hmax hbytes _ hseq
end Go.Proofs
