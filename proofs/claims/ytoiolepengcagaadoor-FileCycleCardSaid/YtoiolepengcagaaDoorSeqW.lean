/- slices.AppendSeq over slices.Values at strings: the slice's strings, in a slice of the call's own. Conditions: the slice reads as listed. -/
import Derived.Test.YtoiolepengcagaaDoorValuesJ
import Derived.Test.YtoiolepengcagaaDoorSeqLay
import Derived.Test.YtoiolepengcagaaDoorStrs
namespace Go.Proofs.YtoiolepengcagaaDoor
open Go.RowKit Go.Shelf Go.Maps Go.Sort
theorem enc_bytes (s : ByteArray) : encStr s.data.toList = .string s := by cases s; simp [encStr]
theorem vs_all (zs : List ByteArray) (len : Nat) (h : zs.length = len) : vs_upto (fun j => zs[j]?.getD ByteArray.empty) len = zs := by rw [← h]; exact vs_upto_all zs
theorem enc_all (zs : List ByteArray) : (zs.map fun s : ByteArray => s.data.toList).map encStr = strsV zs := by
  unfold strsV; rw [List.map_map]; exact List.map_congr_left fun s _ => enc_bytes s
/-- the strings of a slice, collected into a slice of the call's own -/
def Coll (w : World) (zs : List ByteArray) (e : Ending) (w' : World) : Prop := ∃ v : Value, e = .returned v ∧ w'.ownsRow w.heap.size 9 1 v zs.length (strsV zs) ∧ Below w.heap.size w w'
end Go.Proofs.YtoiolepengcagaaDoor
