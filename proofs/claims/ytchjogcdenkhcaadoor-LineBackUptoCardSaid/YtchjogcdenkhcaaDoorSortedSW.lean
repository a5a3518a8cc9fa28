/- slices.Collect, Sorted and Compact over slices.Values at strings. Conditions: the slice reads as listed. -/
import Derived.Test.YtchjogcdenkhcaaDoorSeqW
import Derived.Test.YtchjogcdenkhcaaDoorSortG
import Derived.Test.YtchjogcdenkhcaaDoorShelf
namespace Go.Proofs.YtchjogcdenkhcaaDoor
open Go.RowKit Go.Shelf Go.Maps Go.Sort
def byt (zs : List ByteArray) : List (List UInt8) := zs.map fun s : ByteArray => s.data.toList
theorem byt_enc (zs : List ByteArray) : (byt zs).map encStr = strsV zs := enc_all zs
theorem byt_len (zs : List ByteArray) : (byt zs).length = zs.length := List.length_map ..
theorem str_own {w : World} {base n : Nat} {v : Value} {xs : List Value} (h : w.ownsRow base 9 1 v n xs) : ∃ (g : Option Addr) (c : Nat), v = .slice g n c := by
  rcases h.2 with ⟨rfl, rfl⟩ | ⟨g, cap, _, rfl, _⟩
  · have := h.1
    simp at this
    subst this
    exact ⟨none, 0, rfl⟩
  · exact ⟨_, _, rfl⟩
theorem own_prefix {w : World} {base e n m g cap : Nat} {xs : List Value} (h : w.ownsRow base e 1 (.slice (some ⟨g, 0, none⟩) n cap) n xs) (hm : m ≤ n) : w.ownsRow base e 1 (.slice (some ⟨g, 0, none⟩) m cap) m (xs.take m) := by
  have hl : xs.length = n := by have := h.1; simpa using this
  rcases h.2 with ⟨hnil, _⟩ | ⟨g', cap', cur, hv, hbase, hb, h1, h2, h3, h4⟩
  · cases hnil
  · injection hv with e1 e2 e3
    injection e1 with e1
    injection e1 with e1
    subst e1 e3
    refine ⟨by rw [List.length_take]; omega, .inr ⟨g, cap, cur, rfl, hbase, hb, by omega, h2, h3, ?_⟩⟩
    rw [← h4, List.take_take]
    congr 1; omega
/-- the strings of a slice, sorted, in a slice of the call's own -/
def Srt (w : World) (zs : List ByteArray) (e : Ending) (w' : World) : Prop := ∃ (g : Option Addr) (c : Nat), e = .returned (.slice g zs.length c) ∧ w'.ownsRow w.heap.size 9 1 (.slice g zs.length c) zs.length (((byt zs).mergeSort fun x y => decide (x ≤ y)).map encStr) ∧ Below w.heap.size w w'
end Go.Proofs.YtchjogcdenkhcaaDoor
