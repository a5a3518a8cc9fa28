/- A slice of the call's own whose elements take two cells, that the library has sorted. Conditions: none. -/
import Derived.Test.YtcgimnokdicmcaaSortG
import Derived.Test.YtcgimnokdicmcaaPairs
import Derived.Shelf.SlSortCmp.WholeK
namespace Go.Proofs.Ytcgimnokdicmcaa
open Go.Sort Go.Proofs Go.Shelf Go.RowKit
section
variable {α : Type} [Inhabited α] (f g : α → Value)
theorem flat2 (l : List α) : flatK (fun x => [f x, g x]) 2 l.toArray = (cells2 f g l).toArray := by
  apply Array.ext
  · simp [cells2_len]
  · intro t h1 h2
    have ht : t < l.length * 2 := by simpa using h1
    have hk : t / 2 < l.length := by omega
    obtain ⟨c1, c2⟩ := cells2_at f g (List.getElem?_eq_getElem hk)
    have e := get_flatK (fun x => [f x, g x]) 2 l.toArray t (by simpa using ht)
    rw [getElem!_pos _ t h1] at e
    rw [e]
    have e2 : l.toArray[t / 2]! = l[t / 2] := by simp [hk]
    rw [e2, List.getElem_toArray]
    have h3 : (cells2 f g l)[t]? = some (cells2 f g l)[t] := List.getElem?_eq_getElem (by rw [cells2_len]; exact ht)
    rcases Nat.mod_two_eq_zero_or_one t with h0 | h0
    · rw [show t / 2 * 2 = t by omega] at c1
      rw [c1] at h3
      injection h3 with h3
      rw [← h3, h0]; rfl
    · rw [show t / 2 * 2 + 1 = t by omega] at c2
      rw [c2] at h3
      injection h3 with h3
      rw [← h3, h0]; rfl
theorem holds2 {w : World} {b : Nat} {cur : Array Value} {e : TypeId} {ss : List α} (hb : w.heap[b]? = some (.cells cur e (0, 0))) (ht : cur.toList.take (ss.length * 2) = cells2 f g ss) :
    HoldsK (fun x => [f x, g x]) 2 w b 0 ss.toArray := by
  unfold HoldsK
  rw [flat2]
  exact holds_own (enc := id) hb (by rw [cells2_len, ht, List.map_id])
theorem grown2 {w : World} {b n : Nat} {os : Array Obj} (d : List α) : w.grownBy (sortWorldK (fun x => [f x, g x]) 2 w b 0 n d.toArray os) (some b) :=
  grown_sorted (enc := id) (n := n) (os := os) (flatK (fun x => [f x, g x]) 2 d.toArray)
theorem own2 {w : World} {base b cap n : Nat} {e : TypeId} {os : Array Obj} {cur : Array Value} {k : Nat} {ts : List α} (hl : ts.length = k) (hbase : base ≤ b) (hb : w.heap[b]? = some (.cells cur e (0, 0)))
    (h1 : k ≤ cap) (h2 : cap ≤ maxLen) (h3 : cur.size = cap * 2) :
    (sortWorldK (fun x => [f x, g x]) 2 w b 0 n ts.toArray os).ownsRow base e 2 (.slice (some ⟨b, 0, none⟩) k cap) k (cells2 f g ts) := by
  have hh := heap_sortedG (enc := id) (n := n) (os := os) (flatK (fun x => [f x, g x]) 2 ts.toArray) hb
  have ht := take_putG (enc := id) cur (cells2 f g ts) (by rw [cells2_len]; omega)
  rw [cells2_len, List.map_id, ← flat2] at ht
  exact ⟨by rw [cells2_len, hl], .inr ⟨b, cap, _, rfl, hbase, hh, h1, h2, by simp [putCells, h3], by rw [← hl]; exact ht⟩⟩
end
end Go.Proofs.Ytcgimnokdicmcaa
