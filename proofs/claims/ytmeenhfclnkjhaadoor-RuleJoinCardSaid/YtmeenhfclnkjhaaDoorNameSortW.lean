/- The walk of name.Sort. Conditions: the slice reads as listed. -/
import Derived.Test.YtmeenhfclnkjhaaDoorCompactW
import Derived.Test.YtmeenhfclnkjhaaDoorNameW
namespace Go.Proofs.YtmeenhfclnkjhaaDoor
open Go.RowKit Go.Shelf Go.Maps Go.Sort
/-- a slice of strings that the call can read and range over -/
structure NL (w : World) (p : Option Addr) (n c : Nat) (zs : List ByteArray) : Prop where
  at_ : StrsAt w p n zs
  nil : p = none → c = 0
  plain : ∀ ad, p = some ad → ∃ b off, ad = ⟨b, off, none⟩ ∧ b < w.heap.size
  reach : n * 16 ≤ 140737488351232
theorem NL.below {w w' : World} {p : Option Addr} {n c : Nat} {zs : List ByteArray} (h : NL w p n c zs) (hb : Below w.heap.size w w') : NL w' p n c zs :=
  ⟨h.at_.below hb, h.nil, fun ad ha => by
    obtain ⟨b, off, e, hlt⟩ := h.plain ad ha
    exact ⟨b, off, e, Nat.lt_of_lt_of_le hlt hb.size⟩, h.reach⟩
/-- sorted, each once -/
def sortN (zs : List ByteArray) : List (List UInt8) := Lib.compact ((byt zs).mergeSort fun x y => decide (x ≤ y))
def okN (zs : List ByteArray) (k : Nat) : Prop := ∀ j, j < k → nameE (zs.getD j ByteArray.empty) = 0
def SortPost (w : World) (zs : List ByteArray) (e : Ending) (w' : World) : Prop :=
  ∃ (g : Option Addr) (c : Nat), e = .returned (.tuple #[.slice g (sortN zs).length c, .int .i64 0]) ∧ w'.ownsRow w.heap.size 9 1 (.slice g (sortN zs).length c) (sortN zs).length ((sortN zs).map encStr) ∧ Below w.heap.size w w'
theorem okN_next {zs : List ByteArray} {k : Nat} (h : okN zs k) (hk : nameE (zs.getD k ByteArray.empty) = 0) : okN zs (k + 1) := fun j hj => by
  rcases Nat.lt_or_ge j k with h1 | h1
  · exact h j h1
  · rw [show j = k from by omega]; exact hk
end Go.Proofs.YtmeenhfclnkjhaaDoor
