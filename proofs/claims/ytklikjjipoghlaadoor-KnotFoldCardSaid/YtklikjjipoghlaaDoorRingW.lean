/- The walk through knot.Ring. Conditions: the table reads as listed. -/
import Derived.Test.YtklikjjipoghlaaDoorKnotW
import Derived.Test.YtklikjjipoghlaaDoorRing
import Derived.Deep.LoopGhost
namespace Go.Proofs.YtklikjjipoghlaaDoor
open Go.RowKit
def lenOf (v : Value) : Nat := match v with | .slice _ n _ => n | _ => 0
theorem own_full {w : World} {base e n c : Nat} {g : Option Addr} {xs : List Value} (h : w.ownsRow base e 1 (.slice g n c) n xs) (hn : 0 < n) : ∃ b : Nat, g = some ⟨b, 0, none⟩ ∧ n ≤ c ∧ c ≤ 9223372036854775807 := by
  rcases h.2 with ⟨_, rfl⟩ | ⟨b, cap, cur, he, _, _, h1, h2, _⟩
  · cases hn
  · injection he with e1 e2 e3
    subst e3
    unfold maxLen at h2
    exact ⟨b, e1, h1, by omega⟩
theorem Reads.drop {w : World} {b n k : Nat} {ad : Addr} {xs : List Value} (h : Reads w b 1 (some ad) n xs) (hk : k ≤ n) : Reads w b 1 (some (ad.add k)) (n - k) (xs.drop k) := by
  refine ⟨by rw [List.length_drop, h.1]; omega, fun hn => ?_⟩
  obtain ⟨a, e, hb, hc⟩ := h.2 (by omega)
  injection e with e
  subst e
  refine ⟨_, rfl, by rw [block_of_add]; exact hb, fun j u hu => ?_⟩
  rw [add_of_add]
  exact hc _ u (by rw [List.getElem?_drop] at hu; exact hu)
/-- what Ring answers of right rows -/
def RingPost (r : List B) (w : World) (e : Ending) (w' : World) : Prop :=
  (∃ (o : List Nat), e = .returned (.tuple #[.slice none 0 0, .int .i64 5]) ∧ KOrd r o 0#64 ∧ Stuck r 0#64 ∧ Below w.heap.size w w') ∨
  (∃ (o l : List Nat) (left : B) (p : Option Addr) (c : Nat), e = .returned (.tuple #[.slice p l.length c, .int .i64 0]) ∧ left ≠ 0#64 ∧ KOrd r o left ∧ Stuck r left ∧ RingIs r l ∧ l.length ≤ 64 ∧ l.length ≤ c ∧ c ≤ 9223372036854775807 ∧ Reads w' w'.heap.size 1 p l.length (ints l) ∧ Below w.heap.size w w')
end Go.Proofs.YtklikjjipoghlaaDoor
