/- Graphs of a call's own, as they can be read. Conditions: the graph is good. -/
import Derived.Test.YtcgimnokdicmcaaUsersP0
import Derived.Test.YtcgimnokdicmcaaNLSetW
namespace Go.Proofs.Ytcgimnokdicmcaa
open Go.RowKit Go.Shelf
/-- the empty graph -/
def G00 : GD := ⟨[], [], 0#64, 0#64⟩
theorem grat_zero (w : World) : GrAt w (.agg #[.slice none 0 0, .slice none 0 0, .int .u64 0, .int .u64 0]) G00 :=
  ⟨none, 0, 0, none, 0, 0, rfl, ⟨⟨rfl, Reads.none_, fun s hs => (by cases hs), by omega⟩, fun _ => rfl, fun ad h => (by cases h), by omega⟩, ⟨rfl, fun h => absurd h (by omega), by omega⟩⟩
theorem good_sizes {g : GD} (hG : Good g) : ∀ s ∈ g.names, s.size ≤ 4611686018427387904 := fun s hs => by
  have h1 := (okN_mem rfl).1 hG.ok s hs
  have h2 := nameE_size h1
  omega
/-- a graph of a call's own, as it can be read -/
theorem grat_own {w : World} {b1 b2 n m : Nat} {g : GD} {p q : Option Addr} {c d : Nat} (hG : Good g) (hb : m ≤ 8796093022208)
    (ho : w.ownsRow b1 9 1 (.slice p n c) n (strsV g.names)) (he : w.ownsRow b2 36 2 (.slice q m d) m (cells2 eF eG g.edges)) :
    GrAt w (.agg #[.slice p n c, .slice q m d, .int .u64 (un g.phony : Int), .int .u64 (un g.made : Int)]) g := by
  have hl : g.names.length = n := by have := ho.1; simpa [strsV] using this
  have h64 := hG.names
  exact ⟨p, _, c, q, _, d, rfl, NL_own ho (good_sizes hG) (by omega), P2At.own he hb⟩
end Go.Proofs.Ytcgimnokdicmcaa
