/- Texts joined: UsersLaw. Conditions: theirs. -/
import Derived.Test.YteldeiihjeddoaaDoorUsersLawM5
namespace Go.Proofs.YteldeiihjeddoaaDoor
open Go.RowKit
theorem staleUsers_law (v u : Value) (n : Int) (w : World) (hT : Tab w) (h : ∃ g, GrAt w v g) (hx : ∃ x, SnAt w u x) :
    Calls Tryd.prog 5 #[v, u, .int .i64 n] w fun e w' => e = .returned (.bool true) ∧ Below w.heap.size w w' := by
  obtain ⟨g, hg⟩ := h
  obtain ⟨x, hx⟩ := hx
  exact staleUsers_walk v u g x n w hg hx hT
end Go.Proofs.YteldeiihjeddoaaDoor
