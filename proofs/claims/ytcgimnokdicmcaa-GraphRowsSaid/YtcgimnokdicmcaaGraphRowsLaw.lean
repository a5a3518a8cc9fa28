/- The law GraphRows, with the graph that it is handed. Conditions: none. -/
import Derived.Test.YtcgimnokdicmcaaGraphLawW
import Derived.Test.YtcgimnokdicmcaaGraphArg
namespace Go.Proofs.Ytcgimnokdicmcaa
open Go.RowKit
theorem graphRows_law (v : Value) (a b : Int) (w : World) (h : ∃ g, GrAt w v g) :
    Calls Try.prog 3 #[v, .int .i64 a, .int .i64 b] w fun e w' => e = .returned (.bool true) ∧ Below w.heap.size w w' := by
  obtain ⟨g, hg⟩ := h
  exact graphRows_walk v g a b w hg
end Go.Proofs.Ytcgimnokdicmcaa
