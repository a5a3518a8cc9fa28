/- The law GraphTurn, with the graph that it is handed. Conditions: none. -/
import Derived.Test.YtcgimnokdicmcaaGraphTurnW
import Derived.Test.YtcgimnokdicmcaaGraphArg
namespace Go.Proofs.Ytcgimnokdicmcaa
open Go.RowKit
theorem graphTurn_law (v : Value) (a b : Int) (w : World) (h : ∃ g, GrAt w v g) :
    Calls Try.prog 4 #[v, .int .i64 a, .int .i64 b] w fun e w' => e = .returned (.bool true) ∧ Below w.heap.size w w' := by
  obtain ⟨g, hg⟩ := h
  exact graphTurn_walk v g a b w hg
end Go.Proofs.Ytcgimnokdicmcaa
