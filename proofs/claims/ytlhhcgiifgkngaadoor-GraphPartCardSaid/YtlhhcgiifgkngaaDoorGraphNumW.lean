/- The walks of graph.Number and slices.Contains at edges. Conditions: the graph reads as listed. -/
import Derived.Test.YtlhhcgiifgkngaaDoorGraphRowsW
import Derived.Test.YtlhhcgiifgkngaaDoorNameFindW
import Derived.Laws.StructEq
namespace Go.Proofs.YtlhhcgiifgkngaaDoor
open Go.RowKit Go.Shelf
theorem rise_inj {ls : List ByteArray} (h : Rise ls) {i j : Nat} (hi : i < ls.length) (hj : j < ls.length) (e : ls.getD i ByteArray.empty = ls.getD j ByteArray.empty) : i = j := by
  rcases Nat.lt_trichotomy i j with g | g | g
  · have := h i j g hj; rw [e] at this; exact absurd this lt_irr
  · exact g
  · have := h j i g hi; rw [e] at this; exact absurd this lt_irr
theorem run_eqlE (x1 x2 y1 y2 : Int) (u : World) : (binOp .eql 43 (.agg #[.int .i64 x1, .int .i64 x2]) (.agg #[.int .i64 y1, .int .i64 y2])).run Tryd.prog u = .ok (.bool (x1 == y1 && x2 == y2)) u := by
  have ht := Tryd.underlying43
  have hu : Tryd.prog.underlying 43 = some (.struct (Tryd.prog.fieldsOf 43)) := by unfold Program.fieldsOf; rw [ht]
  have hs : Tryd.prog.stoodInHeld 43 = false := by kernel_rfl
  rw [run_eql_struct, run_equalIn_agg u 9999 43 _ _ hu hs]
  simp only [Program.fieldsOf, ht]
  cases h1 : (x1 == y1)
  · simp [Op.eqFields, part, h1, run_equalIn_int, Tryd.underlying3]
  · simp [Op.eqFields, part, h1, run_equalIn_int, Tryd.underlying3]
    by_cases h : x2 = y2 <;> simp [h]
def eqE (x y : E2) : Bool := x.1 == y.1 && x.2 == y.2
theorem eqE_iff {x y : E2} : eqE x y = true ↔ x = y := by
  obtain ⟨x1, x2⟩ := x
  obtain ⟨y1, y2⟩ := y
  simp [eqE]
end Go.Proofs.YtlhhcgiifgkngaaDoor
