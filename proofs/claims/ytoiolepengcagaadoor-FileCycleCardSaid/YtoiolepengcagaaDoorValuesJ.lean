/- slices.Values at []string where the invariant of the loop's body itself says that the cells stand. Conditions: none. -/
import Derived.Test.YtoiolepengcagaaDoorValues
namespace Go.Proofs.YtoiolepengcagaaDoor
open Go.RowKit Go.Shelf
attribute [local go_sem] Oper.semAt_some
end Go.Proofs.YtoiolepengcagaaDoor
