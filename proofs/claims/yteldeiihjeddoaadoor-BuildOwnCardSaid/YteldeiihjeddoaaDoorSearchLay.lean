/- The library's slices.BinarySearch at strings, laid at this translation by hand. Conditions: none. -/
import Derived.Shelf.Spec.SearchS
import Derived.Test.YteldeiihjeddoaaDoorProg
namespace Go.Proofs
open Go.Shelf Go.RowKit
end Go.Proofs
