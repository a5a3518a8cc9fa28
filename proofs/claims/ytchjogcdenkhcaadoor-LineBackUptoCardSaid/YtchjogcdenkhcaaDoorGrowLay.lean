/- The library's slices.Grow at strings, laid at this translation by hand. Conditions: none. -/
import Derived.Shelf.Spec.SlicesGrow
import Derived.Test.YtchjogcdenkhcaaDoorProg
namespace Go.Proofs
open Go.Shelf Go.RowKit
end Go.Proofs
