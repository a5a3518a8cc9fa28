/- The library's slices.AppendSeq, Collect and Sorted at strings, laid at this translation by hand (the kit's plain tool leaves them out). Conditions: none. -/
import Derived.Shelf.SlIter.Sorted
import Derived.Test.YtchjogcdenkhcaaDoorProg
namespace Go.Proofs
open Go.Shelf Go.RowKit
end Go.Proofs
