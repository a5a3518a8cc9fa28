/- slices.Compact at a slice of strings of the call's own. Conditions: none. -/
import Derived.Test.YtchjogcdenkhcaaDoorSortedSW
import Derived.Lib.RowBridge
namespace Go.Proofs.YtchjogcdenkhcaaDoor
open Go.RowKit Go.Shelf Go.Maps Go.Sort
end Go.Proofs.YtchjogcdenkhcaaDoor
