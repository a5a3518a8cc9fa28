/- slices.Compact at a slice of strings of the call's own. Conditions: none. -/
import Derived.Test.YtmeenhfclnkjhaaDoorSortedSW
import Derived.Lib.RowBridge
namespace Go.Proofs.YtmeenhfclnkjhaaDoor
open Go.RowKit Go.Shelf Go.Maps Go.Sort
end Go.Proofs.YtmeenhfclnkjhaaDoor
