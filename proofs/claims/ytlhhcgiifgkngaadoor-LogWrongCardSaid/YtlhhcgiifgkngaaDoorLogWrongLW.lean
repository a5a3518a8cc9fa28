/- The law LogWrong, of the listed variables. Conditions: none. -/
import Derived.Test.YtlhhcgiifgkngaaDoorLogWrongW
import Derived.Test.YtlhhcgiifgkngaaDoorLogLaid
namespace Go.Proofs.YtlhhcgiifgkngaaDoor
open Go.RowKit
theorem logWrong_law (s : ByteArray) (hs : s.size ≤ 140737488351232) (w : World) (hL : laidMetH Tryd.prog lgL w) (hM : MLL w) :
    Calls Tryd.prog 10 #[.string s] w fun e w' => e = .returned (.bool true) ∧ Below w.heap.size w w' :=
  logWrong_ok s hs w (lg_EVs hL) (lg_Tab hL) (lg_Pow hL) hM
end Go.Proofs.YtlhhcgiifgkngaaDoor
