/- The law LogBack, of the listed variables and the arguments as they are handed in. Conditions: none. -/
import Derived.Test.YtlhhcgiifgkngaaDoorLogBackW
import Derived.Test.YtlhhcgiifgkngaaDoorLogLaid
import Derived.Test.YtlhhcgiifgkngaaDoorStampArg
namespace Go.Proofs.YtlhhcgiifgkngaaDoor
open Go.RowKit
theorem logBack_law (w : World) (v : Value) (s : ByteArray) (hx : ∃ g, StampsAt w v g) (hL : laidMetH Tryd.prog lgL w) (hM : MLL w) :
    Calls Tryd.prog 11 #[v, .string s] w fun e w' => e = .returned (.bool true) ∧ Below w.heap.size w w' := by
  obtain ⟨_, p, n, c, l, rfl, hst, hwf⟩ := hx
  exact logBack_ok p n c l s w hst hwf (lg_EVs hL) (lg_Tab hL) (lg_Pow hL) hM
end Go.Proofs.YtlhhcgiifgkngaaDoor
