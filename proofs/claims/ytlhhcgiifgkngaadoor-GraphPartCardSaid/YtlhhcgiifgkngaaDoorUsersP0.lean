/- Turned graphs, plainly. Conditions: none. -/
import Derived.Test.YtlhhcgiifgkngaaDoorTurnP
import Derived.Test.YtlhhcgiifgkngaaDoorGraphCheckW
namespace Go.Proofs.YtlhhcgiifgkngaaDoor
theorem good_turn {g : GD} {ts : List E2} (hG : Good g) (ht : TurnOf g.edges ts) : Good ⟨g.names, ts, g.phony, g.made⟩ :=
  ⟨hG.names, hG.ok, hG.rise, fun x hx => by
    have h := hG.edges _ ((ht.mem x).1 hx)
    exact ⟨h.2.2.1, h.2.2.2, h.1, h.2.1⟩, ht.rise, hG.sets⟩
end Go.Proofs.YtlhhcgiifgkngaaDoor
