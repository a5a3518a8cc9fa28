/- The law RuleJoin at what it is handed. Conditions: none. -/
import Derived.Test.YtmeenhfclnkjhaaDoorRuleJoinW
import Derived.Test.YtmeenhfclnkjhaaDoorRulesArg
namespace Go.Proofs.YtmeenhfclnkjhaaDoor
open Go.RowKit Go.Shelf
theorem ruleJoin_law (v : Value) (t s : ByteArray) (w : World) (hx : ∃ g, RulesAt w v g) :
    Calls Tryd.prog 5 #[v, .string t, .string s] w fun e w' => e = .returned (.bool true) ∧ Below w.heap.size w w' := by
  obtain ⟨_, p, n, c, l, rfl, h⟩ := hx
  exact ruleJoin_walk p n c l t s w h
end Go.Proofs.YtmeenhfclnkjhaaDoor
