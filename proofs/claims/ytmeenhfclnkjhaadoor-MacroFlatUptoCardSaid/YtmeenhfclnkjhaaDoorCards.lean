/-
  DERIVED. GIVEN WITH THE SEED: THE CARDS: each row of YtmeenhfclnkjhaaDoorRows.lean that lists a variable, with what it lists TIED to the program's text (the seventh form; the later family's looks); each row that meets fmt, with fmt's text TOLD by the authors' own Lean function (tested against real Go, not proved from fmt's source: count such statements apart). THE CARD IS WHAT COUNTS. Prove the row's statement (the work); the ties are given (YtmeenhfclnkjhaaDoorTie.lean); close each card by the builder's one call (the guide's Derived/Test/ToyasCard.lean, 'card_holds'). Laid BY PROGRAM, IN A SANDBOX (cutbox-door.mjs). By AI agents, Wed Nov 11 2026. No macro, syntax, notation, axiom, sorry.
-/
import Derived.Test.YtmeenhfclnkjhaaDoorRows
import GoSem.ClaimSeven
namespace Go.Proofs.YtmeenhfclnkjhaaDoor
namespace Rows

/-- THE TIED CARD OF 'millwrightkeep.MacroFlat'. -/
def macroFlatCard : Claim7 := { stood := { row := macroFlatRow, standIns := [], harness := (true, "ede2943e04a5398a6a6cf075220369745b10a74dfde7ac84d5eed2f7749e8964"), looks := false }, kinds := [], alts := [], laidByText := true, laidKinds := [.data, .pinned], laidTests := true, laidLooks := .later }
def MacroFlatCardSaid : Prop := Claim7.holds Tryd.pinned (.plain (OpenSpec.ofChange macroFlatSpec)) macroFlatCard

/-- THE TIED CARD OF 'millwrightkeep.RuleBack'. -/
def ruleBackCard : Claim7 := { stood := { row := ruleBackRow, standIns := [], harness := (true, "ede2943e04a5398a6a6cf075220369745b10a74dfde7ac84d5eed2f7749e8964"), looks := false }, kinds := [], alts := [], laidByText := true, laidKinds := [.data, .pinned], laidTests := true, laidLooks := .later }
def RuleBackCardSaid : Prop := Claim7.holds Tryd.pinned (.plain (OpenSpec.ofChange ruleBackSpec)) ruleBackCard

/-- THE TIED CARD OF 'millwrightkeep.RuleJoin'. -/
def ruleJoinCard : Claim7 := { stood := { row := ruleJoinRow, standIns := [], harness := (true, "ede2943e04a5398a6a6cf075220369745b10a74dfde7ac84d5eed2f7749e8964"), looks := false }, kinds := [], alts := [], laidByText := true, laidKinds := [.data, .pinned], laidTests := true, laidLooks := .later }
def RuleJoinCardSaid : Prop := Claim7.holds Tryd.pinned (.plain (OpenSpec.ofChange ruleJoinSpec)) ruleJoinCard

/-- THE TIED CARD OF 'millwrightkeep.RuleOwn'. -/
def ruleOwnCard : Claim7 := { stood := { row := ruleOwnRow, standIns := [], harness := (true, "ede2943e04a5398a6a6cf075220369745b10a74dfde7ac84d5eed2f7749e8964"), looks := false }, kinds := [], alts := [], laidByText := true, laidKinds := [.data, .pinned], laidTests := true, laidLooks := .later }
def RuleOwnCardSaid : Prop := Claim7.holds Tryd.pinned (.plain (OpenSpec.ofChange ruleOwnSpec)) ruleOwnCard

/-- THE SECOND FORM's CARD OF 'millwrightkeep.MacroFlat'. -/
def macroFlatUptoCard : Claim7 := { stood := { row := macroFlatUptoRow, standIns := [], harness := (true, "ede2943e04a5398a6a6cf075220369745b10a74dfde7ac84d5eed2f7749e8964"), looks := false }, kinds := [], alts := [], laidByText := true, laidKinds := [.data, .pinned], laidTests := true, laidLooks := .later }
def MacroFlatUptoCardSaid : Prop := Claim7.holds Tryd.pinned (.plain (OpenSpec.upto macroFlatSpec)) macroFlatUptoCard

/-- THE SECOND FORM's CARD OF 'millwrightkeep.RuleBack'. -/
def ruleBackUptoCard : Claim7 := { stood := { row := ruleBackUptoRow, standIns := [], harness := (true, "ede2943e04a5398a6a6cf075220369745b10a74dfde7ac84d5eed2f7749e8964"), looks := false }, kinds := [], alts := [], laidByText := true, laidKinds := [.data, .pinned], laidTests := true, laidLooks := .later }
def RuleBackUptoCardSaid : Prop := Claim7.holds Tryd.pinned (.plain (OpenSpec.upto ruleBackSpec)) ruleBackUptoCard

/-- THE SECOND FORM's CARD OF 'millwrightkeep.RuleJoin'. -/
def ruleJoinUptoCard : Claim7 := { stood := { row := ruleJoinUptoRow, standIns := [], harness := (true, "ede2943e04a5398a6a6cf075220369745b10a74dfde7ac84d5eed2f7749e8964"), looks := false }, kinds := [], alts := [], laidByText := true, laidKinds := [.data, .pinned], laidTests := true, laidLooks := .later }
def RuleJoinUptoCardSaid : Prop := Claim7.holds Tryd.pinned (.plain (OpenSpec.upto ruleJoinSpec)) ruleJoinUptoCard

/-- THE SECOND FORM's CARD OF 'millwrightkeep.RuleOwn'. -/
def ruleOwnUptoCard : Claim7 := { stood := { row := ruleOwnUptoRow, standIns := [], harness := (true, "ede2943e04a5398a6a6cf075220369745b10a74dfde7ac84d5eed2f7749e8964"), looks := false }, kinds := [], alts := [], laidByText := true, laidKinds := [.data, .pinned], laidTests := true, laidLooks := .later }
def RuleOwnUptoCardSaid : Prop := Claim7.holds Tryd.pinned (.plain (OpenSpec.upto ruleOwnSpec)) ruleOwnUptoCard
end Rows
end Go.Proofs.YtmeenhfclnkjhaaDoor
