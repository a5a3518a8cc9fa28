/-
  DERIVED. GIVEN WITH THE SEED: THE CARDS: each row of YtoiolepengcagaaDoorRows.lean that lists a variable, with what it lists TIED to the program's text (the seventh form; the later family's looks); each row that meets fmt, with fmt's text TOLD by the authors' own Lean function (tested against real Go, not proved from fmt's source: count such statements apart). THE CARD IS WHAT COUNTS. Prove the row's statement (the work); the ties are given (YtoiolepengcagaaDoorTie.lean); close each card by the builder's one call (the guide's Derived/Test/ToyasCard.lean, 'card_holds'). Laid BY PROGRAM, IN A SANDBOX (cutbox-door.mjs). By AI agents, Wed Nov 11 2026. No macro, syntax, notation, axiom, sorry.
-/
import Derived.Test.YtoiolepengcagaaDoorRows
import GoSem.ClaimSeven
namespace Go.Proofs.YtoiolepengcagaaDoor
namespace Rows

/-- THE TIED CARD OF 'millwrightkeep.FileCycle'. -/
def fileCycleCard : Claim7 := { stood := { row := fileCycleRow, standIns := [], harness := (true, "4067c5152fb0b515ee1ec6d5cb5a01474991e918b75e1e54a5310f49045626ac"), looks := false }, kinds := [], alts := [], laidByText := true, laidKinds := [.data, .pinned], laidTests := true, laidLooks := .later }
def FileCycleCardSaid : Prop := Claim7.holds Tryd.pinned (.plain (OpenSpec.ofChange fileCycleSpec)) fileCycleCard

/-- THE TIED CARD OF 'millwrightkeep.RuleOwn'. -/
def ruleOwnCard : Claim7 := { stood := { row := ruleOwnRow, standIns := [], harness := (true, "4067c5152fb0b515ee1ec6d5cb5a01474991e918b75e1e54a5310f49045626ac"), looks := false }, kinds := [], alts := [], laidByText := true, laidKinds := [.data, .pinned], laidTests := true, laidLooks := .later }
def RuleOwnCardSaid : Prop := Claim7.holds Tryd.pinned (.plain (OpenSpec.ofChange ruleOwnSpec)) ruleOwnCard

/-- THE SECOND FORM's CARD OF 'millwrightkeep.FileCycle'. -/
def fileCycleUptoCard : Claim7 := { stood := { row := fileCycleUptoRow, standIns := [], harness := (true, "4067c5152fb0b515ee1ec6d5cb5a01474991e918b75e1e54a5310f49045626ac"), looks := false }, kinds := [], alts := [], laidByText := true, laidKinds := [.data, .pinned], laidTests := true, laidLooks := .later }
def FileCycleUptoCardSaid : Prop := Claim7.holds Tryd.pinned (.plain (OpenSpec.upto fileCycleSpec)) fileCycleUptoCard

/-- THE SECOND FORM's CARD OF 'millwrightkeep.RuleOwn'. -/
def ruleOwnUptoCard : Claim7 := { stood := { row := ruleOwnUptoRow, standIns := [], harness := (true, "4067c5152fb0b515ee1ec6d5cb5a01474991e918b75e1e54a5310f49045626ac"), looks := false }, kinds := [], alts := [], laidByText := true, laidKinds := [.data, .pinned], laidTests := true, laidLooks := .later }
def RuleOwnUptoCardSaid : Prop := Claim7.holds Tryd.pinned (.plain (OpenSpec.upto ruleOwnSpec)) ruleOwnUptoCard
end Rows
end Go.Proofs.YtoiolepengcagaaDoor
