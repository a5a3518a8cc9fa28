/-
  DERIVED. GIVEN WITH THE SEED: THE CARDS: each row of YtcegmcnknkjcpaaDoorRows.lean that lists a variable, with what it lists TIED to the program's text (the seventh form; the later family's looks); each row that meets fmt, with fmt's text TOLD by the authors' own Lean function (tested against real Go, not proved from fmt's source: count such statements apart). THE CARD IS WHAT COUNTS. Prove the row's statement (the work); the ties are given (YtcegmcnknkjcpaaDoorTie.lean); close each card by the builder's one call (the guide's Derived/Test/ToyasCard.lean, 'card_holds'). Laid BY PROGRAM, IN A SANDBOX (cutbox-door.mjs). By AI agents, Wed Nov 11 2026. No macro, syntax, notation, axiom, sorry.
-/
import Derived.Test.YtcegmcnknkjcpaaDoorRows
import GoSem.ClaimSeven
namespace Go.Proofs.YtcegmcnknkjcpaaDoor
namespace Rows

/-- THE TIED CARD OF 'millwrightkeep.NormOwn'. -/
def normOwnCard : Claim7 := { stood := { row := normOwnRow, standIns := [], harness := (true, "6a55008d39c7d4e8c127a0ee405311a396df311798dd8b0d7d21baf9667b23cd"), looks := true }, kinds := [], alts := [], laidByText := true, laidKinds := [.data, .data, .data, .data, .data, .widerDeep, .pinned], laidTests := true, laidLooks := .later }
def NormOwnCardSaid : Prop := Claim7.holds Tryd.pinned (.plain (OpenSpec.ofChange normOwnSpec)) normOwnCard

/-- THE TIED CARD OF 'millwrightkeep.NormOnce'. -/
def normOnceCard : Claim7 := { stood := { row := normOnceRow, standIns := [], harness := (true, "6a55008d39c7d4e8c127a0ee405311a396df311798dd8b0d7d21baf9667b23cd"), looks := true }, kinds := [], alts := [], laidByText := true, laidKinds := [.data, .data, .data, .data, .data, .widerDeep, .pinned], laidTests := true, laidLooks := .later }
def NormOnceCardSaid : Prop := Claim7.holds Tryd.pinned (.plain (OpenSpec.ofChange normOnceSpec)) normOnceCard

/-- THE TIED CARD OF 'millwrightkeep.NormTurned'. -/
def normTurnedCard : Claim7 := { stood := { row := normTurnedRow, standIns := [], harness := (true, "6a55008d39c7d4e8c127a0ee405311a396df311798dd8b0d7d21baf9667b23cd"), looks := true }, kinds := [], alts := [], laidByText := true, laidKinds := [.data, .data, .data, .data, .data, .widerDeep, .pinned], laidTests := true, laidLooks := .later }
def NormTurnedCardSaid : Prop := Claim7.holds Tryd.pinned (.plain (OpenSpec.ofChange normTurnedSpec)) normTurnedCard

/-- THE TIED CARD OF 'millwrightkeep.AskBack'. -/
def askBackCard : Claim7 := { stood := { row := askBackRow, standIns := [], harness := (true, "6a55008d39c7d4e8c127a0ee405311a396df311798dd8b0d7d21baf9667b23cd"), looks := true }, kinds := [], alts := [], laidByText := true, laidKinds := [.data, .data, .data, .data, .sentinel, .sentinel, .data, .widerDeep, .pinned], laidTests := true, laidLooks := .later }
def AskBackCardSaid : Prop := Claim7.holds Tryd.pinned (.plain (OpenSpec.ofChange askBackSpec)) askBackCard

/-- THE SECOND FORM's CARD OF 'millwrightkeep.NormOwn'. -/
def normOwnUptoCard : Claim7 := { stood := { row := normOwnUptoRow, standIns := [], harness := (true, "6a55008d39c7d4e8c127a0ee405311a396df311798dd8b0d7d21baf9667b23cd"), looks := true }, kinds := [], alts := [], laidByText := true, laidKinds := [.data, .data, .data, .data, .data, .widerDeep, .pinned], laidTests := true, laidLooks := .later }
def NormOwnUptoCardSaid : Prop := Claim7.holds Tryd.pinned (.plain (OpenSpec.upto normOwnSpec)) normOwnUptoCard

/-- THE SECOND FORM's CARD OF 'millwrightkeep.NormOnce'. -/
def normOnceUptoCard : Claim7 := { stood := { row := normOnceUptoRow, standIns := [], harness := (true, "6a55008d39c7d4e8c127a0ee405311a396df311798dd8b0d7d21baf9667b23cd"), looks := true }, kinds := [], alts := [], laidByText := true, laidKinds := [.data, .data, .data, .data, .data, .widerDeep, .pinned], laidTests := true, laidLooks := .later }
def NormOnceUptoCardSaid : Prop := Claim7.holds Tryd.pinned (.plain (OpenSpec.upto normOnceSpec)) normOnceUptoCard

/-- THE SECOND FORM's CARD OF 'millwrightkeep.NormTurned'. -/
def normTurnedUptoCard : Claim7 := { stood := { row := normTurnedUptoRow, standIns := [], harness := (true, "6a55008d39c7d4e8c127a0ee405311a396df311798dd8b0d7d21baf9667b23cd"), looks := true }, kinds := [], alts := [], laidByText := true, laidKinds := [.data, .data, .data, .data, .data, .widerDeep, .pinned], laidTests := true, laidLooks := .later }
def NormTurnedUptoCardSaid : Prop := Claim7.holds Tryd.pinned (.plain (OpenSpec.upto normTurnedSpec)) normTurnedUptoCard

/-- THE SECOND FORM's CARD OF 'millwrightkeep.AskBack'. -/
def askBackUptoCard : Claim7 := { stood := { row := askBackUptoRow, standIns := [], harness := (true, "6a55008d39c7d4e8c127a0ee405311a396df311798dd8b0d7d21baf9667b23cd"), looks := true }, kinds := [], alts := [], laidByText := true, laidKinds := [.data, .data, .data, .data, .sentinel, .sentinel, .data, .widerDeep, .pinned], laidTests := true, laidLooks := .later }
def AskBackUptoCardSaid : Prop := Claim7.holds Tryd.pinned (.plain (OpenSpec.upto askBackSpec)) askBackUptoCard
end Rows
end Go.Proofs.YtcegmcnknkjcpaaDoor
