/-
  DERIVED. GIVEN WITH THE SEED: THE CARDS: each row of YteefncohknclcaaGreatDoorRows.lean that lists a variable, with what it lists TIED to the program's text (the seventh form; the later family's looks); each row that meets fmt, with fmt's text TOLD by the authors' own Lean function (tested against real Go, not proved from fmt's source: count such statements apart). THE CARD IS WHAT COUNTS. Prove the row's statement (the work); the ties are given (YteefncohknclcaaGreatDoorTie.lean); close each card by the builder's one call (the guide's Derived/Test/ToyasCard.lean, 'card_holds'). Laid BY PROGRAM, IN A SANDBOX (cutbox-door.mjs). By AI agents, Wed Nov 11 2026. No macro, syntax, notation, axiom, sorry.
-/
import Derived.Test.YteefncohknclcaaGreatDoorRows
import GoSem.ClaimSeven
namespace Go.Proofs.YteefncohknclcaaGreatDoor
namespace Rows

/-- THE TIED CARD OF 'millwrightkeep.NormSame'. -/
def normSameCard : Claim7 := { stood := { row := normSameRow, standIns := [], harness := (true, "2346c867ecac9f7368e04c7b591bd40ebe10f92ed2567ae29ce173c6dfd58e10"), looks := false }, kinds := [], alts := [], laidByText := true, laidKinds := [.data, .data, .data, .data, .data, .widerDeep, .pinned], laidTests := true, laidLooks := .later }
def NormSameCardSaid : Prop := Claim7.holds Tryz.pinned (.plain (OpenSpec.ofChange normSameSpec)) normSameCard

/-- THE TIED CARD OF 'millwrightkeep.AskBound'. -/
def askBoundCard : Claim7 := { stood := { row := askBoundRow, standIns := [], harness := (true, "2346c867ecac9f7368e04c7b591bd40ebe10f92ed2567ae29ce173c6dfd58e10"), looks := false }, kinds := [], alts := [], laidByText := true, laidKinds := [.data, .data, .data, .data, .data, .widerDeep, .pinned], laidTests := true, laidLooks := .later }
def AskBoundCardSaid : Prop := Claim7.holds Tryz.pinned (.plain (OpenSpec.ofChange askBoundSpec)) askBoundCard

/-- THE TIED CARD OF 'millwrightkeep.EvalSets'. -/
def evalSetsCard : Claim7 := { stood := { row := evalSetsRow, standIns := [], harness := (true, "2346c867ecac9f7368e04c7b591bd40ebe10f92ed2567ae29ce173c6dfd58e10"), looks := false }, kinds := [], alts := [], laidByText := true, laidKinds := [.data, .data, .data, .pinned], laidTests := true, laidLooks := .later }
def EvalSetsCardSaid : Prop := Claim7.holds Tryz.pinned (.plain (OpenSpec.ofChange evalSetsSpec)) evalSetsCard

/-- THE TIED CARD OF 'millwrightkeep.EvalWalks'. -/
def evalWalksCard : Claim7 := { stood := { row := evalWalksRow, standIns := [], harness := (true, "2346c867ecac9f7368e04c7b591bd40ebe10f92ed2567ae29ce173c6dfd58e10"), looks := false }, kinds := [], alts := [], laidByText := true, laidKinds := [.data, .data, .data, .pinned], laidTests := true, laidLooks := .later }
def EvalWalksCardSaid : Prop := Claim7.holds Tryz.pinned (.plain (OpenSpec.ofChange evalWalksSpec)) evalWalksCard

/-- THE TIED CARD OF 'millwrightkeep.EvalLet'. -/
def evalLetCard : Claim7 := { stood := { row := evalLetRow, standIns := [], harness := (true, "2346c867ecac9f7368e04c7b591bd40ebe10f92ed2567ae29ce173c6dfd58e10"), looks := false }, kinds := [], alts := [], laidByText := true, laidKinds := [.data, .data, .data, .pinned], laidTests := true, laidLooks := .later }
def EvalLetCardSaid : Prop := Claim7.holds Tryz.pinned (.plain (OpenSpec.ofChange evalLetSpec)) evalLetCard

/-- THE TIED CARD OF 'millwrightkeep.EvalKinds'. -/
def evalKindsCard : Claim7 := { stood := { row := evalKindsRow, standIns := [], harness := (true, "2346c867ecac9f7368e04c7b591bd40ebe10f92ed2567ae29ce173c6dfd58e10"), looks := false }, kinds := [], alts := [], laidByText := true, laidKinds := [.data, .data, .data, .pinned], laidTests := true, laidLooks := .later }
def EvalKindsCardSaid : Prop := Claim7.holds Tryz.pinned (.plain (OpenSpec.ofChange evalKindsSpec)) evalKindsCard

/-- THE TIED CARD OF 'millwrightkeep.EvalTurn'. -/
def evalTurnCard : Claim7 := { stood := { row := evalTurnRow, standIns := [], harness := (true, "2346c867ecac9f7368e04c7b591bd40ebe10f92ed2567ae29ce173c6dfd58e10"), looks := false }, kinds := [], alts := [], laidByText := true, laidKinds := [.data, .data, .data, .pinned], laidTests := true, laidLooks := .later }
def EvalTurnCardSaid : Prop := Claim7.holds Tryz.pinned (.plain (OpenSpec.ofChange evalTurnSpec)) evalTurnCard

/-- THE SECOND FORM's CARD OF 'millwrightkeep.NormSame'. -/
def normSameUptoCard : Claim7 := { stood := { row := normSameUptoRow, standIns := [], harness := (true, "2346c867ecac9f7368e04c7b591bd40ebe10f92ed2567ae29ce173c6dfd58e10"), looks := false }, kinds := [], alts := [], laidByText := true, laidKinds := [.data, .data, .data, .data, .data, .widerDeep, .pinned], laidTests := true, laidLooks := .later }
def NormSameUptoCardSaid : Prop := Claim7.holds Tryz.pinned (.plain (OpenSpec.upto normSameSpec)) normSameUptoCard

/-- THE SECOND FORM's CARD OF 'millwrightkeep.AskBound'. -/
def askBoundUptoCard : Claim7 := { stood := { row := askBoundUptoRow, standIns := [], harness := (true, "2346c867ecac9f7368e04c7b591bd40ebe10f92ed2567ae29ce173c6dfd58e10"), looks := false }, kinds := [], alts := [], laidByText := true, laidKinds := [.data, .data, .data, .data, .data, .widerDeep, .pinned], laidTests := true, laidLooks := .later }
def AskBoundUptoCardSaid : Prop := Claim7.holds Tryz.pinned (.plain (OpenSpec.upto askBoundSpec)) askBoundUptoCard

/-- THE SECOND FORM's CARD OF 'millwrightkeep.EvalSets'. -/
def evalSetsUptoCard : Claim7 := { stood := { row := evalSetsUptoRow, standIns := [], harness := (true, "2346c867ecac9f7368e04c7b591bd40ebe10f92ed2567ae29ce173c6dfd58e10"), looks := false }, kinds := [], alts := [], laidByText := true, laidKinds := [.data, .data, .data, .pinned], laidTests := true, laidLooks := .later }
def EvalSetsUptoCardSaid : Prop := Claim7.holds Tryz.pinned (.plain (OpenSpec.upto evalSetsSpec)) evalSetsUptoCard

/-- THE SECOND FORM's CARD OF 'millwrightkeep.EvalWalks'. -/
def evalWalksUptoCard : Claim7 := { stood := { row := evalWalksUptoRow, standIns := [], harness := (true, "2346c867ecac9f7368e04c7b591bd40ebe10f92ed2567ae29ce173c6dfd58e10"), looks := false }, kinds := [], alts := [], laidByText := true, laidKinds := [.data, .data, .data, .pinned], laidTests := true, laidLooks := .later }
def EvalWalksUptoCardSaid : Prop := Claim7.holds Tryz.pinned (.plain (OpenSpec.upto evalWalksSpec)) evalWalksUptoCard

/-- THE SECOND FORM's CARD OF 'millwrightkeep.EvalLet'. -/
def evalLetUptoCard : Claim7 := { stood := { row := evalLetUptoRow, standIns := [], harness := (true, "2346c867ecac9f7368e04c7b591bd40ebe10f92ed2567ae29ce173c6dfd58e10"), looks := false }, kinds := [], alts := [], laidByText := true, laidKinds := [.data, .data, .data, .pinned], laidTests := true, laidLooks := .later }
def EvalLetUptoCardSaid : Prop := Claim7.holds Tryz.pinned (.plain (OpenSpec.upto evalLetSpec)) evalLetUptoCard

/-- THE SECOND FORM's CARD OF 'millwrightkeep.EvalKinds'. -/
def evalKindsUptoCard : Claim7 := { stood := { row := evalKindsUptoRow, standIns := [], harness := (true, "2346c867ecac9f7368e04c7b591bd40ebe10f92ed2567ae29ce173c6dfd58e10"), looks := false }, kinds := [], alts := [], laidByText := true, laidKinds := [.data, .data, .data, .pinned], laidTests := true, laidLooks := .later }
def EvalKindsUptoCardSaid : Prop := Claim7.holds Tryz.pinned (.plain (OpenSpec.upto evalKindsSpec)) evalKindsUptoCard

/-- THE SECOND FORM's CARD OF 'millwrightkeep.EvalTurn'. -/
def evalTurnUptoCard : Claim7 := { stood := { row := evalTurnUptoRow, standIns := [], harness := (true, "2346c867ecac9f7368e04c7b591bd40ebe10f92ed2567ae29ce173c6dfd58e10"), looks := false }, kinds := [], alts := [], laidByText := true, laidKinds := [.data, .data, .data, .pinned], laidTests := true, laidLooks := .later }
def EvalTurnUptoCardSaid : Prop := Claim7.holds Tryz.pinned (.plain (OpenSpec.upto evalTurnSpec)) evalTurnUptoCard
end Rows
end Go.Proofs.YteefncohknclcaaGreatDoor
