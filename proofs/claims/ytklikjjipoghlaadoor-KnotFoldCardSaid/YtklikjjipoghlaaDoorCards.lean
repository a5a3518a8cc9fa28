/-
  DERIVED. GIVEN WITH THE SEED: THE CARDS: each row of YtklikjjipoghlaaDoorRows.lean that lists a variable, with what it lists TIED to the program's text (the seventh form; the later family's looks); each row that meets fmt, with fmt's text TOLD by the authors' own Lean function (tested against real Go, not proved from fmt's source: count such statements apart). THE CARD IS WHAT COUNTS. Prove the row's statement (the work); the ties are given (YtklikjjipoghlaaDoorTie.lean); close each card by the builder's one call (the guide's Derived/Test/ToyasCard.lean, 'card_holds'). Laid BY PROGRAM, IN A SANDBOX (cutbox-door.mjs). By AI agents, Wed Nov 11 2026. No macro, syntax, notation, axiom, sorry.
-/
import Derived.Test.YtklikjjipoghlaaDoorRows
import GoSem.ClaimSeven
namespace Go.Proofs.YtklikjjipoghlaaDoor
namespace Rows

/-- THE TIED CARD OF 'millwrightkeep.ChainMirsky'. -/
def chainMirskyCard : Claim7 := { stood := { row := chainMirskyRow, standIns := [], harness := (true, "beb8b6594656f824c98da312c533e20b8ee355aa63a42154b898ccf1afed457a"), looks := false }, kinds := [], alts := [], laidByText := true, laidKinds := [.data], laidTests := true, laidLooks := .later }
def ChainMirskyCardSaid : Prop := Claim7.holds Tryd.pinned (.plain (OpenSpec.ofChange chainMirskySpec)) chainMirskyCard

/-- THE TIED CARD OF 'millwrightkeep.ChainChains'. -/
def chainChainsCard : Claim7 := { stood := { row := chainChainsRow, standIns := [], harness := (true, "beb8b6594656f824c98da312c533e20b8ee355aa63a42154b898ccf1afed457a"), looks := false }, kinds := [], alts := [], laidByText := true, laidKinds := [.data], laidTests := true, laidLooks := .later }
def ChainChainsCardSaid : Prop := Claim7.holds Tryd.pinned (.plain (OpenSpec.ofChange chainChainsSpec)) chainChainsCard

/-- THE TIED CARD OF 'millwrightkeep.ChainDilworth'. -/
def chainDilworthCard : Claim7 := { stood := { row := chainDilworthRow, standIns := [], harness := (true, "beb8b6594656f824c98da312c533e20b8ee355aa63a42154b898ccf1afed457a"), looks := false }, kinds := [], alts := [], laidByText := true, laidKinds := [.data], laidTests := true, laidLooks := .later }
def ChainDilworthCardSaid : Prop := Claim7.holds Tryd.pinned (.plain (OpenSpec.ofChange chainDilworthSpec)) chainDilworthCard

/-- THE TIED CARD OF 'millwrightkeep.CutWays'. -/
def cutWaysCard : Claim7 := { stood := { row := cutWaysRow, standIns := [], harness := (true, "beb8b6594656f824c98da312c533e20b8ee355aa63a42154b898ccf1afed457a"), looks := false }, kinds := [], alts := [], laidByText := true, laidKinds := [.data], laidTests := true, laidLooks := .later }
def CutWaysCardSaid : Prop := Claim7.holds Tryd.pinned (.plain (OpenSpec.ofChange cutWaysSpec)) cutWaysCard

/-- THE TIED CARD OF 'millwrightkeep.CutTurn'. -/
def cutTurnCard : Claim7 := { stood := { row := cutTurnRow, standIns := [], harness := (true, "beb8b6594656f824c98da312c533e20b8ee355aa63a42154b898ccf1afed457a"), looks := false }, kinds := [], alts := [], laidByText := true, laidKinds := [.data], laidTests := true, laidLooks := .later }
def CutTurnCardSaid : Prop := Claim7.holds Tryd.pinned (.plain (OpenSpec.ofChange cutTurnSpec)) cutTurnCard

/-- THE TIED CARD OF 'millwrightkeep.CutMenger'. -/
def cutMengerCard : Claim7 := { stood := { row := cutMengerRow, standIns := [], harness := (true, "beb8b6594656f824c98da312c533e20b8ee355aa63a42154b898ccf1afed457a"), looks := false }, kinds := [], alts := [], laidByText := true, laidKinds := [.data], laidTests := true, laidLooks := .later }
def CutMengerCardSaid : Prop := Claim7.holds Tryd.pinned (.plain (OpenSpec.ofChange cutMengerSpec)) cutMengerCard

/-- THE TIED CARD OF 'millwrightkeep.DomOrder'. -/
def domOrderCard : Claim7 := { stood := { row := domOrderRow, standIns := [], harness := (true, "beb8b6594656f824c98da312c533e20b8ee355aa63a42154b898ccf1afed457a"), looks := false }, kinds := [], alts := [], laidByText := true, laidKinds := [.data], laidTests := true, laidLooks := .later }
def DomOrderCardSaid : Prop := Claim7.holds Tryd.pinned (.plain (OpenSpec.ofChange domOrderSpec)) domOrderCard

/-- THE TIED CARD OF 'millwrightkeep.DomTree'. -/
def domTreeCard : Claim7 := { stood := { row := domTreeRow, standIns := [], harness := (true, "beb8b6594656f824c98da312c533e20b8ee355aa63a42154b898ccf1afed457a"), looks := false }, kinds := [], alts := [], laidByText := true, laidKinds := [.data], laidTests := true, laidLooks := .later }
def DomTreeCardSaid : Prop := Claim7.holds Tryd.pinned (.plain (OpenSpec.ofChange domTreeSpec)) domTreeCard

/-- THE TIED CARD OF 'millwrightkeep.DomRules'. -/
def domRulesCard : Claim7 := { stood := { row := domRulesRow, standIns := [], harness := (true, "beb8b6594656f824c98da312c533e20b8ee355aa63a42154b898ccf1afed457a"), looks := false }, kinds := [], alts := [], laidByText := true, laidKinds := [.data], laidTests := true, laidLooks := .later }
def DomRulesCardSaid : Prop := Claim7.holds Tryd.pinned (.plain (OpenSpec.ofChange domRulesSpec)) domRulesCard

/-- THE TIED CARD OF 'millwrightkeep.KnotParts'. -/
def knotPartsCard : Claim7 := { stood := { row := knotPartsRow, standIns := [], harness := (true, "beb8b6594656f824c98da312c533e20b8ee355aa63a42154b898ccf1afed457a"), looks := false }, kinds := [], alts := [], laidByText := true, laidKinds := [.data], laidTests := true, laidLooks := .later }
def KnotPartsCardSaid : Prop := Claim7.holds Tryd.pinned (.plain (OpenSpec.ofChange knotPartsSpec)) knotPartsCard

/-- THE TIED CARD OF 'millwrightkeep.KnotFold'. -/
def knotFoldCard : Claim7 := { stood := { row := knotFoldRow, standIns := [], harness := (true, "beb8b6594656f824c98da312c533e20b8ee355aa63a42154b898ccf1afed457a"), looks := false }, kinds := [], alts := [], laidByText := true, laidKinds := [.data], laidTests := true, laidLooks := .later }
def KnotFoldCardSaid : Prop := Claim7.holds Tryd.pinned (.plain (OpenSpec.ofChange knotFoldSpec)) knotFoldCard

/-- THE SECOND FORM's CARD OF 'millwrightkeep.ChainMirsky'. -/
def chainMirskyUptoCard : Claim7 := { stood := { row := chainMirskyUptoRow, standIns := [], harness := (true, "beb8b6594656f824c98da312c533e20b8ee355aa63a42154b898ccf1afed457a"), looks := false }, kinds := [], alts := [], laidByText := true, laidKinds := [.data], laidTests := true, laidLooks := .later }
def ChainMirskyUptoCardSaid : Prop := Claim7.holds Tryd.pinned (.plain (OpenSpec.upto chainMirskySpec)) chainMirskyUptoCard

/-- THE SECOND FORM's CARD OF 'millwrightkeep.ChainChains'. -/
def chainChainsUptoCard : Claim7 := { stood := { row := chainChainsUptoRow, standIns := [], harness := (true, "beb8b6594656f824c98da312c533e20b8ee355aa63a42154b898ccf1afed457a"), looks := false }, kinds := [], alts := [], laidByText := true, laidKinds := [.data], laidTests := true, laidLooks := .later }
def ChainChainsUptoCardSaid : Prop := Claim7.holds Tryd.pinned (.plain (OpenSpec.upto chainChainsSpec)) chainChainsUptoCard

/-- THE SECOND FORM's CARD OF 'millwrightkeep.ChainDilworth'. -/
def chainDilworthUptoCard : Claim7 := { stood := { row := chainDilworthUptoRow, standIns := [], harness := (true, "beb8b6594656f824c98da312c533e20b8ee355aa63a42154b898ccf1afed457a"), looks := false }, kinds := [], alts := [], laidByText := true, laidKinds := [.data], laidTests := true, laidLooks := .later }
def ChainDilworthUptoCardSaid : Prop := Claim7.holds Tryd.pinned (.plain (OpenSpec.upto chainDilworthSpec)) chainDilworthUptoCard

/-- THE SECOND FORM's CARD OF 'millwrightkeep.CutWays'. -/
def cutWaysUptoCard : Claim7 := { stood := { row := cutWaysUptoRow, standIns := [], harness := (true, "beb8b6594656f824c98da312c533e20b8ee355aa63a42154b898ccf1afed457a"), looks := false }, kinds := [], alts := [], laidByText := true, laidKinds := [.data], laidTests := true, laidLooks := .later }
def CutWaysUptoCardSaid : Prop := Claim7.holds Tryd.pinned (.plain (OpenSpec.upto cutWaysSpec)) cutWaysUptoCard

/-- THE SECOND FORM's CARD OF 'millwrightkeep.CutTurn'. -/
def cutTurnUptoCard : Claim7 := { stood := { row := cutTurnUptoRow, standIns := [], harness := (true, "beb8b6594656f824c98da312c533e20b8ee355aa63a42154b898ccf1afed457a"), looks := false }, kinds := [], alts := [], laidByText := true, laidKinds := [.data], laidTests := true, laidLooks := .later }
def CutTurnUptoCardSaid : Prop := Claim7.holds Tryd.pinned (.plain (OpenSpec.upto cutTurnSpec)) cutTurnUptoCard

/-- THE SECOND FORM's CARD OF 'millwrightkeep.CutMenger'. -/
def cutMengerUptoCard : Claim7 := { stood := { row := cutMengerUptoRow, standIns := [], harness := (true, "beb8b6594656f824c98da312c533e20b8ee355aa63a42154b898ccf1afed457a"), looks := false }, kinds := [], alts := [], laidByText := true, laidKinds := [.data], laidTests := true, laidLooks := .later }
def CutMengerUptoCardSaid : Prop := Claim7.holds Tryd.pinned (.plain (OpenSpec.upto cutMengerSpec)) cutMengerUptoCard

/-- THE SECOND FORM's CARD OF 'millwrightkeep.DomOrder'. -/
def domOrderUptoCard : Claim7 := { stood := { row := domOrderUptoRow, standIns := [], harness := (true, "beb8b6594656f824c98da312c533e20b8ee355aa63a42154b898ccf1afed457a"), looks := false }, kinds := [], alts := [], laidByText := true, laidKinds := [.data], laidTests := true, laidLooks := .later }
def DomOrderUptoCardSaid : Prop := Claim7.holds Tryd.pinned (.plain (OpenSpec.upto domOrderSpec)) domOrderUptoCard

/-- THE SECOND FORM's CARD OF 'millwrightkeep.DomTree'. -/
def domTreeUptoCard : Claim7 := { stood := { row := domTreeUptoRow, standIns := [], harness := (true, "beb8b6594656f824c98da312c533e20b8ee355aa63a42154b898ccf1afed457a"), looks := false }, kinds := [], alts := [], laidByText := true, laidKinds := [.data], laidTests := true, laidLooks := .later }
def DomTreeUptoCardSaid : Prop := Claim7.holds Tryd.pinned (.plain (OpenSpec.upto domTreeSpec)) domTreeUptoCard

/-- THE SECOND FORM's CARD OF 'millwrightkeep.DomRules'. -/
def domRulesUptoCard : Claim7 := { stood := { row := domRulesUptoRow, standIns := [], harness := (true, "beb8b6594656f824c98da312c533e20b8ee355aa63a42154b898ccf1afed457a"), looks := false }, kinds := [], alts := [], laidByText := true, laidKinds := [.data], laidTests := true, laidLooks := .later }
def DomRulesUptoCardSaid : Prop := Claim7.holds Tryd.pinned (.plain (OpenSpec.upto domRulesSpec)) domRulesUptoCard

/-- THE SECOND FORM's CARD OF 'millwrightkeep.KnotParts'. -/
def knotPartsUptoCard : Claim7 := { stood := { row := knotPartsUptoRow, standIns := [], harness := (true, "beb8b6594656f824c98da312c533e20b8ee355aa63a42154b898ccf1afed457a"), looks := false }, kinds := [], alts := [], laidByText := true, laidKinds := [.data], laidTests := true, laidLooks := .later }
def KnotPartsUptoCardSaid : Prop := Claim7.holds Tryd.pinned (.plain (OpenSpec.upto knotPartsSpec)) knotPartsUptoCard

/-- THE SECOND FORM's CARD OF 'millwrightkeep.KnotFold'. -/
def knotFoldUptoCard : Claim7 := { stood := { row := knotFoldUptoRow, standIns := [], harness := (true, "beb8b6594656f824c98da312c533e20b8ee355aa63a42154b898ccf1afed457a"), looks := false }, kinds := [], alts := [], laidByText := true, laidKinds := [.data], laidTests := true, laidLooks := .later }
def KnotFoldUptoCardSaid : Prop := Claim7.holds Tryd.pinned (.plain (OpenSpec.upto knotFoldSpec)) knotFoldUptoCard
end Rows
end Go.Proofs.YtklikjjipoghlaaDoor
