/-
  DERIVED. GIVEN WITH THE SEED: THE CARDS: each row of YtlhhcgiifgkngaaDoorRows.lean that lists a variable, with what it lists TIED to the program's text (the seventh form; the later family's looks); each row that meets fmt, with fmt's text TOLD by the authors' own Lean function (tested against real Go, not proved from fmt's source: count such statements apart). THE CARD IS WHAT COUNTS. Prove the row's statement (the work); the ties are given (YtlhhcgiifgkngaaDoorTie.lean); close each card by the builder's one call (the guide's Derived/Test/ToyasCard.lean, 'card_holds'). Laid BY PROGRAM, IN A SANDBOX (cutbox-door.mjs). By AI agents, Wed Nov 11 2026. No macro, syntax, notation, axiom, sorry.
-/
import Derived.Test.YtlhhcgiifgkngaaDoorRows
import GoSem.ClaimSeven
namespace Go.Proofs.YtlhhcgiifgkngaaDoor
namespace Rows

/-- THE TIED CARD OF 'millwrightkeep.GraphPart'. -/
def graphPartCard : Claim7 := { stood := { row := graphPartRow, standIns := [], harness := (true, "780e6719c1286c35fcc0e531f74240af10415aabd245f848a0c294b0e28399c0"), looks := true }, kinds := [], alts := [], laidByText := true, laidKinds := [.data], laidTests := true, laidLooks := .later }
def GraphPartCardSaid : Prop := Claim7.holds Tryd.pinned (.plain (OpenSpec.ofChange graphPartSpec)) graphPartCard

/-- THE TIED CARD OF 'millwrightkeep.GraphOwn'. -/
def graphOwnCard : Claim7 := { stood := { row := graphOwnRow, standIns := [], harness := (true, "780e6719c1286c35fcc0e531f74240af10415aabd245f848a0c294b0e28399c0"), looks := true }, kinds := [], alts := [], laidByText := true, laidKinds := [.data], laidTests := true, laidLooks := .later }
def GraphOwnCardSaid : Prop := Claim7.holds Tryd.pinned (.plain (OpenSpec.ofChange graphOwnSpec)) graphOwnCard

/-- THE TIED CARD OF 'millwrightkeep.CutWays'. -/
def cutWaysCard : Claim7 := { stood := { row := cutWaysRow, standIns := [], harness := (true, "780e6719c1286c35fcc0e531f74240af10415aabd245f848a0c294b0e28399c0"), looks := true }, kinds := [], alts := [], laidByText := true, laidKinds := [.data], laidTests := true, laidLooks := .later }
def CutWaysCardSaid : Prop := Claim7.holds Tryd.pinned (.plain (OpenSpec.ofChange cutWaysSpec)) cutWaysCard

/-- THE TIED CARD OF 'millwrightkeep.CutTurn'. -/
def cutTurnCard : Claim7 := { stood := { row := cutTurnRow, standIns := [], harness := (true, "780e6719c1286c35fcc0e531f74240af10415aabd245f848a0c294b0e28399c0"), looks := true }, kinds := [], alts := [], laidByText := true, laidKinds := [.data], laidTests := true, laidLooks := .later }
def CutTurnCardSaid : Prop := Claim7.holds Tryd.pinned (.plain (OpenSpec.ofChange cutTurnSpec)) cutTurnCard

/-- THE TIED CARD OF 'millwrightkeep.CutMenger'. -/
def cutMengerCard : Claim7 := { stood := { row := cutMengerRow, standIns := [], harness := (true, "780e6719c1286c35fcc0e531f74240af10415aabd245f848a0c294b0e28399c0"), looks := true }, kinds := [], alts := [], laidByText := true, laidKinds := [.data], laidTests := true, laidLooks := .later }
def CutMengerCardSaid : Prop := Claim7.holds Tryd.pinned (.plain (OpenSpec.ofChange cutMengerSpec)) cutMengerCard

/-- THE TIED CARD OF 'millwrightkeep.SpanText'. -/
def spanTextCard : Claim7 := { stood := { row := spanTextRow, standIns := [], harness := (true, "780e6719c1286c35fcc0e531f74240af10415aabd245f848a0c294b0e28399c0"), looks := true }, kinds := [], alts := [], laidByText := true, laidKinds := [.data, .data, .data, .sentinel, .sentinel], laidTests := true, laidLooks := .later }
def SpanTextCardSaid : Prop := Claim7.holds Tryd.pinned (.plain (OpenSpec.ofChange spanTextSpec)) spanTextCard

/-- THE TIED CARD OF 'millwrightkeep.LogLast'. -/
def logLastCard : Claim7 := { stood := { row := logLastRow, standIns := [], harness := (true, "780e6719c1286c35fcc0e531f74240af10415aabd245f848a0c294b0e28399c0"), looks := true }, kinds := [], alts := [], laidByText := true, laidKinds := [.data, .data, .data], laidTests := true, laidLooks := .later }
def LogLastCardSaid : Prop := Claim7.holds Tryd.pinned (.plain (OpenSpec.ofChange logLastSpec)) logLastCard

/-- THE TIED CARD OF 'millwrightkeep.LogWrong'. -/
def logWrongCard : Claim7 := { stood := { row := logWrongRow, standIns := [], harness := (true, "780e6719c1286c35fcc0e531f74240af10415aabd245f848a0c294b0e28399c0"), looks := true }, kinds := [], alts := [], laidByText := true, laidKinds := [.data, .data, .data, .data, .sentinel, .sentinel, .pinned], laidTests := true, laidLooks := .later }
def LogWrongCardSaid : Prop := Claim7.holds Tryd.pinned (.plain (OpenSpec.ofChange logWrongSpec)) logWrongCard

/-- THE TIED CARD OF 'millwrightkeep.LogBack'. -/
def logBackCard : Claim7 := { stood := { row := logBackRow, standIns := [], harness := (true, "780e6719c1286c35fcc0e531f74240af10415aabd245f848a0c294b0e28399c0"), looks := true }, kinds := [], alts := [], laidByText := true, laidKinds := [.data, .data, .data, .data, .sentinel, .sentinel, .pinned], laidTests := true, laidLooks := .later }
def LogBackCardSaid : Prop := Claim7.holds Tryd.pinned (.plain (OpenSpec.ofChange logBackSpec)) logBackCard

/-- THE TIED CARD OF 'millwrightkeep.BuildLog'. -/
def buildLogCard : Claim7 := { stood := { row := buildLogRow, standIns := [], harness := (true, "780e6719c1286c35fcc0e531f74240af10415aabd245f848a0c294b0e28399c0"), looks := true }, kinds := [], alts := [], laidByText := true, laidKinds := [.data], laidTests := true, laidLooks := .later }
def BuildLogCardSaid : Prop := Claim7.holds Tryd.pinned (.plain (OpenSpec.ofChange buildLogSpec)) buildLogCard

/-- THE SECOND FORM's CARD OF 'millwrightkeep.GraphPart'. -/
def graphPartUptoCard : Claim7 := { stood := { row := graphPartUptoRow, standIns := [], harness := (true, "780e6719c1286c35fcc0e531f74240af10415aabd245f848a0c294b0e28399c0"), looks := true }, kinds := [], alts := [], laidByText := true, laidKinds := [.data], laidTests := true, laidLooks := .later }
def GraphPartUptoCardSaid : Prop := Claim7.holds Tryd.pinned (.plain (OpenSpec.upto graphPartSpec)) graphPartUptoCard

/-- THE SECOND FORM's CARD OF 'millwrightkeep.GraphOwn'. -/
def graphOwnUptoCard : Claim7 := { stood := { row := graphOwnUptoRow, standIns := [], harness := (true, "780e6719c1286c35fcc0e531f74240af10415aabd245f848a0c294b0e28399c0"), looks := true }, kinds := [], alts := [], laidByText := true, laidKinds := [.data], laidTests := true, laidLooks := .later }
def GraphOwnUptoCardSaid : Prop := Claim7.holds Tryd.pinned (.plain (OpenSpec.upto graphOwnSpec)) graphOwnUptoCard

/-- THE SECOND FORM's CARD OF 'millwrightkeep.CutWays'. -/
def cutWaysUptoCard : Claim7 := { stood := { row := cutWaysUptoRow, standIns := [], harness := (true, "780e6719c1286c35fcc0e531f74240af10415aabd245f848a0c294b0e28399c0"), looks := true }, kinds := [], alts := [], laidByText := true, laidKinds := [.data], laidTests := true, laidLooks := .later }
def CutWaysUptoCardSaid : Prop := Claim7.holds Tryd.pinned (.plain (OpenSpec.upto cutWaysSpec)) cutWaysUptoCard

/-- THE SECOND FORM's CARD OF 'millwrightkeep.CutTurn'. -/
def cutTurnUptoCard : Claim7 := { stood := { row := cutTurnUptoRow, standIns := [], harness := (true, "780e6719c1286c35fcc0e531f74240af10415aabd245f848a0c294b0e28399c0"), looks := true }, kinds := [], alts := [], laidByText := true, laidKinds := [.data], laidTests := true, laidLooks := .later }
def CutTurnUptoCardSaid : Prop := Claim7.holds Tryd.pinned (.plain (OpenSpec.upto cutTurnSpec)) cutTurnUptoCard

/-- THE SECOND FORM's CARD OF 'millwrightkeep.CutMenger'. -/
def cutMengerUptoCard : Claim7 := { stood := { row := cutMengerUptoRow, standIns := [], harness := (true, "780e6719c1286c35fcc0e531f74240af10415aabd245f848a0c294b0e28399c0"), looks := true }, kinds := [], alts := [], laidByText := true, laidKinds := [.data], laidTests := true, laidLooks := .later }
def CutMengerUptoCardSaid : Prop := Claim7.holds Tryd.pinned (.plain (OpenSpec.upto cutMengerSpec)) cutMengerUptoCard

/-- THE SECOND FORM's CARD OF 'millwrightkeep.SpanText'. -/
def spanTextUptoCard : Claim7 := { stood := { row := spanTextUptoRow, standIns := [], harness := (true, "780e6719c1286c35fcc0e531f74240af10415aabd245f848a0c294b0e28399c0"), looks := true }, kinds := [], alts := [], laidByText := true, laidKinds := [.data, .data, .data, .sentinel, .sentinel], laidTests := true, laidLooks := .later }
def SpanTextUptoCardSaid : Prop := Claim7.holds Tryd.pinned (.plain (OpenSpec.upto spanTextSpec)) spanTextUptoCard

/-- THE SECOND FORM's CARD OF 'millwrightkeep.LogLast'. -/
def logLastUptoCard : Claim7 := { stood := { row := logLastUptoRow, standIns := [], harness := (true, "780e6719c1286c35fcc0e531f74240af10415aabd245f848a0c294b0e28399c0"), looks := true }, kinds := [], alts := [], laidByText := true, laidKinds := [.data, .data, .data], laidTests := true, laidLooks := .later }
def LogLastUptoCardSaid : Prop := Claim7.holds Tryd.pinned (.plain (OpenSpec.upto logLastSpec)) logLastUptoCard

/-- THE SECOND FORM's CARD OF 'millwrightkeep.LogWrong'. -/
def logWrongUptoCard : Claim7 := { stood := { row := logWrongUptoRow, standIns := [], harness := (true, "780e6719c1286c35fcc0e531f74240af10415aabd245f848a0c294b0e28399c0"), looks := true }, kinds := [], alts := [], laidByText := true, laidKinds := [.data, .data, .data, .data, .sentinel, .sentinel, .pinned], laidTests := true, laidLooks := .later }
def LogWrongUptoCardSaid : Prop := Claim7.holds Tryd.pinned (.plain (OpenSpec.upto logWrongSpec)) logWrongUptoCard

/-- THE SECOND FORM's CARD OF 'millwrightkeep.LogBack'. -/
def logBackUptoCard : Claim7 := { stood := { row := logBackUptoRow, standIns := [], harness := (true, "780e6719c1286c35fcc0e531f74240af10415aabd245f848a0c294b0e28399c0"), looks := true }, kinds := [], alts := [], laidByText := true, laidKinds := [.data, .data, .data, .data, .sentinel, .sentinel, .pinned], laidTests := true, laidLooks := .later }
def LogBackUptoCardSaid : Prop := Claim7.holds Tryd.pinned (.plain (OpenSpec.upto logBackSpec)) logBackUptoCard

/-- THE SECOND FORM's CARD OF 'millwrightkeep.BuildLog'. -/
def buildLogUptoCard : Claim7 := { stood := { row := buildLogUptoRow, standIns := [], harness := (true, "780e6719c1286c35fcc0e531f74240af10415aabd245f848a0c294b0e28399c0"), looks := true }, kinds := [], alts := [], laidByText := true, laidKinds := [.data], laidTests := true, laidLooks := .later }
def BuildLogUptoCardSaid : Prop := Claim7.holds Tryd.pinned (.plain (OpenSpec.upto buildLogSpec)) buildLogUptoCard
end Rows
end Go.Proofs.YtlhhcgiifgkngaaDoor
