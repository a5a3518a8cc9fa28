/-
  DERIVED. GIVEN WITH THE SEED: THE CARDS: each row of YtcgimnokdicmcaaDoorRows.lean that lists a variable, with what it lists TIED to the program's text (the seventh form; the later family's looks); each row that meets fmt, with fmt's text TOLD by the authors' own Lean function (tested against real Go, not proved from fmt's source: count such statements apart). THE CARD IS WHAT COUNTS. Prove the row's statement (the work); the ties are given (YtcgimnokdicmcaaDoorTie.lean); close each card by the builder's one call (the guide's Derived/Test/ToyasCard.lean, 'card_holds'). Laid BY PROGRAM, IN A SANDBOX (cutbox-door.mjs). By AI agents, Wed Nov 11 2026. No macro, syntax, notation, axiom, sorry.
-/
import Derived.Test.YtcgimnokdicmcaaDoorRows
import GoSem.ClaimSeven
namespace Go.Proofs.YtcgimnokdicmcaaDoor
namespace Rows

/-- THE TIED CARD OF 'millwrightkeep.GraphOwn'. -/
def graphOwnCard : Claim7 := { stood := { row := graphOwnRow, standIns := [], harness := (true, "797ea92b75a1f13f3634a504a85459759596fadb5946d83ee5c41f33c25f98e1"), looks := true }, kinds := [], alts := [], laidByText := true, laidKinds := [.data], laidTests := true, laidLooks := .later }
def GraphOwnCardSaid : Prop := Claim7.holds Tryd.pinned (.plain (OpenSpec.ofChange graphOwnSpec)) graphOwnCard

/-- THE TIED CARD OF 'millwrightkeep.GraphPart'. -/
def graphPartCard : Claim7 := { stood := { row := graphPartRow, standIns := [], harness := (true, "797ea92b75a1f13f3634a504a85459759596fadb5946d83ee5c41f33c25f98e1"), looks := true }, kinds := [], alts := [], laidByText := true, laidKinds := [.data], laidTests := true, laidLooks := .later }
def GraphPartCardSaid : Prop := Claim7.holds Tryd.pinned (.plain (OpenSpec.ofChange graphPartSpec)) graphPartCard

/-- THE TIED CARD OF 'millwrightkeep.LogLast'. -/
def logLastCard : Claim7 := { stood := { row := logLastRow, standIns := [], harness := (true, "797ea92b75a1f13f3634a504a85459759596fadb5946d83ee5c41f33c25f98e1"), looks := true }, kinds := [], alts := [], laidByText := true, laidKinds := [.data, .data, .data], laidTests := true, laidLooks := .later }
def LogLastCardSaid : Prop := Claim7.holds Tryd.pinned (.plain (OpenSpec.ofChange logLastSpec)) logLastCard

/-- THE TIED CARD OF 'millwrightkeep.LogWrong'. -/
def logWrongCard : Claim7 := { stood := { row := logWrongRow, standIns := [], harness := (true, "797ea92b75a1f13f3634a504a85459759596fadb5946d83ee5c41f33c25f98e1"), looks := true }, kinds := [], alts := [], laidByText := true, laidKinds := [.data, .data, .data, .data, .sentinel, .sentinel, .pinned], laidTests := true, laidLooks := .later }
def LogWrongCardSaid : Prop := Claim7.holds Tryd.pinned (.plain (OpenSpec.ofChange logWrongSpec)) logWrongCard

/-- THE TIED CARD OF 'millwrightkeep.LogBack'. -/
def logBackCard : Claim7 := { stood := { row := logBackRow, standIns := [], harness := (true, "797ea92b75a1f13f3634a504a85459759596fadb5946d83ee5c41f33c25f98e1"), looks := true }, kinds := [], alts := [], laidByText := true, laidKinds := [.data, .data, .data, .data, .sentinel, .sentinel, .pinned], laidTests := true, laidLooks := .later }
def LogBackCardSaid : Prop := Claim7.holds Tryd.pinned (.plain (OpenSpec.ofChange logBackSpec)) logBackCard

/-- THE TIED CARD OF 'millwrightkeep.StaleClosed'. -/
def staleClosedCard : Claim7 := { stood := { row := staleClosedRow, standIns := [], harness := (true, "797ea92b75a1f13f3634a504a85459759596fadb5946d83ee5c41f33c25f98e1"), looks := true }, kinds := [], alts := [], laidByText := true, laidKinds := [.data], laidTests := true, laidLooks := .later }
def StaleClosedCardSaid : Prop := Claim7.holds Tryd.pinned (.plain (OpenSpec.ofChange staleClosedSpec)) staleClosedCard

/-- THE TIED CARD OF 'millwrightkeep.StaleMore'. -/
def staleMoreCard : Claim7 := { stood := { row := staleMoreRow, standIns := [], harness := (true, "797ea92b75a1f13f3634a504a85459759596fadb5946d83ee5c41f33c25f98e1"), looks := true }, kinds := [], alts := [], laidByText := true, laidKinds := [.data], laidTests := true, laidLooks := .later }
def StaleMoreCardSaid : Prop := Claim7.holds Tryd.pinned (.plain (OpenSpec.ofChange staleMoreSpec)) staleMoreCard

/-- THE TIED CARD OF 'millwrightkeep.StaleOnly'. -/
def staleOnlyCard : Claim7 := { stood := { row := staleOnlyRow, standIns := [], harness := (true, "797ea92b75a1f13f3634a504a85459759596fadb5946d83ee5c41f33c25f98e1"), looks := true }, kinds := [], alts := [], laidByText := true, laidKinds := [.data], laidTests := true, laidLooks := .later }
def StaleOnlyCardSaid : Prop := Claim7.holds Tryd.pinned (.plain (OpenSpec.ofChange staleOnlySpec)) staleOnlyCard

/-- THE TIED CARD OF 'millwrightkeep.StaleUsers'. -/
def staleUsersCard : Claim7 := { stood := { row := staleUsersRow, standIns := [], harness := (true, "797ea92b75a1f13f3634a504a85459759596fadb5946d83ee5c41f33c25f98e1"), looks := true }, kinds := [], alts := [], laidByText := true, laidKinds := [.data], laidTests := true, laidLooks := .later }
def StaleUsersCardSaid : Prop := Claim7.holds Tryd.pinned (.plain (OpenSpec.ofChange staleUsersSpec)) staleUsersCard

/-- THE SECOND FORM's CARD OF 'millwrightkeep.GraphOwn'. -/
def graphOwnUptoCard : Claim7 := { stood := { row := graphOwnUptoRow, standIns := [], harness := (true, "797ea92b75a1f13f3634a504a85459759596fadb5946d83ee5c41f33c25f98e1"), looks := true }, kinds := [], alts := [], laidByText := true, laidKinds := [.data], laidTests := true, laidLooks := .later }
def GraphOwnUptoCardSaid : Prop := Claim7.holds Tryd.pinned (.plain (OpenSpec.upto graphOwnSpec)) graphOwnUptoCard

/-- THE SECOND FORM's CARD OF 'millwrightkeep.GraphPart'. -/
def graphPartUptoCard : Claim7 := { stood := { row := graphPartUptoRow, standIns := [], harness := (true, "797ea92b75a1f13f3634a504a85459759596fadb5946d83ee5c41f33c25f98e1"), looks := true }, kinds := [], alts := [], laidByText := true, laidKinds := [.data], laidTests := true, laidLooks := .later }
def GraphPartUptoCardSaid : Prop := Claim7.holds Tryd.pinned (.plain (OpenSpec.upto graphPartSpec)) graphPartUptoCard

/-- THE SECOND FORM's CARD OF 'millwrightkeep.LogLast'. -/
def logLastUptoCard : Claim7 := { stood := { row := logLastUptoRow, standIns := [], harness := (true, "797ea92b75a1f13f3634a504a85459759596fadb5946d83ee5c41f33c25f98e1"), looks := true }, kinds := [], alts := [], laidByText := true, laidKinds := [.data, .data, .data], laidTests := true, laidLooks := .later }
def LogLastUptoCardSaid : Prop := Claim7.holds Tryd.pinned (.plain (OpenSpec.upto logLastSpec)) logLastUptoCard

/-- THE SECOND FORM's CARD OF 'millwrightkeep.LogWrong'. -/
def logWrongUptoCard : Claim7 := { stood := { row := logWrongUptoRow, standIns := [], harness := (true, "797ea92b75a1f13f3634a504a85459759596fadb5946d83ee5c41f33c25f98e1"), looks := true }, kinds := [], alts := [], laidByText := true, laidKinds := [.data, .data, .data, .data, .sentinel, .sentinel, .pinned], laidTests := true, laidLooks := .later }
def LogWrongUptoCardSaid : Prop := Claim7.holds Tryd.pinned (.plain (OpenSpec.upto logWrongSpec)) logWrongUptoCard

/-- THE SECOND FORM's CARD OF 'millwrightkeep.LogBack'. -/
def logBackUptoCard : Claim7 := { stood := { row := logBackUptoRow, standIns := [], harness := (true, "797ea92b75a1f13f3634a504a85459759596fadb5946d83ee5c41f33c25f98e1"), looks := true }, kinds := [], alts := [], laidByText := true, laidKinds := [.data, .data, .data, .data, .sentinel, .sentinel, .pinned], laidTests := true, laidLooks := .later }
def LogBackUptoCardSaid : Prop := Claim7.holds Tryd.pinned (.plain (OpenSpec.upto logBackSpec)) logBackUptoCard

/-- THE SECOND FORM's CARD OF 'millwrightkeep.StaleClosed'. -/
def staleClosedUptoCard : Claim7 := { stood := { row := staleClosedUptoRow, standIns := [], harness := (true, "797ea92b75a1f13f3634a504a85459759596fadb5946d83ee5c41f33c25f98e1"), looks := true }, kinds := [], alts := [], laidByText := true, laidKinds := [.data], laidTests := true, laidLooks := .later }
def StaleClosedUptoCardSaid : Prop := Claim7.holds Tryd.pinned (.plain (OpenSpec.upto staleClosedSpec)) staleClosedUptoCard

/-- THE SECOND FORM's CARD OF 'millwrightkeep.StaleMore'. -/
def staleMoreUptoCard : Claim7 := { stood := { row := staleMoreUptoRow, standIns := [], harness := (true, "797ea92b75a1f13f3634a504a85459759596fadb5946d83ee5c41f33c25f98e1"), looks := true }, kinds := [], alts := [], laidByText := true, laidKinds := [.data], laidTests := true, laidLooks := .later }
def StaleMoreUptoCardSaid : Prop := Claim7.holds Tryd.pinned (.plain (OpenSpec.upto staleMoreSpec)) staleMoreUptoCard

/-- THE SECOND FORM's CARD OF 'millwrightkeep.StaleOnly'. -/
def staleOnlyUptoCard : Claim7 := { stood := { row := staleOnlyUptoRow, standIns := [], harness := (true, "797ea92b75a1f13f3634a504a85459759596fadb5946d83ee5c41f33c25f98e1"), looks := true }, kinds := [], alts := [], laidByText := true, laidKinds := [.data], laidTests := true, laidLooks := .later }
def StaleOnlyUptoCardSaid : Prop := Claim7.holds Tryd.pinned (.plain (OpenSpec.upto staleOnlySpec)) staleOnlyUptoCard

/-- THE SECOND FORM's CARD OF 'millwrightkeep.StaleUsers'. -/
def staleUsersUptoCard : Claim7 := { stood := { row := staleUsersUptoRow, standIns := [], harness := (true, "797ea92b75a1f13f3634a504a85459759596fadb5946d83ee5c41f33c25f98e1"), looks := true }, kinds := [], alts := [], laidByText := true, laidKinds := [.data], laidTests := true, laidLooks := .later }
def StaleUsersUptoCardSaid : Prop := Claim7.holds Tryd.pinned (.plain (OpenSpec.upto staleUsersSpec)) staleUsersUptoCard
end Rows
end Go.Proofs.YtcgimnokdicmcaaDoor
