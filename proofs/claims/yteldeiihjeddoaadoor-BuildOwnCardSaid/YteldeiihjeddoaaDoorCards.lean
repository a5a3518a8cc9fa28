/-
  DERIVED. GIVEN WITH THE SEED: THE CARDS: each row of YteldeiihjeddoaaDoorRows.lean that lists a variable, with what it lists TIED to the program's text (the seventh form; the later family's looks); each row that meets fmt, with fmt's text TOLD by the authors' own Lean function (tested against real Go, not proved from fmt's source: count such statements apart). THE CARD IS WHAT COUNTS. Prove the row's statement (the work); the ties are given (YteldeiihjeddoaaDoorTie.lean); close each card by the builder's one call (the guide's Derived/Test/ToyasCard.lean, 'card_holds'). Laid BY PROGRAM, IN A SANDBOX (cutbox-door.mjs). By AI agents, Wed Nov 11 2026. No macro, syntax, notation, axiom, sorry.
-/
import Derived.Test.YteldeiihjeddoaaDoorRows
import GoSem.ClaimSeven
namespace Go.Proofs.YteldeiihjeddoaaDoor
namespace Rows

/-- THE TIED CARD OF 'millwrightkeep.StaleClosed'. -/
def staleClosedCard : Claim7 := { stood := { row := staleClosedRow, standIns := [], harness := (true, "1ab1f131a0342cadc259f90c5795da27f9d23d6625e27d7e47e77448521e4127"), looks := false }, kinds := [], alts := [], laidByText := true, laidKinds := [.data], laidTests := true, laidLooks := .later }
def StaleClosedCardSaid : Prop := Claim7.holds Tryd.pinned (.plain (OpenSpec.ofChange staleClosedSpec)) staleClosedCard

/-- THE TIED CARD OF 'millwrightkeep.StaleOnly'. -/
def staleOnlyCard : Claim7 := { stood := { row := staleOnlyRow, standIns := [], harness := (true, "1ab1f131a0342cadc259f90c5795da27f9d23d6625e27d7e47e77448521e4127"), looks := false }, kinds := [], alts := [], laidByText := true, laidKinds := [.data], laidTests := true, laidLooks := .later }
def StaleOnlyCardSaid : Prop := Claim7.holds Tryd.pinned (.plain (OpenSpec.ofChange staleOnlySpec)) staleOnlyCard

/-- THE TIED CARD OF 'millwrightkeep.StaleUsers'. -/
def staleUsersCard : Claim7 := { stood := { row := staleUsersRow, standIns := [], harness := (true, "1ab1f131a0342cadc259f90c5795da27f9d23d6625e27d7e47e77448521e4127"), looks := false }, kinds := [], alts := [], laidByText := true, laidKinds := [.data], laidTests := true, laidLooks := .later }
def StaleUsersCardSaid : Prop := Claim7.holds Tryd.pinned (.plain (OpenSpec.ofChange staleUsersSpec)) staleUsersCard

/-- THE TIED CARD OF 'millwrightkeep.WhyDeep'. -/
def whyDeepCard : Claim7 := { stood := { row := whyDeepRow, standIns := [], harness := (true, "1ab1f131a0342cadc259f90c5795da27f9d23d6625e27d7e47e77448521e4127"), looks := false }, kinds := [], alts := [], laidByText := true, laidKinds := [.data], laidTests := true, laidLooks := .later }
def WhyDeepCardSaid : Prop := Claim7.holds Tryd.pinned (.plain (OpenSpec.ofChange whyDeepSpec)) whyDeepCard

/-- THE TIED CARD OF 'millwrightkeep.WhyTold'. -/
def whyToldCard : Claim7 := { stood := { row := whyToldRow, standIns := [], harness := (true, "1ab1f131a0342cadc259f90c5795da27f9d23d6625e27d7e47e77448521e4127"), looks := false }, kinds := [], alts := [], laidByText := true, laidKinds := [.data], laidTests := true, laidLooks := .later }
def WhyToldCardSaid : Prop := Claim7.holds Tryd.pinned (.plain (OpenSpec.ofChange whyToldSpec)) whyToldCard

/-- THE TIED CARD OF 'millwrightkeep.WhySound'. -/
def whySoundCard : Claim7 := { stood := { row := whySoundRow, standIns := [], harness := (true, "1ab1f131a0342cadc259f90c5795da27f9d23d6625e27d7e47e77448521e4127"), looks := false }, kinds := [], alts := [], laidByText := true, laidKinds := [.data], laidTests := true, laidLooks := .later }
def WhySoundCardSaid : Prop := Claim7.holds Tryd.pinned (.plain (OpenSpec.ofChange whySoundSpec)) whySoundCard

/-- THE TIED CARD OF 'millwrightkeep.BuildOrder'. -/
def buildOrderCard : Claim7 := { stood := { row := buildOrderRow, standIns := [], harness := (true, "1ab1f131a0342cadc259f90c5795da27f9d23d6625e27d7e47e77448521e4127"), looks := false }, kinds := [], alts := [], laidByText := true, laidKinds := [.data], laidTests := true, laidLooks := .later }
def BuildOrderCardSaid : Prop := Claim7.holds Tryd.pinned (.plain (OpenSpec.ofChange buildOrderSpec)) buildOrderCard

/-- THE TIED CARD OF 'millwrightkeep.BuildOwn'. -/
def buildOwnCard : Claim7 := { stood := { row := buildOwnRow, standIns := [], harness := (true, "1ab1f131a0342cadc259f90c5795da27f9d23d6625e27d7e47e77448521e4127"), looks := false }, kinds := [], alts := [], laidByText := true, laidKinds := [.data], laidTests := true, laidLooks := .later }
def BuildOwnCardSaid : Prop := Claim7.holds Tryd.pinned (.plain (OpenSpec.ofChange buildOwnSpec)) buildOwnCard

/-- THE TIED CARD OF 'millwrightkeep.BuildDone'. -/
def buildDoneCard : Claim7 := { stood := { row := buildDoneRow, standIns := [], harness := (true, "1ab1f131a0342cadc259f90c5795da27f9d23d6625e27d7e47e77448521e4127"), looks := false }, kinds := [], alts := [], laidByText := true, laidKinds := [.data], laidTests := true, laidLooks := .later }
def BuildDoneCardSaid : Prop := Claim7.holds Tryd.pinned (.plain (OpenSpec.ofChange buildDoneSpec)) buildDoneCard

/-- THE TIED CARD OF 'millwrightkeep.GraphPart'. -/
def graphPartCard : Claim7 := { stood := { row := graphPartRow, standIns := [], harness := (true, "1ab1f131a0342cadc259f90c5795da27f9d23d6625e27d7e47e77448521e4127"), looks := false }, kinds := [], alts := [], laidByText := true, laidKinds := [.data], laidTests := true, laidLooks := .later }
def GraphPartCardSaid : Prop := Claim7.holds Tryd.pinned (.plain (OpenSpec.ofChange graphPartSpec)) graphPartCard

/-- THE TIED CARD OF 'millwrightkeep.GraphOwn'. -/
def graphOwnCard : Claim7 := { stood := { row := graphOwnRow, standIns := [], harness := (true, "1ab1f131a0342cadc259f90c5795da27f9d23d6625e27d7e47e77448521e4127"), looks := false }, kinds := [], alts := [], laidByText := true, laidKinds := [.data], laidTests := true, laidLooks := .later }
def GraphOwnCardSaid : Prop := Claim7.holds Tryd.pinned (.plain (OpenSpec.ofChange graphOwnSpec)) graphOwnCard

/-- THE SECOND FORM's CARD OF 'millwrightkeep.StaleClosed'. -/
def staleClosedUptoCard : Claim7 := { stood := { row := staleClosedUptoRow, standIns := [], harness := (true, "1ab1f131a0342cadc259f90c5795da27f9d23d6625e27d7e47e77448521e4127"), looks := false }, kinds := [], alts := [], laidByText := true, laidKinds := [.data], laidTests := true, laidLooks := .later }
def StaleClosedUptoCardSaid : Prop := Claim7.holds Tryd.pinned (.plain (OpenSpec.upto staleClosedSpec)) staleClosedUptoCard

/-- THE SECOND FORM's CARD OF 'millwrightkeep.StaleOnly'. -/
def staleOnlyUptoCard : Claim7 := { stood := { row := staleOnlyUptoRow, standIns := [], harness := (true, "1ab1f131a0342cadc259f90c5795da27f9d23d6625e27d7e47e77448521e4127"), looks := false }, kinds := [], alts := [], laidByText := true, laidKinds := [.data], laidTests := true, laidLooks := .later }
def StaleOnlyUptoCardSaid : Prop := Claim7.holds Tryd.pinned (.plain (OpenSpec.upto staleOnlySpec)) staleOnlyUptoCard

/-- THE SECOND FORM's CARD OF 'millwrightkeep.StaleUsers'. -/
def staleUsersUptoCard : Claim7 := { stood := { row := staleUsersUptoRow, standIns := [], harness := (true, "1ab1f131a0342cadc259f90c5795da27f9d23d6625e27d7e47e77448521e4127"), looks := false }, kinds := [], alts := [], laidByText := true, laidKinds := [.data], laidTests := true, laidLooks := .later }
def StaleUsersUptoCardSaid : Prop := Claim7.holds Tryd.pinned (.plain (OpenSpec.upto staleUsersSpec)) staleUsersUptoCard

/-- THE SECOND FORM's CARD OF 'millwrightkeep.WhyDeep'. -/
def whyDeepUptoCard : Claim7 := { stood := { row := whyDeepUptoRow, standIns := [], harness := (true, "1ab1f131a0342cadc259f90c5795da27f9d23d6625e27d7e47e77448521e4127"), looks := false }, kinds := [], alts := [], laidByText := true, laidKinds := [.data], laidTests := true, laidLooks := .later }
def WhyDeepUptoCardSaid : Prop := Claim7.holds Tryd.pinned (.plain (OpenSpec.upto whyDeepSpec)) whyDeepUptoCard

/-- THE SECOND FORM's CARD OF 'millwrightkeep.WhyTold'. -/
def whyToldUptoCard : Claim7 := { stood := { row := whyToldUptoRow, standIns := [], harness := (true, "1ab1f131a0342cadc259f90c5795da27f9d23d6625e27d7e47e77448521e4127"), looks := false }, kinds := [], alts := [], laidByText := true, laidKinds := [.data], laidTests := true, laidLooks := .later }
def WhyToldUptoCardSaid : Prop := Claim7.holds Tryd.pinned (.plain (OpenSpec.upto whyToldSpec)) whyToldUptoCard

/-- THE SECOND FORM's CARD OF 'millwrightkeep.WhySound'. -/
def whySoundUptoCard : Claim7 := { stood := { row := whySoundUptoRow, standIns := [], harness := (true, "1ab1f131a0342cadc259f90c5795da27f9d23d6625e27d7e47e77448521e4127"), looks := false }, kinds := [], alts := [], laidByText := true, laidKinds := [.data], laidTests := true, laidLooks := .later }
def WhySoundUptoCardSaid : Prop := Claim7.holds Tryd.pinned (.plain (OpenSpec.upto whySoundSpec)) whySoundUptoCard

/-- THE SECOND FORM's CARD OF 'millwrightkeep.BuildOrder'. -/
def buildOrderUptoCard : Claim7 := { stood := { row := buildOrderUptoRow, standIns := [], harness := (true, "1ab1f131a0342cadc259f90c5795da27f9d23d6625e27d7e47e77448521e4127"), looks := false }, kinds := [], alts := [], laidByText := true, laidKinds := [.data], laidTests := true, laidLooks := .later }
def BuildOrderUptoCardSaid : Prop := Claim7.holds Tryd.pinned (.plain (OpenSpec.upto buildOrderSpec)) buildOrderUptoCard

/-- THE SECOND FORM's CARD OF 'millwrightkeep.BuildOwn'. -/
def buildOwnUptoCard : Claim7 := { stood := { row := buildOwnUptoRow, standIns := [], harness := (true, "1ab1f131a0342cadc259f90c5795da27f9d23d6625e27d7e47e77448521e4127"), looks := false }, kinds := [], alts := [], laidByText := true, laidKinds := [.data], laidTests := true, laidLooks := .later }
def BuildOwnUptoCardSaid : Prop := Claim7.holds Tryd.pinned (.plain (OpenSpec.upto buildOwnSpec)) buildOwnUptoCard

/-- THE SECOND FORM's CARD OF 'millwrightkeep.BuildDone'. -/
def buildDoneUptoCard : Claim7 := { stood := { row := buildDoneUptoRow, standIns := [], harness := (true, "1ab1f131a0342cadc259f90c5795da27f9d23d6625e27d7e47e77448521e4127"), looks := false }, kinds := [], alts := [], laidByText := true, laidKinds := [.data], laidTests := true, laidLooks := .later }
def BuildDoneUptoCardSaid : Prop := Claim7.holds Tryd.pinned (.plain (OpenSpec.upto buildDoneSpec)) buildDoneUptoCard

/-- THE SECOND FORM's CARD OF 'millwrightkeep.GraphPart'. -/
def graphPartUptoCard : Claim7 := { stood := { row := graphPartUptoRow, standIns := [], harness := (true, "1ab1f131a0342cadc259f90c5795da27f9d23d6625e27d7e47e77448521e4127"), looks := false }, kinds := [], alts := [], laidByText := true, laidKinds := [.data], laidTests := true, laidLooks := .later }
def GraphPartUptoCardSaid : Prop := Claim7.holds Tryd.pinned (.plain (OpenSpec.upto graphPartSpec)) graphPartUptoCard

/-- THE SECOND FORM's CARD OF 'millwrightkeep.GraphOwn'. -/
def graphOwnUptoCard : Claim7 := { stood := { row := graphOwnUptoRow, standIns := [], harness := (true, "1ab1f131a0342cadc259f90c5795da27f9d23d6625e27d7e47e77448521e4127"), looks := false }, kinds := [], alts := [], laidByText := true, laidKinds := [.data], laidTests := true, laidLooks := .later }
def GraphOwnUptoCardSaid : Prop := Claim7.holds Tryd.pinned (.plain (OpenSpec.upto graphOwnSpec)) graphOwnUptoCard
end Rows
end Go.Proofs.YteldeiihjeddoaaDoor
