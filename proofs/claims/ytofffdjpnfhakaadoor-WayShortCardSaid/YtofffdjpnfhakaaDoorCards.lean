/-
  DERIVED. GIVEN WITH THE SEED: THE CARDS: each row of YtofffdjpnfhakaaDoorRows.lean that lists a variable, with what it lists TIED to the program's text (the seventh form; the later family's looks); each row that meets fmt, with fmt's text TOLD by the authors' own Lean function (tested against real Go, not proved from fmt's source: count such statements apart). THE CARD IS WHAT COUNTS. Prove the row's statement (the work); the ties are given (YtofffdjpnfhakaaDoorTie.lean); close each card by the builder's one call (the guide's Derived/Test/ToyasCard.lean, 'card_holds'). Laid BY PROGRAM, IN A SANDBOX (cutbox-door.mjs). By AI agents, Wed Nov 11 2026. No macro, syntax, notation, axiom, sorry.
-/
import Derived.Test.YtofffdjpnfhakaaDoorRows
import GoSem.ClaimSeven
namespace Go.Proofs.YtofffdjpnfhakaaDoor
namespace Rows

/-- THE TIED CARD OF 'millwrightkeep.BitsRank'. -/
def bitsRankCard : Claim7 := { stood := { row := bitsRankRow, standIns := [], harness := (true, "b83aae281adf1cce7d4dd364a506b37ef1f9394ef5f2dbaf0f53adf927eb0def"), looks := false }, kinds := [], alts := [], laidByText := true, laidKinds := [.data], laidTests := true, laidLooks := .later }
def BitsRankCardSaid : Prop := Claim7.holds Tryd.pinned (.plain (OpenSpec.ofChange bitsRankSpec)) bitsRankCard

/-- THE TIED CARD OF 'millwrightkeep.BitsBack'. -/
def bitsBackCard : Claim7 := { stood := { row := bitsBackRow, standIns := [], harness := (true, "b83aae281adf1cce7d4dd364a506b37ef1f9394ef5f2dbaf0f53adf927eb0def"), looks := false }, kinds := [], alts := [], laidByText := true, laidKinds := [.data], laidTests := true, laidLooks := .later }
def BitsBackCardSaid : Prop := Claim7.holds Tryd.pinned (.plain (OpenSpec.ofChange bitsBackSpec)) bitsBackCard

/-- THE TIED CARD OF 'millwrightkeep.ReachLeast'. -/
def reachLeastCard : Claim7 := { stood := { row := reachLeastRow, standIns := [], harness := (true, "b83aae281adf1cce7d4dd364a506b37ef1f9394ef5f2dbaf0f53adf927eb0def"), looks := false }, kinds := [], alts := [], laidByText := true, laidKinds := [.data], laidTests := true, laidLooks := .later }
def ReachLeastCardSaid : Prop := Claim7.holds Tryd.pinned (.plain (OpenSpec.ofChange reachLeastSpec)) reachLeastCard

/-- THE TIED CARD OF 'millwrightkeep.ReachDepth'. -/
def reachDepthCard : Claim7 := { stood := { row := reachDepthRow, standIns := [], harness := (true, "b83aae281adf1cce7d4dd364a506b37ef1f9394ef5f2dbaf0f53adf927eb0def"), looks := false }, kinds := [], alts := [], laidByText := true, laidKinds := [.data], laidTests := true, laidLooks := .later }
def ReachDepthCardSaid : Prop := Claim7.holds Tryd.pinned (.plain (OpenSpec.ofChange reachDepthSpec)) reachDepthCard

/-- THE TIED CARD OF 'millwrightkeep.KnotOrder'. -/
def knotOrderCard : Claim7 := { stood := { row := knotOrderRow, standIns := [], harness := (true, "b83aae281adf1cce7d4dd364a506b37ef1f9394ef5f2dbaf0f53adf927eb0def"), looks := false }, kinds := [], alts := [], laidByText := true, laidKinds := [.data], laidTests := true, laidLooks := .later }
def KnotOrderCardSaid : Prop := Claim7.holds Tryd.pinned (.plain (OpenSpec.ofChange knotOrderSpec)) knotOrderCard

/-- THE TIED CARD OF 'millwrightkeep.KnotRing'. -/
def knotRingCard : Claim7 := { stood := { row := knotRingRow, standIns := [], harness := (true, "b83aae281adf1cce7d4dd364a506b37ef1f9394ef5f2dbaf0f53adf927eb0def"), looks := false }, kinds := [], alts := [], laidByText := true, laidKinds := [.data], laidTests := true, laidLooks := .later }
def KnotRingCardSaid : Prop := Claim7.holds Tryd.pinned (.plain (OpenSpec.ofChange knotRingSpec)) knotRingCard

/-- THE TIED CARD OF 'millwrightkeep.ReachClosed'. -/
def reachClosedCard : Claim7 := { stood := { row := reachClosedRow, standIns := [], harness := (true, "b83aae281adf1cce7d4dd364a506b37ef1f9394ef5f2dbaf0f53adf927eb0def"), looks := false }, kinds := [], alts := [], laidByText := true, laidKinds := [.data], laidTests := true, laidLooks := .later }
def ReachClosedCardSaid : Prop := Claim7.holds Tryd.pinned (.plain (OpenSpec.ofChange reachClosedSpec)) reachClosedCard

/-- THE TIED CARD OF 'millwrightkeep.ReachBetween'. -/
def reachBetweenCard : Claim7 := { stood := { row := reachBetweenRow, standIns := [], harness := (true, "b83aae281adf1cce7d4dd364a506b37ef1f9394ef5f2dbaf0f53adf927eb0def"), looks := false }, kinds := [], alts := [], laidByText := true, laidKinds := [.data], laidTests := true, laidLooks := .later }
def ReachBetweenCardSaid : Prop := Claim7.holds Tryd.pinned (.plain (OpenSpec.ofChange reachBetweenSpec)) reachBetweenCard

/-- THE TIED CARD OF 'millwrightkeep.ReachBack'. -/
def reachBackCard : Claim7 := { stood := { row := reachBackRow, standIns := [], harness := (true, "b83aae281adf1cce7d4dd364a506b37ef1f9394ef5f2dbaf0f53adf927eb0def"), looks := false }, kinds := [], alts := [], laidByText := true, laidKinds := [.data], laidTests := true, laidLooks := .later }
def ReachBackCardSaid : Prop := Claim7.holds Tryd.pinned (.plain (OpenSpec.ofChange reachBackSpec)) reachBackCard

/-- THE TIED CARD OF 'millwrightkeep.WayStep'. -/
def wayStepCard : Claim7 := { stood := { row := wayStepRow, standIns := [], harness := (true, "b83aae281adf1cce7d4dd364a506b37ef1f9394ef5f2dbaf0f53adf927eb0def"), looks := false }, kinds := [], alts := [], laidByText := true, laidKinds := [.data], laidTests := true, laidLooks := .later }
def WayStepCardSaid : Prop := Claim7.holds Tryd.pinned (.plain (OpenSpec.ofChange wayStepSpec)) wayStepCard

/-- THE TIED CARD OF 'millwrightkeep.WayThere'. -/
def wayThereCard : Claim7 := { stood := { row := wayThereRow, standIns := [], harness := (true, "b83aae281adf1cce7d4dd364a506b37ef1f9394ef5f2dbaf0f53adf927eb0def"), looks := false }, kinds := [], alts := [], laidByText := true, laidKinds := [.data], laidTests := true, laidLooks := .later }
def WayThereCardSaid : Prop := Claim7.holds Tryd.pinned (.plain (OpenSpec.ofChange wayThereSpec)) wayThereCard

/-- THE TIED CARD OF 'millwrightkeep.WayShort'. -/
def wayShortCard : Claim7 := { stood := { row := wayShortRow, standIns := [], harness := (true, "b83aae281adf1cce7d4dd364a506b37ef1f9394ef5f2dbaf0f53adf927eb0def"), looks := false }, kinds := [], alts := [], laidByText := true, laidKinds := [.data], laidTests := true, laidLooks := .later }
def WayShortCardSaid : Prop := Claim7.holds Tryd.pinned (.plain (OpenSpec.ofChange wayShortSpec)) wayShortCard

/-- THE SECOND FORM's CARD OF 'millwrightkeep.BitsRank'. -/
def bitsRankUptoCard : Claim7 := { stood := { row := bitsRankUptoRow, standIns := [], harness := (true, "b83aae281adf1cce7d4dd364a506b37ef1f9394ef5f2dbaf0f53adf927eb0def"), looks := false }, kinds := [], alts := [], laidByText := true, laidKinds := [.data], laidTests := true, laidLooks := .later }
def BitsRankUptoCardSaid : Prop := Claim7.holds Tryd.pinned (.plain (OpenSpec.upto bitsRankSpec)) bitsRankUptoCard

/-- THE SECOND FORM's CARD OF 'millwrightkeep.BitsBack'. -/
def bitsBackUptoCard : Claim7 := { stood := { row := bitsBackUptoRow, standIns := [], harness := (true, "b83aae281adf1cce7d4dd364a506b37ef1f9394ef5f2dbaf0f53adf927eb0def"), looks := false }, kinds := [], alts := [], laidByText := true, laidKinds := [.data], laidTests := true, laidLooks := .later }
def BitsBackUptoCardSaid : Prop := Claim7.holds Tryd.pinned (.plain (OpenSpec.upto bitsBackSpec)) bitsBackUptoCard

/-- THE SECOND FORM's CARD OF 'millwrightkeep.ReachLeast'. -/
def reachLeastUptoCard : Claim7 := { stood := { row := reachLeastUptoRow, standIns := [], harness := (true, "b83aae281adf1cce7d4dd364a506b37ef1f9394ef5f2dbaf0f53adf927eb0def"), looks := false }, kinds := [], alts := [], laidByText := true, laidKinds := [.data], laidTests := true, laidLooks := .later }
def ReachLeastUptoCardSaid : Prop := Claim7.holds Tryd.pinned (.plain (OpenSpec.upto reachLeastSpec)) reachLeastUptoCard

/-- THE SECOND FORM's CARD OF 'millwrightkeep.ReachDepth'. -/
def reachDepthUptoCard : Claim7 := { stood := { row := reachDepthUptoRow, standIns := [], harness := (true, "b83aae281adf1cce7d4dd364a506b37ef1f9394ef5f2dbaf0f53adf927eb0def"), looks := false }, kinds := [], alts := [], laidByText := true, laidKinds := [.data], laidTests := true, laidLooks := .later }
def ReachDepthUptoCardSaid : Prop := Claim7.holds Tryd.pinned (.plain (OpenSpec.upto reachDepthSpec)) reachDepthUptoCard

/-- THE SECOND FORM's CARD OF 'millwrightkeep.KnotOrder'. -/
def knotOrderUptoCard : Claim7 := { stood := { row := knotOrderUptoRow, standIns := [], harness := (true, "b83aae281adf1cce7d4dd364a506b37ef1f9394ef5f2dbaf0f53adf927eb0def"), looks := false }, kinds := [], alts := [], laidByText := true, laidKinds := [.data], laidTests := true, laidLooks := .later }
def KnotOrderUptoCardSaid : Prop := Claim7.holds Tryd.pinned (.plain (OpenSpec.upto knotOrderSpec)) knotOrderUptoCard

/-- THE SECOND FORM's CARD OF 'millwrightkeep.KnotRing'. -/
def knotRingUptoCard : Claim7 := { stood := { row := knotRingUptoRow, standIns := [], harness := (true, "b83aae281adf1cce7d4dd364a506b37ef1f9394ef5f2dbaf0f53adf927eb0def"), looks := false }, kinds := [], alts := [], laidByText := true, laidKinds := [.data], laidTests := true, laidLooks := .later }
def KnotRingUptoCardSaid : Prop := Claim7.holds Tryd.pinned (.plain (OpenSpec.upto knotRingSpec)) knotRingUptoCard

/-- THE SECOND FORM's CARD OF 'millwrightkeep.ReachClosed'. -/
def reachClosedUptoCard : Claim7 := { stood := { row := reachClosedUptoRow, standIns := [], harness := (true, "b83aae281adf1cce7d4dd364a506b37ef1f9394ef5f2dbaf0f53adf927eb0def"), looks := false }, kinds := [], alts := [], laidByText := true, laidKinds := [.data], laidTests := true, laidLooks := .later }
def ReachClosedUptoCardSaid : Prop := Claim7.holds Tryd.pinned (.plain (OpenSpec.upto reachClosedSpec)) reachClosedUptoCard

/-- THE SECOND FORM's CARD OF 'millwrightkeep.ReachBetween'. -/
def reachBetweenUptoCard : Claim7 := { stood := { row := reachBetweenUptoRow, standIns := [], harness := (true, "b83aae281adf1cce7d4dd364a506b37ef1f9394ef5f2dbaf0f53adf927eb0def"), looks := false }, kinds := [], alts := [], laidByText := true, laidKinds := [.data], laidTests := true, laidLooks := .later }
def ReachBetweenUptoCardSaid : Prop := Claim7.holds Tryd.pinned (.plain (OpenSpec.upto reachBetweenSpec)) reachBetweenUptoCard

/-- THE SECOND FORM's CARD OF 'millwrightkeep.ReachBack'. -/
def reachBackUptoCard : Claim7 := { stood := { row := reachBackUptoRow, standIns := [], harness := (true, "b83aae281adf1cce7d4dd364a506b37ef1f9394ef5f2dbaf0f53adf927eb0def"), looks := false }, kinds := [], alts := [], laidByText := true, laidKinds := [.data], laidTests := true, laidLooks := .later }
def ReachBackUptoCardSaid : Prop := Claim7.holds Tryd.pinned (.plain (OpenSpec.upto reachBackSpec)) reachBackUptoCard

/-- THE SECOND FORM's CARD OF 'millwrightkeep.WayStep'. -/
def wayStepUptoCard : Claim7 := { stood := { row := wayStepUptoRow, standIns := [], harness := (true, "b83aae281adf1cce7d4dd364a506b37ef1f9394ef5f2dbaf0f53adf927eb0def"), looks := false }, kinds := [], alts := [], laidByText := true, laidKinds := [.data], laidTests := true, laidLooks := .later }
def WayStepUptoCardSaid : Prop := Claim7.holds Tryd.pinned (.plain (OpenSpec.upto wayStepSpec)) wayStepUptoCard

/-- THE SECOND FORM's CARD OF 'millwrightkeep.WayThere'. -/
def wayThereUptoCard : Claim7 := { stood := { row := wayThereUptoRow, standIns := [], harness := (true, "b83aae281adf1cce7d4dd364a506b37ef1f9394ef5f2dbaf0f53adf927eb0def"), looks := false }, kinds := [], alts := [], laidByText := true, laidKinds := [.data], laidTests := true, laidLooks := .later }
def WayThereUptoCardSaid : Prop := Claim7.holds Tryd.pinned (.plain (OpenSpec.upto wayThereSpec)) wayThereUptoCard

/-- THE SECOND FORM's CARD OF 'millwrightkeep.WayShort'. -/
def wayShortUptoCard : Claim7 := { stood := { row := wayShortUptoRow, standIns := [], harness := (true, "b83aae281adf1cce7d4dd364a506b37ef1f9394ef5f2dbaf0f53adf927eb0def"), looks := false }, kinds := [], alts := [], laidByText := true, laidKinds := [.data], laidTests := true, laidLooks := .later }
def WayShortUptoCardSaid : Prop := Claim7.holds Tryd.pinned (.plain (OpenSpec.upto wayShortSpec)) wayShortUptoCard
end Rows
end Go.Proofs.YtofffdjpnfhakaaDoor
