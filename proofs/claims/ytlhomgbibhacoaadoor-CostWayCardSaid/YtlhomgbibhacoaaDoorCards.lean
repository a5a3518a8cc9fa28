/-
  DERIVED. GIVEN WITH THE SEED: THE CARDS: each row of YtlhomgbibhacoaaDoorRows.lean that lists a variable, with what it lists TIED to the program's text (the seventh form; the later family's looks); each row that meets fmt, with fmt's text TOLD by the authors' own Lean function (tested against real Go, not proved from fmt's source: count such statements apart). THE CARD IS WHAT COUNTS. Prove the row's statement (the work); the ties are given (YtlhomgbibhacoaaDoorTie.lean); close each card by the builder's one call (the guide's Derived/Test/ToyasCard.lean, 'card_holds'). Laid BY PROGRAM, IN A SANDBOX (cutbox-door.mjs). By AI agents, Wed Nov 11 2026. No macro, syntax, notation, axiom, sorry.
-/
import Derived.Test.YtlhomgbibhacoaaDoorRows
import GoSem.ClaimSeven
namespace Go.Proofs.YtlhomgbibhacoaaDoor
namespace Rows

/-- THE TIED CARD OF 'millwrightkeep.SpanText'. -/
def spanTextCard : Claim7 := { stood := { row := spanTextRow, standIns := [], harness := (true, "47fc5c9b9a8af8b89ba4364439eb6a03e8405f67a56e5ce2fe3f6b4542d5bdc6"), looks := true }, kinds := [], alts := [], laidByText := true, laidKinds := [.data, .data, .data, .sentinel, .sentinel], laidTests := true, laidLooks := .later }
def SpanTextCardSaid : Prop := Claim7.holds Tryd.pinned (.plain (OpenSpec.ofChange spanTextSpec)) spanTextCard

/-- THE TIED CARD OF 'millwrightkeep.CostMore'. -/
def costMoreCard : Claim7 := { stood := { row := costMoreRow, standIns := [], harness := (true, "47fc5c9b9a8af8b89ba4364439eb6a03e8405f67a56e5ce2fe3f6b4542d5bdc6"), looks := true }, kinds := [], alts := [], laidByText := true, laidKinds := [.data], laidTests := true, laidLooks := .later }
def CostMoreCardSaid : Prop := Claim7.holds Tryd.pinned (.plain (OpenSpec.ofChange costMoreSpec)) costMoreCard

/-- THE TIED CARD OF 'millwrightkeep.CostLeast'. -/
def costLeastCard : Claim7 := { stood := { row := costLeastRow, standIns := [], harness := (true, "47fc5c9b9a8af8b89ba4364439eb6a03e8405f67a56e5ce2fe3f6b4542d5bdc6"), looks := true }, kinds := [], alts := [], laidByText := true, laidKinds := [.data], laidTests := true, laidLooks := .later }
def CostLeastCardSaid : Prop := Claim7.holds Tryd.pinned (.plain (OpenSpec.ofChange costLeastSpec)) costLeastCard

/-- THE TIED CARD OF 'millwrightkeep.CostWay'. -/
def costWayCard : Claim7 := { stood := { row := costWayRow, standIns := [], harness := (true, "47fc5c9b9a8af8b89ba4364439eb6a03e8405f67a56e5ce2fe3f6b4542d5bdc6"), looks := true }, kinds := [], alts := [], laidByText := true, laidKinds := [.data], laidTests := true, laidLooks := .later }
def CostWayCardSaid : Prop := Claim7.holds Tryd.pinned (.plain (OpenSpec.ofChange costWaySpec)) costWayCard

/-- THE SECOND FORM's CARD OF 'millwrightkeep.SpanText'. -/
def spanTextUptoCard : Claim7 := { stood := { row := spanTextUptoRow, standIns := [], harness := (true, "47fc5c9b9a8af8b89ba4364439eb6a03e8405f67a56e5ce2fe3f6b4542d5bdc6"), looks := true }, kinds := [], alts := [], laidByText := true, laidKinds := [.data, .data, .data, .sentinel, .sentinel], laidTests := true, laidLooks := .later }
def SpanTextUptoCardSaid : Prop := Claim7.holds Tryd.pinned (.plain (OpenSpec.upto spanTextSpec)) spanTextUptoCard

/-- THE SECOND FORM's CARD OF 'millwrightkeep.CostMore'. -/
def costMoreUptoCard : Claim7 := { stood := { row := costMoreUptoRow, standIns := [], harness := (true, "47fc5c9b9a8af8b89ba4364439eb6a03e8405f67a56e5ce2fe3f6b4542d5bdc6"), looks := true }, kinds := [], alts := [], laidByText := true, laidKinds := [.data], laidTests := true, laidLooks := .later }
def CostMoreUptoCardSaid : Prop := Claim7.holds Tryd.pinned (.plain (OpenSpec.upto costMoreSpec)) costMoreUptoCard

/-- THE SECOND FORM's CARD OF 'millwrightkeep.CostLeast'. -/
def costLeastUptoCard : Claim7 := { stood := { row := costLeastUptoRow, standIns := [], harness := (true, "47fc5c9b9a8af8b89ba4364439eb6a03e8405f67a56e5ce2fe3f6b4542d5bdc6"), looks := true }, kinds := [], alts := [], laidByText := true, laidKinds := [.data], laidTests := true, laidLooks := .later }
def CostLeastUptoCardSaid : Prop := Claim7.holds Tryd.pinned (.plain (OpenSpec.upto costLeastSpec)) costLeastUptoCard

/-- THE SECOND FORM's CARD OF 'millwrightkeep.CostWay'. -/
def costWayUptoCard : Claim7 := { stood := { row := costWayUptoRow, standIns := [], harness := (true, "47fc5c9b9a8af8b89ba4364439eb6a03e8405f67a56e5ce2fe3f6b4542d5bdc6"), looks := true }, kinds := [], alts := [], laidByText := true, laidKinds := [.data], laidTests := true, laidLooks := .later }
def CostWayUptoCardSaid : Prop := Claim7.holds Tryd.pinned (.plain (OpenSpec.upto costWaySpec)) costWayUptoCard
end Rows
end Go.Proofs.YtlhomgbibhacoaaDoor
