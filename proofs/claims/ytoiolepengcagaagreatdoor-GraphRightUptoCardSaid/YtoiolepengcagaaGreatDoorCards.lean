/-
  DERIVED. GIVEN WITH THE SEED: THE CARDS: each row of YtoiolepengcagaaGreatDoorRows.lean that lists a variable, with what it lists TIED to the program's text (the seventh form; the later family's looks); each row that meets fmt, with fmt's text TOLD by the authors' own Lean function (tested against real Go, not proved from fmt's source: count such statements apart). THE CARD IS WHAT COUNTS. Prove the row's statement (the work); the ties are given (YtoiolepengcagaaGreatDoorTie.lean); close each card by the builder's one call (the guide's Derived/Test/ToyasCard.lean, 'card_holds'). Laid BY PROGRAM, IN A SANDBOX (cutbox-door.mjs). By AI agents, Wed Nov 11 2026. No macro, syntax, notation, axiom, sorry.
-/
import Derived.Test.YtoiolepengcagaaGreatDoorRows
import GoSem.ClaimSeven
namespace Go.Proofs.YtoiolepengcagaaGreatDoor
namespace Rows

/-- THE TIED CARD OF 'millwrightkeep.FileIncludes'. -/
def fileIncludesCard : Claim7 := { stood := { row := fileIncludesRow, standIns := [], harness := (true, "91aa34ad8b6e6f6000c587c9e2a7378887b2012d39b403ee39d188050178304d"), looks := false }, kinds := [], alts := [], laidByText := true, laidKinds := [.data, .pinned], laidTests := true, laidLooks := .later }
def FileIncludesCardSaid : Prop := Claim7.holds Tryz.pinned (.plain (OpenSpec.ofChange fileIncludesSpec)) fileIncludesCard

/-- THE TIED CARD OF 'millwrightkeep.FileOrder'. -/
def fileOrderCard : Claim7 := { stood := { row := fileOrderRow, standIns := [], harness := (true, "91aa34ad8b6e6f6000c587c9e2a7378887b2012d39b403ee39d188050178304d"), looks := false }, kinds := [], alts := [], laidByText := true, laidKinds := [.data, .pinned], laidTests := true, laidLooks := .later }
def FileOrderCardSaid : Prop := Claim7.holds Tryz.pinned (.plain (OpenSpec.ofChange fileOrderSpec)) fileOrderCard

/-- THE TIED CARD OF 'millwrightkeep.FileBack'. -/
def fileBackCard : Claim7 := { stood := { row := fileBackRow, standIns := [], harness := (true, "91aa34ad8b6e6f6000c587c9e2a7378887b2012d39b403ee39d188050178304d"), looks := false }, kinds := [], alts := [], laidByText := true, laidKinds := [.data, .pinned], laidTests := true, laidLooks := .later }
def FileBackCardSaid : Prop := Claim7.holds Tryz.pinned (.plain (OpenSpec.ofChange fileBackSpec)) fileBackCard

/-- THE TIED CARD OF 'millwrightkeep.GraphRight'. -/
def graphRightCard : Claim7 := { stood := { row := graphRightRow, standIns := [], harness := (true, "91aa34ad8b6e6f6000c587c9e2a7378887b2012d39b403ee39d188050178304d"), looks := false }, kinds := [], alts := [], laidByText := true, laidKinds := [.data, .data, .pinned], laidTests := true, laidLooks := .later }
def GraphRightCardSaid : Prop := Claim7.holds Tryz.pinned (.plain (OpenSpec.ofChange graphRightSpec)) graphRightCard

/-- THE SECOND FORM's CARD OF 'millwrightkeep.FileIncludes'. -/
def fileIncludesUptoCard : Claim7 := { stood := { row := fileIncludesUptoRow, standIns := [], harness := (true, "91aa34ad8b6e6f6000c587c9e2a7378887b2012d39b403ee39d188050178304d"), looks := false }, kinds := [], alts := [], laidByText := true, laidKinds := [.data, .pinned], laidTests := true, laidLooks := .later }
def FileIncludesUptoCardSaid : Prop := Claim7.holds Tryz.pinned (.plain (OpenSpec.upto fileIncludesSpec)) fileIncludesUptoCard

/-- THE SECOND FORM's CARD OF 'millwrightkeep.FileOrder'. -/
def fileOrderUptoCard : Claim7 := { stood := { row := fileOrderUptoRow, standIns := [], harness := (true, "91aa34ad8b6e6f6000c587c9e2a7378887b2012d39b403ee39d188050178304d"), looks := false }, kinds := [], alts := [], laidByText := true, laidKinds := [.data, .pinned], laidTests := true, laidLooks := .later }
def FileOrderUptoCardSaid : Prop := Claim7.holds Tryz.pinned (.plain (OpenSpec.upto fileOrderSpec)) fileOrderUptoCard

/-- THE SECOND FORM's CARD OF 'millwrightkeep.FileBack'. -/
def fileBackUptoCard : Claim7 := { stood := { row := fileBackUptoRow, standIns := [], harness := (true, "91aa34ad8b6e6f6000c587c9e2a7378887b2012d39b403ee39d188050178304d"), looks := false }, kinds := [], alts := [], laidByText := true, laidKinds := [.data, .pinned], laidTests := true, laidLooks := .later }
def FileBackUptoCardSaid : Prop := Claim7.holds Tryz.pinned (.plain (OpenSpec.upto fileBackSpec)) fileBackUptoCard

/-- THE SECOND FORM's CARD OF 'millwrightkeep.GraphRight'. -/
def graphRightUptoCard : Claim7 := { stood := { row := graphRightUptoRow, standIns := [], harness := (true, "91aa34ad8b6e6f6000c587c9e2a7378887b2012d39b403ee39d188050178304d"), looks := false }, kinds := [], alts := [], laidByText := true, laidKinds := [.data, .data, .pinned], laidTests := true, laidLooks := .later }
def GraphRightUptoCardSaid : Prop := Claim7.holds Tryz.pinned (.plain (OpenSpec.upto graphRightSpec)) graphRightUptoCard
end Rows
end Go.Proofs.YtoiolepengcagaaGreatDoor
