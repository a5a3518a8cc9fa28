/-
  NARROWER THAN 'FOR EVERY INPUT', by the rows' own cells (each row's printed sentence says how): BitsRank: laid · BitsBack: laid · ReachLeast: laid · ReachDepth: laid · KnotOrder: laid · KnotRing: laid · ReachClosed: laid · ReachBetween: laid · ReachBack: laid · WayStep: laid · WayThere: laid · WayShort: laid.
  DERIVED. THE GIVEN ROWS OF THIS SEAT. 12 by the template 'for every input the law returns true; each argument reads behind the call as it read before'; 0 by the template 'total and deterministic' (their statements: YtofffdjpnfhakaaDoorTotals.lean).
  GIVEN WITH THE SEED: the statements are not yours to turn. If you find one false, say at which input.
  Laid BY PROGRAM, IN A SANDBOX (cutbox-rows.mjs): the forced cells as the released guide's own fill.sh prints them over the translation c31ef66dd0848dbe… (all of the seat's roots in one cut). By AI agents, Wed Nov 11 2026. No macro, syntax, notation, axiom, sorry.
-/
import Derived.Test.YtofffdjpnfhakaaDoorChecked
import GoSem.Claim
import GoSem.ClaimJoined
import GoSem.ClaimMapViews
import Derived.JoinedTies
import Derived.KernelRfl
namespace Go.Proofs.YtofffdjpnfhakaaDoor
/- THE CELL 'sum', in the pinned program and in every row, IS THE sha256 OF THE DUMP (.gsa) THAT YtofffdjpnfhakaaDoorProg.lean LOADS. Nothing in Lean hashes anything: it is a label: what it is worth is what the hold of that sum in a sandbox is worth. -/
noncomputable def Tryd.pinned : Pinned := { name := "ytofffdjpnfhakaadoor", sum := "c31ef66dd0848dbe0b410576b4d33c2d642c39324520727ae41a5f7f08fb5836", checked := Tryd.checked }
namespace Rows
def none {H : Type} : Left H := { results := [], args := [] }

/- WHAT THE LISTED PACKAGE-LEVEL VARIABLES READ AS WHEN THE CALL BEGINS. Each datum BY PROGRAM (the guide's laid-datum.mjs) off the statement by which the dump's own 'gosem.cut.vars' lays the variable. In a bare row this is a premise. The card (YtofffdjpnfhakaaDoorCards.lean) ties it to the program's text. -/
def laid_math_bits_deBruijn64tab {H : Type} : DataW H := .agg [.lit (.int .u8 0), .lit (.int .u8 1), .lit (.int .u8 56), .lit (.int .u8 2), .lit (.int .u8 57), .lit (.int .u8 49), .lit (.int .u8 28), .lit (.int .u8 3), .lit (.int .u8 61), .lit (.int .u8 58), .lit (.int .u8 42), .lit (.int .u8 50), .lit (.int .u8 38), .lit (.int .u8 29), .lit (.int .u8 17), .lit (.int .u8 4), .lit (.int .u8 62), .lit (.int .u8 47), .lit (.int .u8 59), .lit (.int .u8 36), .lit (.int .u8 45), .lit (.int .u8 43), .lit (.int .u8 51), .lit (.int .u8 22), .lit (.int .u8 53), .lit (.int .u8 39), .lit (.int .u8 33), .lit (.int .u8 30), .lit (.int .u8 24), .lit (.int .u8 18), .lit (.int .u8 12), .lit (.int .u8 5), .lit (.int .u8 63), .lit (.int .u8 55), .lit (.int .u8 48), .lit (.int .u8 27), .lit (.int .u8 60), .lit (.int .u8 41), .lit (.int .u8 37), .lit (.int .u8 16), .lit (.int .u8 46), .lit (.int .u8 35), .lit (.int .u8 44), .lit (.int .u8 21), .lit (.int .u8 52), .lit (.int .u8 32), .lit (.int .u8 23), .lit (.int .u8 11), .lit (.int .u8 54), .lit (.int .u8 26), .lit (.int .u8 40), .lit (.int .u8 15), .lit (.int .u8 34), .lit (.int .u8 20), .lit (.int .u8 31), .lit (.int .u8 10), .lit (.int .u8 25), .lit (.int .u8 14), .lit (.int .u8 19), .lit (.int .u8 9), .lit (.int .u8 13), .lit (.int .u8 8), .lit (.int .u8 7), .lit (.int .u8 6)]

/-- 'millwrightkeep.BitsRank': WHATEVER THE INPUT: true; the input reads as it did. -/
def bitsRankSpec : ChangeSpec := { name := "bitsRank", fn := fun _ => fun
  | [d1, d2, d3] => { results := [.lit (.bool true)], args := [d1, d2, d3] }
  | _ => none }
def bitsRankRow : OpenClaim := { program := "ytofffdjpnfhakaadoor", sum := "c31ef66dd0848dbe0b410576b4d33c2d642c39324520727ae41a5f7f08fb5836", func := "millwright/millwrightkeep.BitsRank", spec := "bitsRank", named := ["math/bits.deBruijn64tab"], apart := false, laid := [("math/bits.deBruijn64tab", laid_math_bits_deBruijn64tab)] }
def BitsRankSaid : Prop := bitsRankRow.holds Tryd.pinned (OpenSpec.ofChange bitsRankSpec)

/-- ITS FALSE NEIGHBOUR: 'it returns false'. Refute it at one input. -/
def bitsRankWrong : ChangeSpec := { name := "bitsRank", fn := fun _ => fun
  | [d1, d2, d3] => { results := [.lit (.bool false)], args := [d1, d2, d3] }
  | _ => none }
def BitsRankWrongFalsely : Prop := bitsRankRow.holds Tryd.pinned (OpenSpec.ofChange bitsRankWrong)

/-- 'millwrightkeep.BitsBack': WHATEVER THE INPUT: true; the input reads as it did. -/
def bitsBackSpec : ChangeSpec := { name := "bitsBack", fn := fun _ => fun
  | [d] => { results := [.lit (.bool true)], args := [d] }
  | _ => none }
def bitsBackRow : OpenClaim := { program := "ytofffdjpnfhakaadoor", sum := "c31ef66dd0848dbe0b410576b4d33c2d642c39324520727ae41a5f7f08fb5836", func := "millwright/millwrightkeep.BitsBack", spec := "bitsBack", named := ["math/bits.deBruijn64tab"], apart := false, laid := [("math/bits.deBruijn64tab", laid_math_bits_deBruijn64tab)] }
def BitsBackSaid : Prop := bitsBackRow.holds Tryd.pinned (OpenSpec.ofChange bitsBackSpec)

/-- ITS FALSE NEIGHBOUR: 'it returns false'. Refute it at one input. -/
def bitsBackWrong : ChangeSpec := { name := "bitsBack", fn := fun _ => fun
  | [d] => { results := [.lit (.bool false)], args := [d] }
  | _ => none }
def BitsBackWrongFalsely : Prop := bitsBackRow.holds Tryd.pinned (OpenSpec.ofChange bitsBackWrong)

/-- 'millwrightkeep.ReachLeast': WHATEVER THE INPUT: true; the input reads as it did. -/
def reachLeastSpec : ChangeSpec := { name := "reachLeast", fn := fun _ => fun
  | [d1, d2, d3] => { results := [.lit (.bool true)], args := [d1, d2, d3] }
  | _ => none }
def reachLeastRow : OpenClaim := { program := "ytofffdjpnfhakaadoor", sum := "c31ef66dd0848dbe0b410576b4d33c2d642c39324520727ae41a5f7f08fb5836", func := "millwright/millwrightkeep.ReachLeast", spec := "reachLeast", named := ["math/bits.deBruijn64tab"], apart := false, laid := [("math/bits.deBruijn64tab", laid_math_bits_deBruijn64tab)] }
def ReachLeastSaid : Prop := reachLeastRow.holds Tryd.pinned (OpenSpec.ofChange reachLeastSpec)

/-- ITS FALSE NEIGHBOUR: 'it returns false'. Refute it at one input. -/
def reachLeastWrong : ChangeSpec := { name := "reachLeast", fn := fun _ => fun
  | [d1, d2, d3] => { results := [.lit (.bool false)], args := [d1, d2, d3] }
  | _ => none }
def ReachLeastWrongFalsely : Prop := reachLeastRow.holds Tryd.pinned (OpenSpec.ofChange reachLeastWrong)

/-- 'millwrightkeep.ReachDepth': WHATEVER THE INPUT: true; the input reads as it did. -/
def reachDepthSpec : ChangeSpec := { name := "reachDepth", fn := fun _ => fun
  | [d1, d2, d3, d4] => { results := [.lit (.bool true)], args := [d1, d2, d3, d4] }
  | _ => none }
def reachDepthRow : OpenClaim := { program := "ytofffdjpnfhakaadoor", sum := "c31ef66dd0848dbe0b410576b4d33c2d642c39324520727ae41a5f7f08fb5836", func := "millwright/millwrightkeep.ReachDepth", spec := "reachDepth", unfollowed := true, recurses := true, named := ["math/bits.deBruijn64tab"], apart := false, laid := [("math/bits.deBruijn64tab", laid_math_bits_deBruijn64tab)] }
def ReachDepthSaid : Prop := reachDepthRow.holds Tryd.pinned (OpenSpec.ofChange reachDepthSpec)

/-- ITS FALSE NEIGHBOUR: 'it returns false'. Refute it at one input. -/
def reachDepthWrong : ChangeSpec := { name := "reachDepth", fn := fun _ => fun
  | [d1, d2, d3, d4] => { results := [.lit (.bool false)], args := [d1, d2, d3, d4] }
  | _ => none }
def ReachDepthWrongFalsely : Prop := reachDepthRow.holds Tryd.pinned (OpenSpec.ofChange reachDepthWrong)

/-- 'millwrightkeep.KnotOrder': WHATEVER THE INPUT: true; the input reads as it did. -/
def knotOrderSpec : ChangeSpec := { name := "knotOrder", fn := fun _ => fun
  | [d] => { results := [.lit (.bool true)], args := [d] }
  | _ => none }
def knotOrderRow : OpenClaim := { program := "ytofffdjpnfhakaadoor", sum := "c31ef66dd0848dbe0b410576b4d33c2d642c39324520727ae41a5f7f08fb5836", func := "millwright/millwrightkeep.KnotOrder", spec := "knotOrder", named := ["math/bits.deBruijn64tab"], apart := false, laid := [("math/bits.deBruijn64tab", laid_math_bits_deBruijn64tab)] }
def KnotOrderSaid : Prop := knotOrderRow.holds Tryd.pinned (OpenSpec.ofChange knotOrderSpec)

/-- ITS FALSE NEIGHBOUR: 'it returns false'. Refute it at one input. -/
def knotOrderWrong : ChangeSpec := { name := "knotOrder", fn := fun _ => fun
  | [d] => { results := [.lit (.bool false)], args := [d] }
  | _ => none }
def KnotOrderWrongFalsely : Prop := knotOrderRow.holds Tryd.pinned (OpenSpec.ofChange knotOrderWrong)

/-- 'millwrightkeep.KnotRing': WHATEVER THE INPUT: true; the input reads as it did. -/
def knotRingSpec : ChangeSpec := { name := "knotRing", fn := fun _ => fun
  | [d] => { results := [.lit (.bool true)], args := [d] }
  | _ => none }
def knotRingRow : OpenClaim := { program := "ytofffdjpnfhakaadoor", sum := "c31ef66dd0848dbe0b410576b4d33c2d642c39324520727ae41a5f7f08fb5836", func := "millwright/millwrightkeep.KnotRing", spec := "knotRing", named := ["math/bits.deBruijn64tab"], apart := false, laid := [("math/bits.deBruijn64tab", laid_math_bits_deBruijn64tab)] }
def KnotRingSaid : Prop := knotRingRow.holds Tryd.pinned (OpenSpec.ofChange knotRingSpec)

/-- ITS FALSE NEIGHBOUR: 'it returns false'. Refute it at one input. -/
def knotRingWrong : ChangeSpec := { name := "knotRing", fn := fun _ => fun
  | [d] => { results := [.lit (.bool false)], args := [d] }
  | _ => none }
def KnotRingWrongFalsely : Prop := knotRingRow.holds Tryd.pinned (OpenSpec.ofChange knotRingWrong)

/-- 'millwrightkeep.ReachClosed': WHATEVER THE INPUT: true; the input reads as it did. -/
def reachClosedSpec : ChangeSpec := { name := "reachClosed", fn := fun _ => fun
  | [d1, d2, d3] => { results := [.lit (.bool true)], args := [d1, d2, d3] }
  | _ => none }
def reachClosedRow : OpenClaim := { program := "ytofffdjpnfhakaadoor", sum := "c31ef66dd0848dbe0b410576b4d33c2d642c39324520727ae41a5f7f08fb5836", func := "millwright/millwrightkeep.ReachClosed", spec := "reachClosed", unfollowed := true, recurses := true, named := ["math/bits.deBruijn64tab"], apart := false, laid := [("math/bits.deBruijn64tab", laid_math_bits_deBruijn64tab)] }
def ReachClosedSaid : Prop := reachClosedRow.holds Tryd.pinned (OpenSpec.ofChange reachClosedSpec)

/-- ITS FALSE NEIGHBOUR: 'it returns false'. Refute it at one input. -/
def reachClosedWrong : ChangeSpec := { name := "reachClosed", fn := fun _ => fun
  | [d1, d2, d3] => { results := [.lit (.bool false)], args := [d1, d2, d3] }
  | _ => none }
def ReachClosedWrongFalsely : Prop := reachClosedRow.holds Tryd.pinned (OpenSpec.ofChange reachClosedWrong)

/-- 'millwrightkeep.ReachBetween': WHATEVER THE INPUT: true; the input reads as it did. -/
def reachBetweenSpec : ChangeSpec := { name := "reachBetween", fn := fun _ => fun
  | [d1, d2, d3] => { results := [.lit (.bool true)], args := [d1, d2, d3] }
  | _ => none }
def reachBetweenRow : OpenClaim := { program := "ytofffdjpnfhakaadoor", sum := "c31ef66dd0848dbe0b410576b4d33c2d642c39324520727ae41a5f7f08fb5836", func := "millwright/millwrightkeep.ReachBetween", spec := "reachBetween", named := ["math/bits.deBruijn64tab"], apart := false, laid := [("math/bits.deBruijn64tab", laid_math_bits_deBruijn64tab)] }
def ReachBetweenSaid : Prop := reachBetweenRow.holds Tryd.pinned (OpenSpec.ofChange reachBetweenSpec)

/-- ITS FALSE NEIGHBOUR: 'it returns false'. Refute it at one input. -/
def reachBetweenWrong : ChangeSpec := { name := "reachBetween", fn := fun _ => fun
  | [d1, d2, d3] => { results := [.lit (.bool false)], args := [d1, d2, d3] }
  | _ => none }
def ReachBetweenWrongFalsely : Prop := reachBetweenRow.holds Tryd.pinned (OpenSpec.ofChange reachBetweenWrong)

/-- 'millwrightkeep.ReachBack': WHATEVER THE INPUT: true; the input reads as it did. -/
def reachBackSpec : ChangeSpec := { name := "reachBack", fn := fun _ => fun
  | [d1, d2, d3] => { results := [.lit (.bool true)], args := [d1, d2, d3] }
  | _ => none }
def reachBackRow : OpenClaim := { program := "ytofffdjpnfhakaadoor", sum := "c31ef66dd0848dbe0b410576b4d33c2d642c39324520727ae41a5f7f08fb5836", func := "millwright/millwrightkeep.ReachBack", spec := "reachBack", unfollowed := true, recurses := true, named := ["math/bits.deBruijn64tab"], apart := false, laid := [("math/bits.deBruijn64tab", laid_math_bits_deBruijn64tab)] }
def ReachBackSaid : Prop := reachBackRow.holds Tryd.pinned (OpenSpec.ofChange reachBackSpec)

/-- ITS FALSE NEIGHBOUR: 'it returns false'. Refute it at one input. -/
def reachBackWrong : ChangeSpec := { name := "reachBack", fn := fun _ => fun
  | [d1, d2, d3] => { results := [.lit (.bool false)], args := [d1, d2, d3] }
  | _ => none }
def ReachBackWrongFalsely : Prop := reachBackRow.holds Tryd.pinned (OpenSpec.ofChange reachBackWrong)

/-- 'millwrightkeep.WayStep': WHATEVER THE INPUT: true; the input reads as it did. -/
def wayStepSpec : ChangeSpec := { name := "wayStep", fn := fun _ => fun
  | [d1, d2, d3] => { results := [.lit (.bool true)], args := [d1, d2, d3] }
  | _ => none }
def wayStepRow : OpenClaim := { program := "ytofffdjpnfhakaadoor", sum := "c31ef66dd0848dbe0b410576b4d33c2d642c39324520727ae41a5f7f08fb5836", func := "millwright/millwrightkeep.WayStep", spec := "wayStep", named := ["math/bits.deBruijn64tab"], apart := false, laid := [("math/bits.deBruijn64tab", laid_math_bits_deBruijn64tab)] }
def WayStepSaid : Prop := wayStepRow.holds Tryd.pinned (OpenSpec.ofChange wayStepSpec)

/-- ITS FALSE NEIGHBOUR: 'it returns false'. Refute it at one input. -/
def wayStepWrong : ChangeSpec := { name := "wayStep", fn := fun _ => fun
  | [d1, d2, d3] => { results := [.lit (.bool false)], args := [d1, d2, d3] }
  | _ => none }
def WayStepWrongFalsely : Prop := wayStepRow.holds Tryd.pinned (OpenSpec.ofChange wayStepWrong)

/-- 'millwrightkeep.WayThere': WHATEVER THE INPUT: true; the input reads as it did. -/
def wayThereSpec : ChangeSpec := { name := "wayThere", fn := fun _ => fun
  | [d1, d2, d3] => { results := [.lit (.bool true)], args := [d1, d2, d3] }
  | _ => none }
def wayThereRow : OpenClaim := { program := "ytofffdjpnfhakaadoor", sum := "c31ef66dd0848dbe0b410576b4d33c2d642c39324520727ae41a5f7f08fb5836", func := "millwright/millwrightkeep.WayThere", spec := "wayThere", named := ["math/bits.deBruijn64tab"], apart := false, laid := [("math/bits.deBruijn64tab", laid_math_bits_deBruijn64tab)] }
def WayThereSaid : Prop := wayThereRow.holds Tryd.pinned (OpenSpec.ofChange wayThereSpec)

/-- ITS FALSE NEIGHBOUR: 'it returns false'. Refute it at one input. -/
def wayThereWrong : ChangeSpec := { name := "wayThere", fn := fun _ => fun
  | [d1, d2, d3] => { results := [.lit (.bool false)], args := [d1, d2, d3] }
  | _ => none }
def WayThereWrongFalsely : Prop := wayThereRow.holds Tryd.pinned (OpenSpec.ofChange wayThereWrong)

/-- 'millwrightkeep.WayShort': WHATEVER THE INPUT: true; the input reads as it did. -/
def wayShortSpec : ChangeSpec := { name := "wayShort", fn := fun _ => fun
  | [d1, d2, d3, d4] => { results := [.lit (.bool true)], args := [d1, d2, d3, d4] }
  | _ => none }
def wayShortRow : OpenClaim := { program := "ytofffdjpnfhakaadoor", sum := "c31ef66dd0848dbe0b410576b4d33c2d642c39324520727ae41a5f7f08fb5836", func := "millwright/millwrightkeep.WayShort", spec := "wayShort", unfollowed := true, recurses := true, named := ["math/bits.deBruijn64tab"], apart := false, laid := [("math/bits.deBruijn64tab", laid_math_bits_deBruijn64tab)] }
def WayShortSaid : Prop := wayShortRow.holds Tryd.pinned (OpenSpec.ofChange wayShortSpec)

/-- ITS FALSE NEIGHBOUR: 'it returns false'. Refute it at one input. -/
def wayShortWrong : ChangeSpec := { name := "wayShort", fn := fun _ => fun
  | [d1, d2, d3, d4] => { results := [.lit (.bool false)], args := [d1, d2, d3, d4] }
  | _ => none }
def WayShortWrongFalsely : Prop := wayShortRow.holds Tryd.pinned (OpenSpec.ofChange wayShortWrong)

/- THE SECOND FORM. 'bulk': how many values and letters a reading holds, each counted each time it is reached (what is shared counts as often as it is met; a slice's spare places count too). A statement '..UptoSaid' is the law's where the arguments, and the package variables that the reading takes, are together of bulk at most 1048576: NARROWER than '..Said'. Prove '..Said' where nothing that the law and all that it calls make is longer than what came in: it says more and counts as full. Else prove '..UptoSaid'. A law counts once. -/
mutual
def uptoBulk {H : Type} : DataW H → Nat
  | .lit (.string bytes) => bytes.length + 1
  | .lit _ => 1
  | .nil => 1
  | .ptr d => uptoBulk d + 1
  | .slice elems spare => uptoBulkAll elems + uptoBulkAll spare + 1
  | .agg parts => uptoBulkAll parts + 1
  | .iface _ d => uptoBulk d + 1
  | .map entries => uptoBulkEntries entries + 1
  | .held _ => 1
def uptoBulkAll {H : Type} : List (DataW H) → Nat
  | [] => 0
  | d :: r => uptoBulk d + uptoBulkAll r
def uptoBulkEntries {H : Type} : List (Lit × DataW H) → Nat
  | [] => 0
  | x :: r => uptoBulkEntry x + uptoBulkEntries r
def uptoBulkEntry {H : Type} : Lit × DataW H → Nat
  | (.string bytes, d) => bytes.length + uptoBulk d + 1
  | (_, d) => uptoBulk d + 1
 end
def uptoSmall : (H : Type) → List (DataW H) → Bool := fun _ ds => decide (uptoBulkAll ds ≤ 1048576)
def OpenSpec.upto (s : _root_.Go.ChangeSpec) : _root_.Go.OpenSpec := { _root_.Go.OpenSpec.ofChange s with cond := some uptoSmall }

/-- 'millwrightkeep.BitsRank', WHERE WHAT IT READS IS OF BULK AT MOST 1048576: true; the input reads as it did. -/
def bitsRankUptoRow : OpenClaim := { program := "ytofffdjpnfhakaadoor", sum := "c31ef66dd0848dbe0b410576b4d33c2d642c39324520727ae41a5f7f08fb5836", func := "millwright/millwrightkeep.BitsRank", spec := "bitsRank", named := ["math/bits.deBruijn64tab"], apart := false, laid := [("math/bits.deBruijn64tab", laid_math_bits_deBruijn64tab)], narrowed := true }
def BitsRankUptoSaid : Prop := bitsRankUptoRow.holds Tryd.pinned (OpenSpec.upto bitsRankSpec)

/-- 'millwrightkeep.BitsBack', WHERE WHAT IT READS IS OF BULK AT MOST 1048576: true; the input reads as it did. -/
def bitsBackUptoRow : OpenClaim := { program := "ytofffdjpnfhakaadoor", sum := "c31ef66dd0848dbe0b410576b4d33c2d642c39324520727ae41a5f7f08fb5836", func := "millwright/millwrightkeep.BitsBack", spec := "bitsBack", named := ["math/bits.deBruijn64tab"], apart := false, laid := [("math/bits.deBruijn64tab", laid_math_bits_deBruijn64tab)], narrowed := true }
def BitsBackUptoSaid : Prop := bitsBackUptoRow.holds Tryd.pinned (OpenSpec.upto bitsBackSpec)

/-- 'millwrightkeep.ReachLeast', WHERE WHAT IT READS IS OF BULK AT MOST 1048576: true; the input reads as it did. -/
def reachLeastUptoRow : OpenClaim := { program := "ytofffdjpnfhakaadoor", sum := "c31ef66dd0848dbe0b410576b4d33c2d642c39324520727ae41a5f7f08fb5836", func := "millwright/millwrightkeep.ReachLeast", spec := "reachLeast", named := ["math/bits.deBruijn64tab"], apart := false, laid := [("math/bits.deBruijn64tab", laid_math_bits_deBruijn64tab)], narrowed := true }
def ReachLeastUptoSaid : Prop := reachLeastUptoRow.holds Tryd.pinned (OpenSpec.upto reachLeastSpec)

/-- 'millwrightkeep.ReachDepth', WHERE WHAT IT READS IS OF BULK AT MOST 1048576: true; the input reads as it did. -/
def reachDepthUptoRow : OpenClaim := { program := "ytofffdjpnfhakaadoor", sum := "c31ef66dd0848dbe0b410576b4d33c2d642c39324520727ae41a5f7f08fb5836", func := "millwright/millwrightkeep.ReachDepth", spec := "reachDepth", unfollowed := true, recurses := true, named := ["math/bits.deBruijn64tab"], apart := false, laid := [("math/bits.deBruijn64tab", laid_math_bits_deBruijn64tab)], narrowed := true }
def ReachDepthUptoSaid : Prop := reachDepthUptoRow.holds Tryd.pinned (OpenSpec.upto reachDepthSpec)

/-- 'millwrightkeep.KnotOrder', WHERE WHAT IT READS IS OF BULK AT MOST 1048576: true; the input reads as it did. -/
def knotOrderUptoRow : OpenClaim := { program := "ytofffdjpnfhakaadoor", sum := "c31ef66dd0848dbe0b410576b4d33c2d642c39324520727ae41a5f7f08fb5836", func := "millwright/millwrightkeep.KnotOrder", spec := "knotOrder", named := ["math/bits.deBruijn64tab"], apart := false, laid := [("math/bits.deBruijn64tab", laid_math_bits_deBruijn64tab)], narrowed := true }
def KnotOrderUptoSaid : Prop := knotOrderUptoRow.holds Tryd.pinned (OpenSpec.upto knotOrderSpec)

/-- 'millwrightkeep.KnotRing', WHERE WHAT IT READS IS OF BULK AT MOST 1048576: true; the input reads as it did. -/
def knotRingUptoRow : OpenClaim := { program := "ytofffdjpnfhakaadoor", sum := "c31ef66dd0848dbe0b410576b4d33c2d642c39324520727ae41a5f7f08fb5836", func := "millwright/millwrightkeep.KnotRing", spec := "knotRing", named := ["math/bits.deBruijn64tab"], apart := false, laid := [("math/bits.deBruijn64tab", laid_math_bits_deBruijn64tab)], narrowed := true }
def KnotRingUptoSaid : Prop := knotRingUptoRow.holds Tryd.pinned (OpenSpec.upto knotRingSpec)

/-- 'millwrightkeep.ReachClosed', WHERE WHAT IT READS IS OF BULK AT MOST 1048576: true; the input reads as it did. -/
def reachClosedUptoRow : OpenClaim := { program := "ytofffdjpnfhakaadoor", sum := "c31ef66dd0848dbe0b410576b4d33c2d642c39324520727ae41a5f7f08fb5836", func := "millwright/millwrightkeep.ReachClosed", spec := "reachClosed", unfollowed := true, recurses := true, named := ["math/bits.deBruijn64tab"], apart := false, laid := [("math/bits.deBruijn64tab", laid_math_bits_deBruijn64tab)], narrowed := true }
def ReachClosedUptoSaid : Prop := reachClosedUptoRow.holds Tryd.pinned (OpenSpec.upto reachClosedSpec)

/-- 'millwrightkeep.ReachBetween', WHERE WHAT IT READS IS OF BULK AT MOST 1048576: true; the input reads as it did. -/
def reachBetweenUptoRow : OpenClaim := { program := "ytofffdjpnfhakaadoor", sum := "c31ef66dd0848dbe0b410576b4d33c2d642c39324520727ae41a5f7f08fb5836", func := "millwright/millwrightkeep.ReachBetween", spec := "reachBetween", named := ["math/bits.deBruijn64tab"], apart := false, laid := [("math/bits.deBruijn64tab", laid_math_bits_deBruijn64tab)], narrowed := true }
def ReachBetweenUptoSaid : Prop := reachBetweenUptoRow.holds Tryd.pinned (OpenSpec.upto reachBetweenSpec)

/-- 'millwrightkeep.ReachBack', WHERE WHAT IT READS IS OF BULK AT MOST 1048576: true; the input reads as it did. -/
def reachBackUptoRow : OpenClaim := { program := "ytofffdjpnfhakaadoor", sum := "c31ef66dd0848dbe0b410576b4d33c2d642c39324520727ae41a5f7f08fb5836", func := "millwright/millwrightkeep.ReachBack", spec := "reachBack", unfollowed := true, recurses := true, named := ["math/bits.deBruijn64tab"], apart := false, laid := [("math/bits.deBruijn64tab", laid_math_bits_deBruijn64tab)], narrowed := true }
def ReachBackUptoSaid : Prop := reachBackUptoRow.holds Tryd.pinned (OpenSpec.upto reachBackSpec)

/-- 'millwrightkeep.WayStep', WHERE WHAT IT READS IS OF BULK AT MOST 1048576: true; the input reads as it did. -/
def wayStepUptoRow : OpenClaim := { program := "ytofffdjpnfhakaadoor", sum := "c31ef66dd0848dbe0b410576b4d33c2d642c39324520727ae41a5f7f08fb5836", func := "millwright/millwrightkeep.WayStep", spec := "wayStep", named := ["math/bits.deBruijn64tab"], apart := false, laid := [("math/bits.deBruijn64tab", laid_math_bits_deBruijn64tab)], narrowed := true }
def WayStepUptoSaid : Prop := wayStepUptoRow.holds Tryd.pinned (OpenSpec.upto wayStepSpec)

/-- 'millwrightkeep.WayThere', WHERE WHAT IT READS IS OF BULK AT MOST 1048576: true; the input reads as it did. -/
def wayThereUptoRow : OpenClaim := { program := "ytofffdjpnfhakaadoor", sum := "c31ef66dd0848dbe0b410576b4d33c2d642c39324520727ae41a5f7f08fb5836", func := "millwright/millwrightkeep.WayThere", spec := "wayThere", named := ["math/bits.deBruijn64tab"], apart := false, laid := [("math/bits.deBruijn64tab", laid_math_bits_deBruijn64tab)], narrowed := true }
def WayThereUptoSaid : Prop := wayThereUptoRow.holds Tryd.pinned (OpenSpec.upto wayThereSpec)

/-- 'millwrightkeep.WayShort', WHERE WHAT IT READS IS OF BULK AT MOST 1048576: true; the input reads as it did. -/
def wayShortUptoRow : OpenClaim := { program := "ytofffdjpnfhakaadoor", sum := "c31ef66dd0848dbe0b410576b4d33c2d642c39324520727ae41a5f7f08fb5836", func := "millwright/millwrightkeep.WayShort", spec := "wayShort", unfollowed := true, recurses := true, named := ["math/bits.deBruijn64tab"], apart := false, laid := [("math/bits.deBruijn64tab", laid_math_bits_deBruijn64tab)], narrowed := true }
def WayShortUptoSaid : Prop := wayShortUptoRow.holds Tryd.pinned (OpenSpec.upto wayShortSpec)

end Rows
end Go.Proofs.YtofffdjpnfhakaaDoor
