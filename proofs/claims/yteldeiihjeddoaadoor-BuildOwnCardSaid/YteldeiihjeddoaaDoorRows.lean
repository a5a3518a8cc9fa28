/-
  NARROWER THAN 'FOR EVERY INPUT', by the rows' own cells (each row's printed sentence says how): StaleClosed: laid · StaleOnly: laid · StaleUsers: laid · WhyDeep: laid · WhyTold: laid · WhySound: loops, laid · BuildOrder: laid · BuildOwn: laid · BuildDone: laid · GraphPart: laid · GraphOwn: laid.
  DERIVED. THE GIVEN ROWS OF THIS SEAT. 11 by the template 'for every input the law returns true; each argument reads behind the call as it read before'; 0 by the template 'total and deterministic' (their statements: YteldeiihjeddoaaDoorTotals.lean).
  GIVEN WITH THE SEED: the statements are not yours to turn. If you find one false, say at which input.
  Laid BY PROGRAM, IN A SANDBOX (cutbox-rows.mjs): the forced cells as the released guide's own fill.sh prints them over the translation b26ab60d9daca267… (all of the seat's roots in one cut). By AI agents, Wed Nov 11 2026. No macro, syntax, notation, axiom, sorry.
-/
import Derived.Test.YteldeiihjeddoaaDoorChecked
import GoSem.Claim
import GoSem.ClaimJoined
import GoSem.ClaimMapViews
import Derived.JoinedTies
import Derived.KernelRfl
namespace Go.Proofs.YteldeiihjeddoaaDoor
/- THE CELL 'sum', in the pinned program and in every row, IS THE sha256 OF THE DUMP (.gsa) THAT YteldeiihjeddoaaDoorProg.lean LOADS. Nothing in Lean hashes anything: it is a label: what it is worth is what the hold of that sum in a sandbox is worth. -/
noncomputable def Tryd.pinned : Pinned := { name := "yteldeiihjeddoaadoor", sum := "b26ab60d9daca26732083909cab101c257634526e1a0e749d62b807abacee45a", checked := Tryd.checked }
namespace Rows
def none {H : Type} : Left H := { results := [], args := [] }

/- WHAT THE LISTED PACKAGE-LEVEL VARIABLES READ AS WHEN THE CALL BEGINS. Each datum BY PROGRAM (the guide's laid-datum.mjs) off the statement by which the dump's own 'gosem.cut.vars' lays the variable. In a bare row this is a premise. The card (YteldeiihjeddoaaDoorCards.lean) ties it to the program's text. -/
def laid_math_bits_deBruijn64tab {H : Type} : DataW H := .agg [.lit (.int .u8 0), .lit (.int .u8 1), .lit (.int .u8 56), .lit (.int .u8 2), .lit (.int .u8 57), .lit (.int .u8 49), .lit (.int .u8 28), .lit (.int .u8 3), .lit (.int .u8 61), .lit (.int .u8 58), .lit (.int .u8 42), .lit (.int .u8 50), .lit (.int .u8 38), .lit (.int .u8 29), .lit (.int .u8 17), .lit (.int .u8 4), .lit (.int .u8 62), .lit (.int .u8 47), .lit (.int .u8 59), .lit (.int .u8 36), .lit (.int .u8 45), .lit (.int .u8 43), .lit (.int .u8 51), .lit (.int .u8 22), .lit (.int .u8 53), .lit (.int .u8 39), .lit (.int .u8 33), .lit (.int .u8 30), .lit (.int .u8 24), .lit (.int .u8 18), .lit (.int .u8 12), .lit (.int .u8 5), .lit (.int .u8 63), .lit (.int .u8 55), .lit (.int .u8 48), .lit (.int .u8 27), .lit (.int .u8 60), .lit (.int .u8 41), .lit (.int .u8 37), .lit (.int .u8 16), .lit (.int .u8 46), .lit (.int .u8 35), .lit (.int .u8 44), .lit (.int .u8 21), .lit (.int .u8 52), .lit (.int .u8 32), .lit (.int .u8 23), .lit (.int .u8 11), .lit (.int .u8 54), .lit (.int .u8 26), .lit (.int .u8 40), .lit (.int .u8 15), .lit (.int .u8 34), .lit (.int .u8 20), .lit (.int .u8 31), .lit (.int .u8 10), .lit (.int .u8 25), .lit (.int .u8 14), .lit (.int .u8 19), .lit (.int .u8 9), .lit (.int .u8 13), .lit (.int .u8 8), .lit (.int .u8 7), .lit (.int .u8 6)]

/-- 'millwrightkeep.StaleClosed': WHATEVER THE INPUT: true; the input reads as it did. -/
def staleClosedSpec : ChangeSpec := { name := "staleClosed", fn := fun _ => fun
  | [d1, d2] => { results := [.lit (.bool true)], args := [d1, d2] }
  | _ => none }
def staleClosedRow : OpenClaim := { program := "yteldeiihjeddoaadoor", sum := "b26ab60d9daca26732083909cab101c257634526e1a0e749d62b807abacee45a", func := "millwright/millwrightkeep.StaleClosed", spec := "staleClosed", inPlace := ["internal/bytealg.IndexByteString"], unfollowed := true, recurses := true, named := ["math/bits.deBruijn64tab"], apart := false, laid := [("math/bits.deBruijn64tab", laid_math_bits_deBruijn64tab)] }
def StaleClosedSaid : Prop := staleClosedRow.holds Tryd.pinned (OpenSpec.ofChange staleClosedSpec)

/-- ITS FALSE NEIGHBOUR: 'it returns false'. Refute it at one input. -/
def staleClosedWrong : ChangeSpec := { name := "staleClosed", fn := fun _ => fun
  | [d1, d2] => { results := [.lit (.bool false)], args := [d1, d2] }
  | _ => none }
def StaleClosedWrongFalsely : Prop := staleClosedRow.holds Tryd.pinned (OpenSpec.ofChange staleClosedWrong)

/-- 'millwrightkeep.StaleOnly': WHATEVER THE INPUT: true; the input reads as it did. -/
def staleOnlySpec : ChangeSpec := { name := "staleOnly", fn := fun _ => fun
  | [d1, d2, d3, d4] => { results := [.lit (.bool true)], args := [d1, d2, d3, d4] }
  | _ => none }
def staleOnlyRow : OpenClaim := { program := "yteldeiihjeddoaadoor", sum := "b26ab60d9daca26732083909cab101c257634526e1a0e749d62b807abacee45a", func := "millwright/millwrightkeep.StaleOnly", spec := "staleOnly", inPlace := ["internal/bytealg.IndexByteString"], unfollowed := true, recurses := true, named := ["math/bits.deBruijn64tab"], apart := false, laid := [("math/bits.deBruijn64tab", laid_math_bits_deBruijn64tab)] }
def StaleOnlySaid : Prop := staleOnlyRow.holds Tryd.pinned (OpenSpec.ofChange staleOnlySpec)

/-- ITS FALSE NEIGHBOUR: 'it returns false'. Refute it at one input. -/
def staleOnlyWrong : ChangeSpec := { name := "staleOnly", fn := fun _ => fun
  | [d1, d2, d3, d4] => { results := [.lit (.bool false)], args := [d1, d2, d3, d4] }
  | _ => none }
def StaleOnlyWrongFalsely : Prop := staleOnlyRow.holds Tryd.pinned (OpenSpec.ofChange staleOnlyWrong)

/-- 'millwrightkeep.StaleUsers': WHATEVER THE INPUT: true; the input reads as it did. -/
def staleUsersSpec : ChangeSpec := { name := "staleUsers", fn := fun _ => fun
  | [d1, d2, d3] => { results := [.lit (.bool true)], args := [d1, d2, d3] }
  | _ => none }
def staleUsersRow : OpenClaim := { program := "yteldeiihjeddoaadoor", sum := "b26ab60d9daca26732083909cab101c257634526e1a0e749d62b807abacee45a", func := "millwright/millwrightkeep.StaleUsers", spec := "staleUsers", inPlace := ["internal/bytealg.IndexByteString"], unfollowed := true, recurses := true, named := ["math/bits.deBruijn64tab"], apart := false, laid := [("math/bits.deBruijn64tab", laid_math_bits_deBruijn64tab)] }
def StaleUsersSaid : Prop := staleUsersRow.holds Tryd.pinned (OpenSpec.ofChange staleUsersSpec)

/-- ITS FALSE NEIGHBOUR: 'it returns false'. Refute it at one input. -/
def staleUsersWrong : ChangeSpec := { name := "staleUsers", fn := fun _ => fun
  | [d1, d2, d3] => { results := [.lit (.bool false)], args := [d1, d2, d3] }
  | _ => none }
def StaleUsersWrongFalsely : Prop := staleUsersRow.holds Tryd.pinned (OpenSpec.ofChange staleUsersWrong)

/-- 'millwrightkeep.WhyDeep': WHATEVER THE INPUT: true; the input reads as it did. -/
def whyDeepSpec : ChangeSpec := { name := "whyDeep", fn := fun _ => fun
  | [d1, d2, d3] => { results := [.lit (.bool true)], args := [d1, d2, d3] }
  | _ => none }
def whyDeepRow : OpenClaim := { program := "yteldeiihjeddoaadoor", sum := "b26ab60d9daca26732083909cab101c257634526e1a0e749d62b807abacee45a", func := "millwright/millwrightkeep.WhyDeep", spec := "whyDeep", inPlace := ["internal/bytealg.IndexByteString"], unfollowed := true, recurses := true, named := ["math/bits.deBruijn64tab"], apart := false, laid := [("math/bits.deBruijn64tab", laid_math_bits_deBruijn64tab)] }
def WhyDeepSaid : Prop := whyDeepRow.holds Tryd.pinned (OpenSpec.ofChange whyDeepSpec)

/-- ITS FALSE NEIGHBOUR: 'it returns false'. Refute it at one input. -/
def whyDeepWrong : ChangeSpec := { name := "whyDeep", fn := fun _ => fun
  | [d1, d2, d3] => { results := [.lit (.bool false)], args := [d1, d2, d3] }
  | _ => none }
def WhyDeepWrongFalsely : Prop := whyDeepRow.holds Tryd.pinned (OpenSpec.ofChange whyDeepWrong)

/-- 'millwrightkeep.WhyTold': WHATEVER THE INPUT: true; the input reads as it did. -/
def whyToldSpec : ChangeSpec := { name := "whyTold", fn := fun _ => fun
  | [d1, d2, d3] => { results := [.lit (.bool true)], args := [d1, d2, d3] }
  | _ => none }
def whyToldRow : OpenClaim := { program := "yteldeiihjeddoaadoor", sum := "b26ab60d9daca26732083909cab101c257634526e1a0e749d62b807abacee45a", func := "millwright/millwrightkeep.WhyTold", spec := "whyTold", inPlace := ["internal/bytealg.IndexByteString"], unfollowed := true, recurses := true, named := ["math/bits.deBruijn64tab"], apart := false, laid := [("math/bits.deBruijn64tab", laid_math_bits_deBruijn64tab)] }
def WhyToldSaid : Prop := whyToldRow.holds Tryd.pinned (OpenSpec.ofChange whyToldSpec)

/-- ITS FALSE NEIGHBOUR: 'it returns false'. Refute it at one input. -/
def whyToldWrong : ChangeSpec := { name := "whyTold", fn := fun _ => fun
  | [d1, d2, d3] => { results := [.lit (.bool false)], args := [d1, d2, d3] }
  | _ => none }
def WhyToldWrongFalsely : Prop := whyToldRow.holds Tryd.pinned (OpenSpec.ofChange whyToldWrong)

/-- 'millwrightkeep.WhySound': WHATEVER THE INPUT: true; the input reads as it did. -/
def whySoundSpec : ChangeSpec := { name := "whySound", fn := fun _ => fun
  | [d1, d2, d3] => { results := [.lit (.bool true)], args := [d1, d2, d3] }
  | _ => none }
def whySoundRow : OpenClaim := { program := "yteldeiihjeddoaadoor", sum := "b26ab60d9daca26732083909cab101c257634526e1a0e749d62b807abacee45a", func := "millwright/millwrightkeep.WhySound", spec := "whySound", inPlace := ["internal/bytealg.IndexByteString"], unfollowed := true, recurses := true, named := ["math/bits.deBruijn64tab"], loops := true, apart := false, laid := [("math/bits.deBruijn64tab", laid_math_bits_deBruijn64tab)] }
def WhySoundSaid : Prop := whySoundRow.holds Tryd.pinned (OpenSpec.ofChange whySoundSpec)

/-- ITS FALSE NEIGHBOUR: 'it returns false'. Refute it at one input. -/
def whySoundWrong : ChangeSpec := { name := "whySound", fn := fun _ => fun
  | [d1, d2, d3] => { results := [.lit (.bool false)], args := [d1, d2, d3] }
  | _ => none }
def WhySoundWrongFalsely : Prop := whySoundRow.holds Tryd.pinned (OpenSpec.ofChange whySoundWrong)

/-- 'millwrightkeep.BuildOrder': WHATEVER THE INPUT: true; the input reads as it did. -/
def buildOrderSpec : ChangeSpec := { name := "buildOrder", fn := fun _ => fun
  | [d1, d2, d3, d4] => { results := [.lit (.bool true)], args := [d1, d2, d3, d4] }
  | _ => none }
def buildOrderRow : OpenClaim := { program := "yteldeiihjeddoaadoor", sum := "b26ab60d9daca26732083909cab101c257634526e1a0e749d62b807abacee45a", func := "millwright/millwrightkeep.BuildOrder", spec := "buildOrder", inPlace := ["internal/bytealg.IndexByteString"], unfollowed := true, recurses := true, named := ["math/bits.deBruijn64tab"], apart := false, laid := [("math/bits.deBruijn64tab", laid_math_bits_deBruijn64tab)] }
def BuildOrderSaid : Prop := buildOrderRow.holds Tryd.pinned (OpenSpec.ofChange buildOrderSpec)

/-- ITS FALSE NEIGHBOUR: 'it returns false'. Refute it at one input. -/
def buildOrderWrong : ChangeSpec := { name := "buildOrder", fn := fun _ => fun
  | [d1, d2, d3, d4] => { results := [.lit (.bool false)], args := [d1, d2, d3, d4] }
  | _ => none }
def BuildOrderWrongFalsely : Prop := buildOrderRow.holds Tryd.pinned (OpenSpec.ofChange buildOrderWrong)

/-- 'millwrightkeep.BuildOwn': WHATEVER THE INPUT: true; the input reads as it did. -/
def buildOwnSpec : ChangeSpec := { name := "buildOwn", fn := fun _ => fun
  | [d1, d2, d3, d4] => { results := [.lit (.bool true)], args := [d1, d2, d3, d4] }
  | _ => none }
def buildOwnRow : OpenClaim := { program := "yteldeiihjeddoaadoor", sum := "b26ab60d9daca26732083909cab101c257634526e1a0e749d62b807abacee45a", func := "millwright/millwrightkeep.BuildOwn", spec := "buildOwn", inPlace := ["internal/bytealg.IndexByteString"], unfollowed := true, recurses := true, named := ["math/bits.deBruijn64tab"], apart := false, laid := [("math/bits.deBruijn64tab", laid_math_bits_deBruijn64tab)] }
def BuildOwnSaid : Prop := buildOwnRow.holds Tryd.pinned (OpenSpec.ofChange buildOwnSpec)

/-- ITS FALSE NEIGHBOUR: 'it returns false'. Refute it at one input. -/
def buildOwnWrong : ChangeSpec := { name := "buildOwn", fn := fun _ => fun
  | [d1, d2, d3, d4] => { results := [.lit (.bool false)], args := [d1, d2, d3, d4] }
  | _ => none }
def BuildOwnWrongFalsely : Prop := buildOwnRow.holds Tryd.pinned (OpenSpec.ofChange buildOwnWrong)

/-- 'millwrightkeep.BuildDone': WHATEVER THE INPUT: true; the input reads as it did. -/
def buildDoneSpec : ChangeSpec := { name := "buildDone", fn := fun _ => fun
  | [d1, d2, d3] => { results := [.lit (.bool true)], args := [d1, d2, d3] }
  | _ => none }
def buildDoneRow : OpenClaim := { program := "yteldeiihjeddoaadoor", sum := "b26ab60d9daca26732083909cab101c257634526e1a0e749d62b807abacee45a", func := "millwright/millwrightkeep.BuildDone", spec := "buildDone", inPlace := ["internal/bytealg.IndexByteString"], unfollowed := true, recurses := true, named := ["math/bits.deBruijn64tab"], apart := false, laid := [("math/bits.deBruijn64tab", laid_math_bits_deBruijn64tab)] }
def BuildDoneSaid : Prop := buildDoneRow.holds Tryd.pinned (OpenSpec.ofChange buildDoneSpec)

/-- ITS FALSE NEIGHBOUR: 'it returns false'. Refute it at one input. -/
def buildDoneWrong : ChangeSpec := { name := "buildDone", fn := fun _ => fun
  | [d1, d2, d3] => { results := [.lit (.bool false)], args := [d1, d2, d3] }
  | _ => none }
def BuildDoneWrongFalsely : Prop := buildDoneRow.holds Tryd.pinned (OpenSpec.ofChange buildDoneWrong)

/-- 'millwrightkeep.GraphPart': WHATEVER THE INPUT: true; the input reads as it did. -/
def graphPartSpec : ChangeSpec := { name := "graphPart", fn := fun _ => fun
  | [d1, d2, d3] => { results := [.lit (.bool true)], args := [d1, d2, d3] }
  | _ => none }
def graphPartRow : OpenClaim := { program := "yteldeiihjeddoaadoor", sum := "b26ab60d9daca26732083909cab101c257634526e1a0e749d62b807abacee45a", func := "millwright/millwrightkeep.GraphPart", spec := "graphPart", inPlace := ["internal/bytealg.IndexByteString"], unfollowed := true, recurses := true, named := ["math/bits.deBruijn64tab"], apart := false, laid := [("math/bits.deBruijn64tab", laid_math_bits_deBruijn64tab)] }
def GraphPartSaid : Prop := graphPartRow.holds Tryd.pinned (OpenSpec.ofChange graphPartSpec)

/-- ITS FALSE NEIGHBOUR: 'it returns false'. Refute it at one input. -/
def graphPartWrong : ChangeSpec := { name := "graphPart", fn := fun _ => fun
  | [d1, d2, d3] => { results := [.lit (.bool false)], args := [d1, d2, d3] }
  | _ => none }
def GraphPartWrongFalsely : Prop := graphPartRow.holds Tryd.pinned (OpenSpec.ofChange graphPartWrong)

/-- 'millwrightkeep.GraphOwn': WHATEVER THE INPUT: true; the input reads as it did. -/
def graphOwnSpec : ChangeSpec := { name := "graphOwn", fn := fun _ => fun
  | [d1, d2] => { results := [.lit (.bool true)], args := [d1, d2] }
  | _ => none }
def graphOwnRow : OpenClaim := { program := "yteldeiihjeddoaadoor", sum := "b26ab60d9daca26732083909cab101c257634526e1a0e749d62b807abacee45a", func := "millwright/millwrightkeep.GraphOwn", spec := "graphOwn", inPlace := ["internal/bytealg.IndexByteString"], unfollowed := true, recurses := true, named := ["math/bits.deBruijn64tab"], apart := false, laid := [("math/bits.deBruijn64tab", laid_math_bits_deBruijn64tab)] }
def GraphOwnSaid : Prop := graphOwnRow.holds Tryd.pinned (OpenSpec.ofChange graphOwnSpec)

/-- ITS FALSE NEIGHBOUR: 'it returns false'. Refute it at one input. -/
def graphOwnWrong : ChangeSpec := { name := "graphOwn", fn := fun _ => fun
  | [d1, d2] => { results := [.lit (.bool false)], args := [d1, d2] }
  | _ => none }
def GraphOwnWrongFalsely : Prop := graphOwnRow.holds Tryd.pinned (OpenSpec.ofChange graphOwnWrong)

/- THE SECOND FORM. 'bulk': how many values and letters a reading holds, each counted each time it is reached (what is shared counts as often as it is met; a slice's spare places count too). A statement '..UptoSaid' is the law's where the arguments, and the package variables that the reading takes, are together of bulk at most 1048576: NARROWER than '..Said'. Prove '..Said' where nothing that the law and all that it calls make is longer than what came in: it says more and counts as full. Else prove '..UptoSaid'. A law counts once. -/
mutual
def uptoBulk {H : Type} : DataW H → Nat
  | .lit (.string bytes) => bytes.length + 1
  | .lit _ => 1
  | .nil => 1
  | .ptr d => uptoBulk d + 1
  | .slice elems spare => uptoBulkAll elems + uptoBulkAll spare + 1
  | .agg parts => uptoBulkAll parts + 1
  | .iface _ d => uptoBulk d + 1
  | .map entries => uptoBulkEntries entries + 1
  | .held _ => 1
def uptoBulkAll {H : Type} : List (DataW H) → Nat
  | [] => 0
  | d :: r => uptoBulk d + uptoBulkAll r
def uptoBulkEntries {H : Type} : List (Lit × DataW H) → Nat
  | [] => 0
  | x :: r => uptoBulkEntry x + uptoBulkEntries r
def uptoBulkEntry {H : Type} : Lit × DataW H → Nat
  | (.string bytes, d) => bytes.length + uptoBulk d + 1
  | (_, d) => uptoBulk d + 1
 end
def uptoSmall : (H : Type) → List (DataW H) → Bool := fun _ ds => decide (uptoBulkAll ds ≤ 1048576)
def OpenSpec.upto (s : _root_.Go.ChangeSpec) : _root_.Go.OpenSpec := { _root_.Go.OpenSpec.ofChange s with cond := some uptoSmall }

/-- 'millwrightkeep.StaleClosed', WHERE WHAT IT READS IS OF BULK AT MOST 1048576: true; the input reads as it did. -/
def staleClosedUptoRow : OpenClaim := { program := "yteldeiihjeddoaadoor", sum := "b26ab60d9daca26732083909cab101c257634526e1a0e749d62b807abacee45a", func := "millwright/millwrightkeep.StaleClosed", spec := "staleClosed", inPlace := ["internal/bytealg.IndexByteString"], unfollowed := true, recurses := true, named := ["math/bits.deBruijn64tab"], apart := false, laid := [("math/bits.deBruijn64tab", laid_math_bits_deBruijn64tab)], narrowed := true }
def StaleClosedUptoSaid : Prop := staleClosedUptoRow.holds Tryd.pinned (OpenSpec.upto staleClosedSpec)

/-- 'millwrightkeep.StaleOnly', WHERE WHAT IT READS IS OF BULK AT MOST 1048576: true; the input reads as it did. -/
def staleOnlyUptoRow : OpenClaim := { program := "yteldeiihjeddoaadoor", sum := "b26ab60d9daca26732083909cab101c257634526e1a0e749d62b807abacee45a", func := "millwright/millwrightkeep.StaleOnly", spec := "staleOnly", inPlace := ["internal/bytealg.IndexByteString"], unfollowed := true, recurses := true, named := ["math/bits.deBruijn64tab"], apart := false, laid := [("math/bits.deBruijn64tab", laid_math_bits_deBruijn64tab)], narrowed := true }
def StaleOnlyUptoSaid : Prop := staleOnlyUptoRow.holds Tryd.pinned (OpenSpec.upto staleOnlySpec)

/-- 'millwrightkeep.StaleUsers', WHERE WHAT IT READS IS OF BULK AT MOST 1048576: true; the input reads as it did. -/
def staleUsersUptoRow : OpenClaim := { program := "yteldeiihjeddoaadoor", sum := "b26ab60d9daca26732083909cab101c257634526e1a0e749d62b807abacee45a", func := "millwright/millwrightkeep.StaleUsers", spec := "staleUsers", inPlace := ["internal/bytealg.IndexByteString"], unfollowed := true, recurses := true, named := ["math/bits.deBruijn64tab"], apart := false, laid := [("math/bits.deBruijn64tab", laid_math_bits_deBruijn64tab)], narrowed := true }
def StaleUsersUptoSaid : Prop := staleUsersUptoRow.holds Tryd.pinned (OpenSpec.upto staleUsersSpec)

/-- 'millwrightkeep.WhyDeep', WHERE WHAT IT READS IS OF BULK AT MOST 1048576: true; the input reads as it did. -/
def whyDeepUptoRow : OpenClaim := { program := "yteldeiihjeddoaadoor", sum := "b26ab60d9daca26732083909cab101c257634526e1a0e749d62b807abacee45a", func := "millwright/millwrightkeep.WhyDeep", spec := "whyDeep", inPlace := ["internal/bytealg.IndexByteString"], unfollowed := true, recurses := true, named := ["math/bits.deBruijn64tab"], apart := false, laid := [("math/bits.deBruijn64tab", laid_math_bits_deBruijn64tab)], narrowed := true }
def WhyDeepUptoSaid : Prop := whyDeepUptoRow.holds Tryd.pinned (OpenSpec.upto whyDeepSpec)

/-- 'millwrightkeep.WhyTold', WHERE WHAT IT READS IS OF BULK AT MOST 1048576: true; the input reads as it did. -/
def whyToldUptoRow : OpenClaim := { program := "yteldeiihjeddoaadoor", sum := "b26ab60d9daca26732083909cab101c257634526e1a0e749d62b807abacee45a", func := "millwright/millwrightkeep.WhyTold", spec := "whyTold", inPlace := ["internal/bytealg.IndexByteString"], unfollowed := true, recurses := true, named := ["math/bits.deBruijn64tab"], apart := false, laid := [("math/bits.deBruijn64tab", laid_math_bits_deBruijn64tab)], narrowed := true }
def WhyToldUptoSaid : Prop := whyToldUptoRow.holds Tryd.pinned (OpenSpec.upto whyToldSpec)

/-- 'millwrightkeep.WhySound', WHERE WHAT IT READS IS OF BULK AT MOST 1048576: true; the input reads as it did. -/
def whySoundUptoRow : OpenClaim := { program := "yteldeiihjeddoaadoor", sum := "b26ab60d9daca26732083909cab101c257634526e1a0e749d62b807abacee45a", func := "millwright/millwrightkeep.WhySound", spec := "whySound", inPlace := ["internal/bytealg.IndexByteString"], unfollowed := true, recurses := true, named := ["math/bits.deBruijn64tab"], loops := true, apart := false, laid := [("math/bits.deBruijn64tab", laid_math_bits_deBruijn64tab)], narrowed := true }
def WhySoundUptoSaid : Prop := whySoundUptoRow.holds Tryd.pinned (OpenSpec.upto whySoundSpec)

/-- 'millwrightkeep.BuildOrder', WHERE WHAT IT READS IS OF BULK AT MOST 1048576: true; the input reads as it did. -/
def buildOrderUptoRow : OpenClaim := { program := "yteldeiihjeddoaadoor", sum := "b26ab60d9daca26732083909cab101c257634526e1a0e749d62b807abacee45a", func := "millwright/millwrightkeep.BuildOrder", spec := "buildOrder", inPlace := ["internal/bytealg.IndexByteString"], unfollowed := true, recurses := true, named := ["math/bits.deBruijn64tab"], apart := false, laid := [("math/bits.deBruijn64tab", laid_math_bits_deBruijn64tab)], narrowed := true }
def BuildOrderUptoSaid : Prop := buildOrderUptoRow.holds Tryd.pinned (OpenSpec.upto buildOrderSpec)

/-- 'millwrightkeep.BuildOwn', WHERE WHAT IT READS IS OF BULK AT MOST 1048576: true; the input reads as it did. -/
def buildOwnUptoRow : OpenClaim := { program := "yteldeiihjeddoaadoor", sum := "b26ab60d9daca26732083909cab101c257634526e1a0e749d62b807abacee45a", func := "millwright/millwrightkeep.BuildOwn", spec := "buildOwn", inPlace := ["internal/bytealg.IndexByteString"], unfollowed := true, recurses := true, named := ["math/bits.deBruijn64tab"], apart := false, laid := [("math/bits.deBruijn64tab", laid_math_bits_deBruijn64tab)], narrowed := true }
def BuildOwnUptoSaid : Prop := buildOwnUptoRow.holds Tryd.pinned (OpenSpec.upto buildOwnSpec)

/-- 'millwrightkeep.BuildDone', WHERE WHAT IT READS IS OF BULK AT MOST 1048576: true; the input reads as it did. -/
def buildDoneUptoRow : OpenClaim := { program := "yteldeiihjeddoaadoor", sum := "b26ab60d9daca26732083909cab101c257634526e1a0e749d62b807abacee45a", func := "millwright/millwrightkeep.BuildDone", spec := "buildDone", inPlace := ["internal/bytealg.IndexByteString"], unfollowed := true, recurses := true, named := ["math/bits.deBruijn64tab"], apart := false, laid := [("math/bits.deBruijn64tab", laid_math_bits_deBruijn64tab)], narrowed := true }
def BuildDoneUptoSaid : Prop := buildDoneUptoRow.holds Tryd.pinned (OpenSpec.upto buildDoneSpec)

/-- 'millwrightkeep.GraphPart', WHERE WHAT IT READS IS OF BULK AT MOST 1048576: true; the input reads as it did. -/
def graphPartUptoRow : OpenClaim := { program := "yteldeiihjeddoaadoor", sum := "b26ab60d9daca26732083909cab101c257634526e1a0e749d62b807abacee45a", func := "millwright/millwrightkeep.GraphPart", spec := "graphPart", inPlace := ["internal/bytealg.IndexByteString"], unfollowed := true, recurses := true, named := ["math/bits.deBruijn64tab"], apart := false, laid := [("math/bits.deBruijn64tab", laid_math_bits_deBruijn64tab)], narrowed := true }
def GraphPartUptoSaid : Prop := graphPartUptoRow.holds Tryd.pinned (OpenSpec.upto graphPartSpec)

/-- 'millwrightkeep.GraphOwn', WHERE WHAT IT READS IS OF BULK AT MOST 1048576: true; the input reads as it did. -/
def graphOwnUptoRow : OpenClaim := { program := "yteldeiihjeddoaadoor", sum := "b26ab60d9daca26732083909cab101c257634526e1a0e749d62b807abacee45a", func := "millwright/millwrightkeep.GraphOwn", spec := "graphOwn", inPlace := ["internal/bytealg.IndexByteString"], unfollowed := true, recurses := true, named := ["math/bits.deBruijn64tab"], apart := false, laid := [("math/bits.deBruijn64tab", laid_math_bits_deBruijn64tab)], narrowed := true }
def GraphOwnUptoSaid : Prop := graphOwnUptoRow.holds Tryd.pinned (OpenSpec.upto graphOwnSpec)

end Rows
end Go.Proofs.YteldeiihjeddoaaDoor
