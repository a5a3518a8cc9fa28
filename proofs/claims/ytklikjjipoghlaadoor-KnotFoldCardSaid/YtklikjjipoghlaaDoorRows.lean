/-
  NARROWER THAN 'FOR EVERY INPUT', by the rows' own cells (each row's printed sentence says how): ChainMirsky: laid · ChainChains: laid · ChainDilworth: laid · CutWays: laid · CutTurn: laid · CutMenger: laid · DomOrder: laid · DomTree: laid · DomRules: laid · KnotParts: laid · KnotFold: laid.
  DERIVED. THE GIVEN ROWS OF THIS SEAT. 11 by the template 'for every input the law returns true; each argument reads behind the call as it read before'; 0 by the template 'total and deterministic' (their statements: YtklikjjipoghlaaDoorTotals.lean).
  GIVEN WITH THE SEED: the statements are not yours to turn. If you find one false, say at which input.
  Laid BY PROGRAM, IN A SANDBOX (cutbox-rows.mjs): the forced cells as the released guide's own fill.sh prints them over the translation 8efd7ad01928e639… (all of the seat's roots in one cut). By AI agents, Wed Nov 11 2026. No macro, syntax, notation, axiom, sorry.
-/
import Derived.Test.YtklikjjipoghlaaDoorChecked
import GoSem.Claim
import GoSem.ClaimJoined
import GoSem.ClaimMapViews
import Derived.JoinedTies
import Derived.KernelRfl
namespace Go.Proofs.YtklikjjipoghlaaDoor
/- THE CELL 'sum', in the pinned program and in every row, IS THE sha256 OF THE DUMP (.gsa) THAT YtklikjjipoghlaaDoorProg.lean LOADS. Nothing in Lean hashes anything: it is a label: what it is worth is what the hold of that sum in a sandbox is worth. -/
noncomputable def Tryd.pinned : Pinned := { name := "ytklikjjipoghlaadoor", sum := "8efd7ad01928e639f5ce68130386a1a5a82c55620f3a19848a6db946fe1bc249", checked := Tryd.checked }
namespace Rows
def none {H : Type} : Left H := { results := [], args := [] }

/- WHAT THE LISTED PACKAGE-LEVEL VARIABLES READ AS WHEN THE CALL BEGINS. Each datum BY PROGRAM (the guide's laid-datum.mjs) off the statement by which the dump's own 'gosem.cut.vars' lays the variable. In a bare row this is a premise. The card (YtklikjjipoghlaaDoorCards.lean) ties it to the program's text. -/
def laid_math_bits_deBruijn64tab {H : Type} : DataW H := .agg [.lit (.int .u8 0), .lit (.int .u8 1), .lit (.int .u8 56), .lit (.int .u8 2), .lit (.int .u8 57), .lit (.int .u8 49), .lit (.int .u8 28), .lit (.int .u8 3), .lit (.int .u8 61), .lit (.int .u8 58), .lit (.int .u8 42), .lit (.int .u8 50), .lit (.int .u8 38), .lit (.int .u8 29), .lit (.int .u8 17), .lit (.int .u8 4), .lit (.int .u8 62), .lit (.int .u8 47), .lit (.int .u8 59), .lit (.int .u8 36), .lit (.int .u8 45), .lit (.int .u8 43), .lit (.int .u8 51), .lit (.int .u8 22), .lit (.int .u8 53), .lit (.int .u8 39), .lit (.int .u8 33), .lit (.int .u8 30), .lit (.int .u8 24), .lit (.int .u8 18), .lit (.int .u8 12), .lit (.int .u8 5), .lit (.int .u8 63), .lit (.int .u8 55), .lit (.int .u8 48), .lit (.int .u8 27), .lit (.int .u8 60), .lit (.int .u8 41), .lit (.int .u8 37), .lit (.int .u8 16), .lit (.int .u8 46), .lit (.int .u8 35), .lit (.int .u8 44), .lit (.int .u8 21), .lit (.int .u8 52), .lit (.int .u8 32), .lit (.int .u8 23), .lit (.int .u8 11), .lit (.int .u8 54), .lit (.int .u8 26), .lit (.int .u8 40), .lit (.int .u8 15), .lit (.int .u8 34), .lit (.int .u8 20), .lit (.int .u8 31), .lit (.int .u8 10), .lit (.int .u8 25), .lit (.int .u8 14), .lit (.int .u8 19), .lit (.int .u8 9), .lit (.int .u8 13), .lit (.int .u8 8), .lit (.int .u8 7), .lit (.int .u8 6)]

/-- 'millwrightkeep.ChainMirsky': WHATEVER THE INPUT: true; the input reads as it did. -/
def chainMirskySpec : ChangeSpec := { name := "chainMirsky", fn := fun _ => fun
  | [d1, d2, d3] => { results := [.lit (.bool true)], args := [d1, d2, d3] }
  | _ => none }
def chainMirskyRow : OpenClaim := { program := "ytklikjjipoghlaadoor", sum := "8efd7ad01928e639f5ce68130386a1a5a82c55620f3a19848a6db946fe1bc249", func := "millwright/millwrightkeep.ChainMirsky", spec := "chainMirsky", named := ["math/bits.deBruijn64tab"], plainKeys := false, apart := false, laid := [("math/bits.deBruijn64tab", laid_math_bits_deBruijn64tab)] }
def ChainMirskySaid : Prop := chainMirskyRow.holds Tryd.pinned (OpenSpec.ofChange chainMirskySpec)

/-- ITS FALSE NEIGHBOUR: 'it returns false'. Refute it at one input. -/
def chainMirskyWrong : ChangeSpec := { name := "chainMirsky", fn := fun _ => fun
  | [d1, d2, d3] => { results := [.lit (.bool false)], args := [d1, d2, d3] }
  | _ => none }
def ChainMirskyWrongFalsely : Prop := chainMirskyRow.holds Tryd.pinned (OpenSpec.ofChange chainMirskyWrong)

/-- 'millwrightkeep.ChainChains': WHATEVER THE INPUT: true; the input reads as it did. -/
def chainChainsSpec : ChangeSpec := { name := "chainChains", fn := fun _ => fun
  | [d] => { results := [.lit (.bool true)], args := [d] }
  | _ => none }
def chainChainsRow : OpenClaim := { program := "ytklikjjipoghlaadoor", sum := "8efd7ad01928e639f5ce68130386a1a5a82c55620f3a19848a6db946fe1bc249", func := "millwright/millwrightkeep.ChainChains", spec := "chainChains", unfollowed := true, recurses := true, named := ["math/bits.deBruijn64tab"], plainKeys := false, apart := false, laid := [("math/bits.deBruijn64tab", laid_math_bits_deBruijn64tab)] }
def ChainChainsSaid : Prop := chainChainsRow.holds Tryd.pinned (OpenSpec.ofChange chainChainsSpec)

/-- ITS FALSE NEIGHBOUR: 'it returns false'. Refute it at one input. -/
def chainChainsWrong : ChangeSpec := { name := "chainChains", fn := fun _ => fun
  | [d] => { results := [.lit (.bool false)], args := [d] }
  | _ => none }
def ChainChainsWrongFalsely : Prop := chainChainsRow.holds Tryd.pinned (OpenSpec.ofChange chainChainsWrong)

/-- 'millwrightkeep.ChainDilworth': WHATEVER THE INPUT: true; the input reads as it did. -/
def chainDilworthSpec : ChangeSpec := { name := "chainDilworth", fn := fun _ => fun
  | [d1, d2] => { results := [.lit (.bool true)], args := [d1, d2] }
  | _ => none }
def chainDilworthRow : OpenClaim := { program := "ytklikjjipoghlaadoor", sum := "8efd7ad01928e639f5ce68130386a1a5a82c55620f3a19848a6db946fe1bc249", func := "millwright/millwrightkeep.ChainDilworth", spec := "chainDilworth", unfollowed := true, recurses := true, named := ["math/bits.deBruijn64tab"], plainKeys := false, apart := false, laid := [("math/bits.deBruijn64tab", laid_math_bits_deBruijn64tab)] }
def ChainDilworthSaid : Prop := chainDilworthRow.holds Tryd.pinned (OpenSpec.ofChange chainDilworthSpec)

/-- ITS FALSE NEIGHBOUR: 'it returns false'. Refute it at one input. -/
def chainDilworthWrong : ChangeSpec := { name := "chainDilworth", fn := fun _ => fun
  | [d1, d2] => { results := [.lit (.bool false)], args := [d1, d2] }
  | _ => none }
def ChainDilworthWrongFalsely : Prop := chainDilworthRow.holds Tryd.pinned (OpenSpec.ofChange chainDilworthWrong)

/-- 'millwrightkeep.CutWays': WHATEVER THE INPUT: true; the input reads as it did. -/
def cutWaysSpec : ChangeSpec := { name := "cutWays", fn := fun _ => fun
  | [d1, d2, d3] => { results := [.lit (.bool true)], args := [d1, d2, d3] }
  | _ => none }
def cutWaysRow : OpenClaim := { program := "ytklikjjipoghlaadoor", sum := "8efd7ad01928e639f5ce68130386a1a5a82c55620f3a19848a6db946fe1bc249", func := "millwright/millwrightkeep.CutWays", spec := "cutWays", unfollowed := true, recurses := true, named := ["math/bits.deBruijn64tab"], plainKeys := false, apart := false, laid := [("math/bits.deBruijn64tab", laid_math_bits_deBruijn64tab)] }
def CutWaysSaid : Prop := cutWaysRow.holds Tryd.pinned (OpenSpec.ofChange cutWaysSpec)

/-- ITS FALSE NEIGHBOUR: 'it returns false'. Refute it at one input. -/
def cutWaysWrong : ChangeSpec := { name := "cutWays", fn := fun _ => fun
  | [d1, d2, d3] => { results := [.lit (.bool false)], args := [d1, d2, d3] }
  | _ => none }
def CutWaysWrongFalsely : Prop := cutWaysRow.holds Tryd.pinned (OpenSpec.ofChange cutWaysWrong)

/-- 'millwrightkeep.CutTurn': WHATEVER THE INPUT: true; the input reads as it did. -/
def cutTurnSpec : ChangeSpec := { name := "cutTurn", fn := fun _ => fun
  | [d1, d2, d3] => { results := [.lit (.bool true)], args := [d1, d2, d3] }
  | _ => none }
def cutTurnRow : OpenClaim := { program := "ytklikjjipoghlaadoor", sum := "8efd7ad01928e639f5ce68130386a1a5a82c55620f3a19848a6db946fe1bc249", func := "millwright/millwrightkeep.CutTurn", spec := "cutTurn", unfollowed := true, recurses := true, named := ["math/bits.deBruijn64tab"], plainKeys := false, apart := false, laid := [("math/bits.deBruijn64tab", laid_math_bits_deBruijn64tab)] }
def CutTurnSaid : Prop := cutTurnRow.holds Tryd.pinned (OpenSpec.ofChange cutTurnSpec)

/-- ITS FALSE NEIGHBOUR: 'it returns false'. Refute it at one input. -/
def cutTurnWrong : ChangeSpec := { name := "cutTurn", fn := fun _ => fun
  | [d1, d2, d3] => { results := [.lit (.bool false)], args := [d1, d2, d3] }
  | _ => none }
def CutTurnWrongFalsely : Prop := cutTurnRow.holds Tryd.pinned (OpenSpec.ofChange cutTurnWrong)

/-- 'millwrightkeep.CutMenger': WHATEVER THE INPUT: true; the input reads as it did. -/
def cutMengerSpec : ChangeSpec := { name := "cutMenger", fn := fun _ => fun
  | [d1, d2, d3, d4] => { results := [.lit (.bool true)], args := [d1, d2, d3, d4] }
  | _ => none }
def cutMengerRow : OpenClaim := { program := "ytklikjjipoghlaadoor", sum := "8efd7ad01928e639f5ce68130386a1a5a82c55620f3a19848a6db946fe1bc249", func := "millwright/millwrightkeep.CutMenger", spec := "cutMenger", unfollowed := true, recurses := true, named := ["math/bits.deBruijn64tab"], plainKeys := false, apart := false, laid := [("math/bits.deBruijn64tab", laid_math_bits_deBruijn64tab)] }
def CutMengerSaid : Prop := cutMengerRow.holds Tryd.pinned (OpenSpec.ofChange cutMengerSpec)

/-- ITS FALSE NEIGHBOUR: 'it returns false'. Refute it at one input. -/
def cutMengerWrong : ChangeSpec := { name := "cutMenger", fn := fun _ => fun
  | [d1, d2, d3, d4] => { results := [.lit (.bool false)], args := [d1, d2, d3, d4] }
  | _ => none }
def CutMengerWrongFalsely : Prop := cutMengerRow.holds Tryd.pinned (OpenSpec.ofChange cutMengerWrong)

/-- 'millwrightkeep.DomOrder': WHATEVER THE INPUT: true; the input reads as it did. -/
def domOrderSpec : ChangeSpec := { name := "domOrder", fn := fun _ => fun
  | [d1, d2, d3, d4, d5] => { results := [.lit (.bool true)], args := [d1, d2, d3, d4, d5] }
  | _ => none }
def domOrderRow : OpenClaim := { program := "ytklikjjipoghlaadoor", sum := "8efd7ad01928e639f5ce68130386a1a5a82c55620f3a19848a6db946fe1bc249", func := "millwright/millwrightkeep.DomOrder", spec := "domOrder", unfollowed := true, recurses := true, named := ["math/bits.deBruijn64tab"], plainKeys := false, apart := false, laid := [("math/bits.deBruijn64tab", laid_math_bits_deBruijn64tab)] }
def DomOrderSaid : Prop := domOrderRow.holds Tryd.pinned (OpenSpec.ofChange domOrderSpec)

/-- ITS FALSE NEIGHBOUR: 'it returns false'. Refute it at one input. -/
def domOrderWrong : ChangeSpec := { name := "domOrder", fn := fun _ => fun
  | [d1, d2, d3, d4, d5] => { results := [.lit (.bool false)], args := [d1, d2, d3, d4, d5] }
  | _ => none }
def DomOrderWrongFalsely : Prop := domOrderRow.holds Tryd.pinned (OpenSpec.ofChange domOrderWrong)

/-- 'millwrightkeep.DomTree': WHATEVER THE INPUT: true; the input reads as it did. -/
def domTreeSpec : ChangeSpec := { name := "domTree", fn := fun _ => fun
  | [d1, d2, d3] => { results := [.lit (.bool true)], args := [d1, d2, d3] }
  | _ => none }
def domTreeRow : OpenClaim := { program := "ytklikjjipoghlaadoor", sum := "8efd7ad01928e639f5ce68130386a1a5a82c55620f3a19848a6db946fe1bc249", func := "millwright/millwrightkeep.DomTree", spec := "domTree", unfollowed := true, recurses := true, named := ["math/bits.deBruijn64tab"], plainKeys := false, apart := false, laid := [("math/bits.deBruijn64tab", laid_math_bits_deBruijn64tab)] }
def DomTreeSaid : Prop := domTreeRow.holds Tryd.pinned (OpenSpec.ofChange domTreeSpec)

/-- ITS FALSE NEIGHBOUR: 'it returns false'. Refute it at one input. -/
def domTreeWrong : ChangeSpec := { name := "domTree", fn := fun _ => fun
  | [d1, d2, d3] => { results := [.lit (.bool false)], args := [d1, d2, d3] }
  | _ => none }
def DomTreeWrongFalsely : Prop := domTreeRow.holds Tryd.pinned (OpenSpec.ofChange domTreeWrong)

/-- 'millwrightkeep.DomRules': WHATEVER THE INPUT: true; the input reads as it did. -/
def domRulesSpec : ChangeSpec := { name := "domRules", fn := fun _ => fun
  | [d1, d2, d3, d4] => { results := [.lit (.bool true)], args := [d1, d2, d3, d4] }
  | _ => none }
def domRulesRow : OpenClaim := { program := "ytklikjjipoghlaadoor", sum := "8efd7ad01928e639f5ce68130386a1a5a82c55620f3a19848a6db946fe1bc249", func := "millwright/millwrightkeep.DomRules", spec := "domRules", unfollowed := true, recurses := true, named := ["math/bits.deBruijn64tab"], plainKeys := false, apart := false, laid := [("math/bits.deBruijn64tab", laid_math_bits_deBruijn64tab)] }
def DomRulesSaid : Prop := domRulesRow.holds Tryd.pinned (OpenSpec.ofChange domRulesSpec)

/-- ITS FALSE NEIGHBOUR: 'it returns false'. Refute it at one input. -/
def domRulesWrong : ChangeSpec := { name := "domRules", fn := fun _ => fun
  | [d1, d2, d3, d4] => { results := [.lit (.bool false)], args := [d1, d2, d3, d4] }
  | _ => none }
def DomRulesWrongFalsely : Prop := domRulesRow.holds Tryd.pinned (OpenSpec.ofChange domRulesWrong)

/-- 'millwrightkeep.KnotParts': WHATEVER THE INPUT: true; the input reads as it did. -/
def knotPartsSpec : ChangeSpec := { name := "knotParts", fn := fun _ => fun
  | [d1, d2, d3] => { results := [.lit (.bool true)], args := [d1, d2, d3] }
  | _ => none }
def knotPartsRow : OpenClaim := { program := "ytklikjjipoghlaadoor", sum := "8efd7ad01928e639f5ce68130386a1a5a82c55620f3a19848a6db946fe1bc249", func := "millwright/millwrightkeep.KnotParts", spec := "knotParts", unfollowed := true, recurses := true, named := ["math/bits.deBruijn64tab"], plainKeys := false, apart := false, laid := [("math/bits.deBruijn64tab", laid_math_bits_deBruijn64tab)] }
def KnotPartsSaid : Prop := knotPartsRow.holds Tryd.pinned (OpenSpec.ofChange knotPartsSpec)

/-- ITS FALSE NEIGHBOUR: 'it returns false'. Refute it at one input. -/
def knotPartsWrong : ChangeSpec := { name := "knotParts", fn := fun _ => fun
  | [d1, d2, d3] => { results := [.lit (.bool false)], args := [d1, d2, d3] }
  | _ => none }
def KnotPartsWrongFalsely : Prop := knotPartsRow.holds Tryd.pinned (OpenSpec.ofChange knotPartsWrong)

/-- 'millwrightkeep.KnotFold': WHATEVER THE INPUT: true; the input reads as it did. -/
def knotFoldSpec : ChangeSpec := { name := "knotFold", fn := fun _ => fun
  | [d1, d2, d3] => { results := [.lit (.bool true)], args := [d1, d2, d3] }
  | _ => none }
def knotFoldRow : OpenClaim := { program := "ytklikjjipoghlaadoor", sum := "8efd7ad01928e639f5ce68130386a1a5a82c55620f3a19848a6db946fe1bc249", func := "millwright/millwrightkeep.KnotFold", spec := "knotFold", unfollowed := true, recurses := true, named := ["math/bits.deBruijn64tab"], plainKeys := false, apart := false, laid := [("math/bits.deBruijn64tab", laid_math_bits_deBruijn64tab)] }
def KnotFoldSaid : Prop := knotFoldRow.holds Tryd.pinned (OpenSpec.ofChange knotFoldSpec)

/-- ITS FALSE NEIGHBOUR: 'it returns false'. Refute it at one input. -/
def knotFoldWrong : ChangeSpec := { name := "knotFold", fn := fun _ => fun
  | [d1, d2, d3] => { results := [.lit (.bool false)], args := [d1, d2, d3] }
  | _ => none }
def KnotFoldWrongFalsely : Prop := knotFoldRow.holds Tryd.pinned (OpenSpec.ofChange knotFoldWrong)

/- THE SECOND FORM. 'bulk': how many values and letters a reading holds, each counted each time it is reached (what is shared counts as often as it is met; a slice's spare places count too). A statement '..UptoSaid' is the law's where the arguments, and the package variables that the reading takes, are together of bulk at most 1048576: NARROWER than '..Said'. Prove '..Said' where nothing that the law and all that it calls make is longer than what came in: it says more and counts as full. Else prove '..UptoSaid'. A law counts once. -/
mutual
def uptoBulk {H : Type} : DataW H → Nat
  | .lit (.string bytes) => bytes.length + 1
  | .lit _ => 1
  | .nil => 1
  | .ptr d => uptoBulk d + 1
  | .slice elems spare => uptoBulkAll elems + uptoBulkAll spare + 1
  | .agg parts => uptoBulkAll parts + 1
  | .iface _ d => uptoBulk d + 1
  | .map entries => uptoBulkEntries entries + 1
  | .held _ => 1
def uptoBulkAll {H : Type} : List (DataW H) → Nat
  | [] => 0
  | d :: r => uptoBulk d + uptoBulkAll r
def uptoBulkEntries {H : Type} : List (Lit × DataW H) → Nat
  | [] => 0
  | x :: r => uptoBulkEntry x + uptoBulkEntries r
def uptoBulkEntry {H : Type} : Lit × DataW H → Nat
  | (.string bytes, d) => bytes.length + uptoBulk d + 1
  | (_, d) => uptoBulk d + 1
 end
def uptoSmall : (H : Type) → List (DataW H) → Bool := fun _ ds => decide (uptoBulkAll ds ≤ 1048576)
def OpenSpec.upto (s : _root_.Go.ChangeSpec) : _root_.Go.OpenSpec := { _root_.Go.OpenSpec.ofChange s with cond := some uptoSmall }

/-- 'millwrightkeep.ChainMirsky', WHERE WHAT IT READS IS OF BULK AT MOST 1048576: true; the input reads as it did. -/
def chainMirskyUptoRow : OpenClaim := { program := "ytklikjjipoghlaadoor", sum := "8efd7ad01928e639f5ce68130386a1a5a82c55620f3a19848a6db946fe1bc249", func := "millwright/millwrightkeep.ChainMirsky", spec := "chainMirsky", named := ["math/bits.deBruijn64tab"], plainKeys := false, apart := false, laid := [("math/bits.deBruijn64tab", laid_math_bits_deBruijn64tab)], narrowed := true }
def ChainMirskyUptoSaid : Prop := chainMirskyUptoRow.holds Tryd.pinned (OpenSpec.upto chainMirskySpec)

/-- 'millwrightkeep.ChainChains', WHERE WHAT IT READS IS OF BULK AT MOST 1048576: true; the input reads as it did. -/
def chainChainsUptoRow : OpenClaim := { program := "ytklikjjipoghlaadoor", sum := "8efd7ad01928e639f5ce68130386a1a5a82c55620f3a19848a6db946fe1bc249", func := "millwright/millwrightkeep.ChainChains", spec := "chainChains", unfollowed := true, recurses := true, named := ["math/bits.deBruijn64tab"], plainKeys := false, apart := false, laid := [("math/bits.deBruijn64tab", laid_math_bits_deBruijn64tab)], narrowed := true }
def ChainChainsUptoSaid : Prop := chainChainsUptoRow.holds Tryd.pinned (OpenSpec.upto chainChainsSpec)

/-- 'millwrightkeep.ChainDilworth', WHERE WHAT IT READS IS OF BULK AT MOST 1048576: true; the input reads as it did. -/
def chainDilworthUptoRow : OpenClaim := { program := "ytklikjjipoghlaadoor", sum := "8efd7ad01928e639f5ce68130386a1a5a82c55620f3a19848a6db946fe1bc249", func := "millwright/millwrightkeep.ChainDilworth", spec := "chainDilworth", unfollowed := true, recurses := true, named := ["math/bits.deBruijn64tab"], plainKeys := false, apart := false, laid := [("math/bits.deBruijn64tab", laid_math_bits_deBruijn64tab)], narrowed := true }
def ChainDilworthUptoSaid : Prop := chainDilworthUptoRow.holds Tryd.pinned (OpenSpec.upto chainDilworthSpec)

/-- 'millwrightkeep.CutWays', WHERE WHAT IT READS IS OF BULK AT MOST 1048576: true; the input reads as it did. -/
def cutWaysUptoRow : OpenClaim := { program := "ytklikjjipoghlaadoor", sum := "8efd7ad01928e639f5ce68130386a1a5a82c55620f3a19848a6db946fe1bc249", func := "millwright/millwrightkeep.CutWays", spec := "cutWays", unfollowed := true, recurses := true, named := ["math/bits.deBruijn64tab"], plainKeys := false, apart := false, laid := [("math/bits.deBruijn64tab", laid_math_bits_deBruijn64tab)], narrowed := true }
def CutWaysUptoSaid : Prop := cutWaysUptoRow.holds Tryd.pinned (OpenSpec.upto cutWaysSpec)

/-- 'millwrightkeep.CutTurn', WHERE WHAT IT READS IS OF BULK AT MOST 1048576: true; the input reads as it did. -/
def cutTurnUptoRow : OpenClaim := { program := "ytklikjjipoghlaadoor", sum := "8efd7ad01928e639f5ce68130386a1a5a82c55620f3a19848a6db946fe1bc249", func := "millwright/millwrightkeep.CutTurn", spec := "cutTurn", unfollowed := true, recurses := true, named := ["math/bits.deBruijn64tab"], plainKeys := false, apart := false, laid := [("math/bits.deBruijn64tab", laid_math_bits_deBruijn64tab)], narrowed := true }
def CutTurnUptoSaid : Prop := cutTurnUptoRow.holds Tryd.pinned (OpenSpec.upto cutTurnSpec)

/-- 'millwrightkeep.CutMenger', WHERE WHAT IT READS IS OF BULK AT MOST 1048576: true; the input reads as it did. -/
def cutMengerUptoRow : OpenClaim := { program := "ytklikjjipoghlaadoor", sum := "8efd7ad01928e639f5ce68130386a1a5a82c55620f3a19848a6db946fe1bc249", func := "millwright/millwrightkeep.CutMenger", spec := "cutMenger", unfollowed := true, recurses := true, named := ["math/bits.deBruijn64tab"], plainKeys := false, apart := false, laid := [("math/bits.deBruijn64tab", laid_math_bits_deBruijn64tab)], narrowed := true }
def CutMengerUptoSaid : Prop := cutMengerUptoRow.holds Tryd.pinned (OpenSpec.upto cutMengerSpec)

/-- 'millwrightkeep.DomOrder', WHERE WHAT IT READS IS OF BULK AT MOST 1048576: true; the input reads as it did. -/
def domOrderUptoRow : OpenClaim := { program := "ytklikjjipoghlaadoor", sum := "8efd7ad01928e639f5ce68130386a1a5a82c55620f3a19848a6db946fe1bc249", func := "millwright/millwrightkeep.DomOrder", spec := "domOrder", unfollowed := true, recurses := true, named := ["math/bits.deBruijn64tab"], plainKeys := false, apart := false, laid := [("math/bits.deBruijn64tab", laid_math_bits_deBruijn64tab)], narrowed := true }
def DomOrderUptoSaid : Prop := domOrderUptoRow.holds Tryd.pinned (OpenSpec.upto domOrderSpec)

/-- 'millwrightkeep.DomTree', WHERE WHAT IT READS IS OF BULK AT MOST 1048576: true; the input reads as it did. -/
def domTreeUptoRow : OpenClaim := { program := "ytklikjjipoghlaadoor", sum := "8efd7ad01928e639f5ce68130386a1a5a82c55620f3a19848a6db946fe1bc249", func := "millwright/millwrightkeep.DomTree", spec := "domTree", unfollowed := true, recurses := true, named := ["math/bits.deBruijn64tab"], plainKeys := false, apart := false, laid := [("math/bits.deBruijn64tab", laid_math_bits_deBruijn64tab)], narrowed := true }
def DomTreeUptoSaid : Prop := domTreeUptoRow.holds Tryd.pinned (OpenSpec.upto domTreeSpec)

/-- 'millwrightkeep.DomRules', WHERE WHAT IT READS IS OF BULK AT MOST 1048576: true; the input reads as it did. -/
def domRulesUptoRow : OpenClaim := { program := "ytklikjjipoghlaadoor", sum := "8efd7ad01928e639f5ce68130386a1a5a82c55620f3a19848a6db946fe1bc249", func := "millwright/millwrightkeep.DomRules", spec := "domRules", unfollowed := true, recurses := true, named := ["math/bits.deBruijn64tab"], plainKeys := false, apart := false, laid := [("math/bits.deBruijn64tab", laid_math_bits_deBruijn64tab)], narrowed := true }
def DomRulesUptoSaid : Prop := domRulesUptoRow.holds Tryd.pinned (OpenSpec.upto domRulesSpec)

/-- 'millwrightkeep.KnotParts', WHERE WHAT IT READS IS OF BULK AT MOST 1048576: true; the input reads as it did. -/
def knotPartsUptoRow : OpenClaim := { program := "ytklikjjipoghlaadoor", sum := "8efd7ad01928e639f5ce68130386a1a5a82c55620f3a19848a6db946fe1bc249", func := "millwright/millwrightkeep.KnotParts", spec := "knotParts", unfollowed := true, recurses := true, named := ["math/bits.deBruijn64tab"], plainKeys := false, apart := false, laid := [("math/bits.deBruijn64tab", laid_math_bits_deBruijn64tab)], narrowed := true }
def KnotPartsUptoSaid : Prop := knotPartsUptoRow.holds Tryd.pinned (OpenSpec.upto knotPartsSpec)

/-- 'millwrightkeep.KnotFold', WHERE WHAT IT READS IS OF BULK AT MOST 1048576: true; the input reads as it did. -/
def knotFoldUptoRow : OpenClaim := { program := "ytklikjjipoghlaadoor", sum := "8efd7ad01928e639f5ce68130386a1a5a82c55620f3a19848a6db946fe1bc249", func := "millwright/millwrightkeep.KnotFold", spec := "knotFold", unfollowed := true, recurses := true, named := ["math/bits.deBruijn64tab"], plainKeys := false, apart := false, laid := [("math/bits.deBruijn64tab", laid_math_bits_deBruijn64tab)], narrowed := true }
def KnotFoldUptoSaid : Prop := knotFoldUptoRow.holds Tryd.pinned (OpenSpec.upto knotFoldSpec)

end Rows
end Go.Proofs.YtklikjjipoghlaaDoor
