/-
  NARROWER THAN 'FOR EVERY INPUT', by the rows' own cells (each row's printed sentence says how): NormSame: loops, laid · AskBound: loops, laid · EvalSets: loops, laid · EvalWalks: loops, laid · EvalLet: loops, laid · EvalKinds: loops, laid · EvalTurn: loops, laid.
  DERIVED. THE GIVEN ROWS OF THIS SEAT. 7 by the template 'for every input the law returns true; each argument reads behind the call as it read before'; 0 by the template 'total and deterministic' (their statements: YteefncohknclcaaGreatDoorTotals.lean).
  GIVEN WITH THE SEED: the statements are not yours to turn. If you find one false, say at which input.
  Laid BY PROGRAM, IN A SANDBOX (cutbox-rows.mjs): the forced cells as the released guide's own fill.sh prints them over the translation 123d68f597b61843… (all of the seat's roots in one cut). By AI agents, Wed Nov 11 2026. No macro, syntax, notation, axiom, sorry.
-/
import Derived.Test.YteefncohknclcaaGreatDoorChecked
import GoSem.PinnedTables
import GoSem.Claim
import GoSem.ClaimJoined
import GoSem.ClaimMapViews
import Derived.JoinedTies
import Derived.KernelRfl
namespace Go.Proofs.YteefncohknclcaaGreatDoor
/- THE CELL 'sum', in the pinned program and in every row, IS THE sha256 OF THE DUMP (.gsa) THAT YteefncohknclcaaGreatDoorProg.lean LOADS. Nothing in Lean hashes anything: it is a label: what it is worth is what the hold of that sum in a sandbox is worth. -/
noncomputable def Tryz.pinned : Pinned := { name := "yteefncohknclcaagreatdoor", sum := "123d68f597b618439dab32c1ee479f4da3a7d883f7e09bcaac92ccf7a8835d75", checked := Tryz.checked }
namespace Rows
def none {H : Type} : Left H := { results := [], args := [] }

/- WHAT THE LISTED PACKAGE-LEVEL VARIABLES READ AS WHEN THE CALL BEGINS. Each datum BY PROGRAM (the guide's laid-datum.mjs) off the statement by which the dump's own 'gosem.cut.vars' lays the variable. In a bare row this is a premise. The card (YteefncohknclcaaGreatDoorCards.lean) ties it to the program's text. -/
def laid_math_bits_deBruijn32tab {H : Type} : DataW H := .agg [.lit (.int .u8 0), .lit (.int .u8 1), .lit (.int .u8 28), .lit (.int .u8 2), .lit (.int .u8 29), .lit (.int .u8 14), .lit (.int .u8 24), .lit (.int .u8 3), .lit (.int .u8 30), .lit (.int .u8 22), .lit (.int .u8 20), .lit (.int .u8 15), .lit (.int .u8 25), .lit (.int .u8 17), .lit (.int .u8 4), .lit (.int .u8 8), .lit (.int .u8 31), .lit (.int .u8 27), .lit (.int .u8 13), .lit (.int .u8 23), .lit (.int .u8 21), .lit (.int .u8 19), .lit (.int .u8 16), .lit (.int .u8 7), .lit (.int .u8 26), .lit (.int .u8 12), .lit (.int .u8 18), .lit (.int .u8 6), .lit (.int .u8 11), .lit (.int .u8 5), .lit (.int .u8 10), .lit (.int .u8 9)]
def laid_math_bits_deBruijn64tab {H : Type} : DataW H := .agg [.lit (.int .u8 0), .lit (.int .u8 1), .lit (.int .u8 56), .lit (.int .u8 2), .lit (.int .u8 57), .lit (.int .u8 49), .lit (.int .u8 28), .lit (.int .u8 3), .lit (.int .u8 61), .lit (.int .u8 58), .lit (.int .u8 42), .lit (.int .u8 50), .lit (.int .u8 38), .lit (.int .u8 29), .lit (.int .u8 17), .lit (.int .u8 4), .lit (.int .u8 62), .lit (.int .u8 47), .lit (.int .u8 59), .lit (.int .u8 36), .lit (.int .u8 45), .lit (.int .u8 43), .lit (.int .u8 51), .lit (.int .u8 22), .lit (.int .u8 53), .lit (.int .u8 39), .lit (.int .u8 33), .lit (.int .u8 30), .lit (.int .u8 24), .lit (.int .u8 18), .lit (.int .u8 12), .lit (.int .u8 5), .lit (.int .u8 63), .lit (.int .u8 55), .lit (.int .u8 48), .lit (.int .u8 27), .lit (.int .u8 60), .lit (.int .u8 41), .lit (.int .u8 37), .lit (.int .u8 16), .lit (.int .u8 46), .lit (.int .u8 35), .lit (.int .u8 44), .lit (.int .u8 21), .lit (.int .u8 52), .lit (.int .u8 32), .lit (.int .u8 23), .lit (.int .u8 11), .lit (.int .u8 54), .lit (.int .u8 26), .lit (.int .u8 40), .lit (.int .u8 15), .lit (.int .u8 34), .lit (.int .u8 20), .lit (.int .u8 31), .lit (.int .u8 10), .lit (.int .u8 25), .lit (.int .u8 14), .lit (.int .u8 19), .lit (.int .u8 9), .lit (.int .u8 13), .lit (.int .u8 8), .lit (.int .u8 7), .lit (.int .u8 6)]
def laid_internal_strconv_uint64pow10 {H : Type} : DataW H := .agg [.lit (.int .u64 1), .lit (.int .u64 10), .lit (.int .u64 100), .lit (.int .u64 1000), .lit (.int .u64 10000), .lit (.int .u64 100000), .lit (.int .u64 1000000), .lit (.int .u64 10000000), .lit (.int .u64 100000000), .lit (.int .u64 1000000000), .lit (.int .u64 10000000000), .lit (.int .u64 100000000000), .lit (.int .u64 1000000000000), .lit (.int .u64 10000000000000), .lit (.int .u64 100000000000000), .lit (.int .u64 1000000000000000), .lit (.int .u64 10000000000000000), .lit (.int .u64 100000000000000000), .lit (.int .u64 1000000000000000000), .lit (.int .u64 10000000000000000000)]
def laid_unicode_utf8_acceptRanges {H : Type} : DataW H := .agg [.agg [.lit (.int .u8 128), .lit (.int .u8 191)], .agg [.lit (.int .u8 160), .lit (.int .u8 191)], .agg [.lit (.int .u8 128), .lit (.int .u8 159)], .agg [.lit (.int .u8 144), .lit (.int .u8 191)], .agg [.lit (.int .u8 128), .lit (.int .u8 143)], .agg [.lit (.int .u8 0), .lit (.int .u8 0)], .agg [.lit (.int .u8 0), .lit (.int .u8 0)], .agg [.lit (.int .u8 0), .lit (.int .u8 0)], .agg [.lit (.int .u8 0), .lit (.int .u8 0)], .agg [.lit (.int .u8 0), .lit (.int .u8 0)], .agg [.lit (.int .u8 0), .lit (.int .u8 0)], .agg [.lit (.int .u8 0), .lit (.int .u8 0)], .agg [.lit (.int .u8 0), .lit (.int .u8 0)], .agg [.lit (.int .u8 0), .lit (.int .u8 0)], .agg [.lit (.int .u8 0), .lit (.int .u8 0)], .agg [.lit (.int .u8 0), .lit (.int .u8 0)]]
def laid_millwright_ask_forms {H : Type} : DataW H := .agg [.agg [.lit (.int .i64 0), .lit (.bool false), .lit (.bool false), .lit (.string [])], .agg [.lit (.int .i64 0), .lit (.bool true), .lit (.bool false), .lit (.string [])], .agg [.lit (.int .i64 0), .lit (.bool false), .lit (.bool false), .lit (.string [])], .agg [.lit (.int .i64 0), .lit (.bool true), .lit (.bool false), .lit (.string [])], .agg [.lit (.int .i64 2), .lit (.bool true), .lit (.bool false), .lit (.string [])], .agg [.lit (.int .i64 2), .lit (.bool false), .lit (.bool false), .lit (.string [43])], .agg [.lit (.int .i64 2), .lit (.bool false), .lit (.bool false), .lit (.string [94])], .agg [.lit (.int .i64 2), .lit (.bool false), .lit (.bool false), .lit (.string [45])], .agg [.lit (.int .i64 1), .lit (.bool false), .lit (.bool false), .lit (.string [100, 101, 112, 115])], .agg [.lit (.int .i64 1), .lit (.bool false), .lit (.bool false), .lit (.string [117, 115, 101, 114, 115])], .agg [.lit (.int .i64 1), .lit (.bool false), .lit (.bool true), .lit (.string [100, 101, 112, 115])], .agg [.lit (.int .i64 1), .lit (.bool false), .lit (.bool true), .lit (.string [117, 115, 101, 114, 115])], .agg [.lit (.int .i64 2), .lit (.bool false), .lit (.bool false), .lit (.string [119, 97, 121, 115])], .agg [.lit (.int .i64 2), .lit (.bool false), .lit (.bool false), .lit (.string [115, 111, 109, 101])], .agg [.lit (.int .i64 1), .lit (.bool true), .lit (.bool false), .lit (.string [109, 97, 116, 99, 104])], .agg [.lit (.int .i64 1), .lit (.bool false), .lit (.bool true), .lit (.string [])]]
def laid_millwright_ask_kinds {H : Type} : DataW H := .agg [.lit (.string []), .lit (.string [109, 97, 100, 101]), .lit (.string [112, 104, 111, 110, 121]), .lit (.string [112, 108, 97, 105, 110])]
/-- One of Go's own tables, pinned by name: the form's constant. -/
def laid_unicode_utf8_first : DataW Unit := Go.Pinned.utf8First

/-- 'millwrightkeep.NormSame': WHATEVER THE INPUT: true; the input reads as it did. -/
def normSameSpec : ChangeSpec := { name := "normSame", fn := fun _ => fun
  | [d1, d2] => { results := [.lit (.bool true)], args := [d1, d2] }
  | _ => none }
def normSameRow : OpenClaim := { program := "yteefncohknclcaagreatdoor", sum := "123d68f597b618439dab32c1ee479f4da3a7d883f7e09bcaac92ccf7a8835d75", func := "millwright/millwrightkeep.NormSame", spec := "normSame", inPlace := ["internal/abi.NoEscape", "internal/bytealg.MakeNoZero", "internal/bytealg.IndexByteString", "internal/bytealg.IndexString"], unfollowed := true, recurses := true, named := ["millwright/ask.forms", "unicode/utf8.first", "unicode/utf8.acceptRanges", "millwright/ask.kinds", "internal/strconv.uint64pow10", "math/bits.deBruijn32tab", "math/bits.deBruijn64tab", "internal/bytealg.MaxLen"], loops := true, apart := false, laid := [("math/bits.deBruijn32tab", laid_math_bits_deBruijn32tab), ("math/bits.deBruijn64tab", laid_math_bits_deBruijn64tab), ("internal/strconv.uint64pow10", laid_internal_strconv_uint64pow10), ("unicode/utf8.acceptRanges", laid_unicode_utf8_acceptRanges), ("millwright/ask.forms", laid_millwright_ask_forms), ("millwright/ask.kinds", laid_millwright_ask_kinds), ("unicode/utf8.first", laid_unicode_utf8_first)] }
def NormSameSaid : Prop := normSameRow.holds Tryz.pinned (OpenSpec.ofChange normSameSpec)

/-- ITS FALSE NEIGHBOUR: 'it returns false'. Refute it at one input. -/
def normSameWrong : ChangeSpec := { name := "normSame", fn := fun _ => fun
  | [d1, d2] => { results := [.lit (.bool false)], args := [d1, d2] }
  | _ => none }
def NormSameWrongFalsely : Prop := normSameRow.holds Tryz.pinned (OpenSpec.ofChange normSameWrong)

/-- 'millwrightkeep.AskBound': WHATEVER THE INPUT: true; the input reads as it did. -/
def askBoundSpec : ChangeSpec := { name := "askBound", fn := fun _ => fun
  | [d1, d2, d3] => { results := [.lit (.bool true)], args := [d1, d2, d3] }
  | _ => none }
def askBoundRow : OpenClaim := { program := "yteefncohknclcaagreatdoor", sum := "123d68f597b618439dab32c1ee479f4da3a7d883f7e09bcaac92ccf7a8835d75", func := "millwright/millwrightkeep.AskBound", spec := "askBound", inPlace := ["internal/abi.NoEscape", "internal/bytealg.MakeNoZero", "internal/bytealg.IndexByteString", "internal/bytealg.IndexString"], unfollowed := true, recurses := true, named := ["millwright/ask.forms", "unicode/utf8.first", "unicode/utf8.acceptRanges", "millwright/ask.kinds", "internal/strconv.uint64pow10", "math/bits.deBruijn32tab", "math/bits.deBruijn64tab", "internal/bytealg.MaxLen"], loops := true, apart := false, laid := [("math/bits.deBruijn32tab", laid_math_bits_deBruijn32tab), ("math/bits.deBruijn64tab", laid_math_bits_deBruijn64tab), ("internal/strconv.uint64pow10", laid_internal_strconv_uint64pow10), ("unicode/utf8.acceptRanges", laid_unicode_utf8_acceptRanges), ("millwright/ask.forms", laid_millwright_ask_forms), ("millwright/ask.kinds", laid_millwright_ask_kinds), ("unicode/utf8.first", laid_unicode_utf8_first)] }
def AskBoundSaid : Prop := askBoundRow.holds Tryz.pinned (OpenSpec.ofChange askBoundSpec)

/-- ITS FALSE NEIGHBOUR: 'it returns false'. Refute it at one input. -/
def askBoundWrong : ChangeSpec := { name := "askBound", fn := fun _ => fun
  | [d1, d2, d3] => { results := [.lit (.bool false)], args := [d1, d2, d3] }
  | _ => none }
def AskBoundWrongFalsely : Prop := askBoundRow.holds Tryz.pinned (OpenSpec.ofChange askBoundWrong)

/-- 'millwrightkeep.EvalSets': WHATEVER THE INPUT: true; the input reads as it did. -/
def evalSetsSpec : ChangeSpec := { name := "evalSets", fn := fun _ => fun
  | [d1, d2, d3] => { results := [.lit (.bool true)], args := [d1, d2, d3] }
  | _ => none }
def evalSetsRow : OpenClaim := { program := "yteefncohknclcaagreatdoor", sum := "123d68f597b618439dab32c1ee479f4da3a7d883f7e09bcaac92ccf7a8835d75", func := "millwright/millwrightkeep.EvalSets", spec := "evalSets", inPlace := ["internal/bytealg.IndexByteString", "internal/abi.NoEscape", "internal/bytealg.MakeNoZero", "internal/bytealg.IndexString"], unfollowed := true, recurses := true, named := ["millwright/ask.forms", "unicode/utf8.first", "unicode/utf8.acceptRanges", "math/bits.deBruijn64tab", "internal/bytealg.MaxLen"], loops := true, apart := false, laid := [("math/bits.deBruijn64tab", laid_math_bits_deBruijn64tab), ("unicode/utf8.acceptRanges", laid_unicode_utf8_acceptRanges), ("millwright/ask.forms", laid_millwright_ask_forms), ("unicode/utf8.first", laid_unicode_utf8_first)] }
def EvalSetsSaid : Prop := evalSetsRow.holds Tryz.pinned (OpenSpec.ofChange evalSetsSpec)

/-- ITS FALSE NEIGHBOUR: 'it returns false'. Refute it at one input. -/
def evalSetsWrong : ChangeSpec := { name := "evalSets", fn := fun _ => fun
  | [d1, d2, d3] => { results := [.lit (.bool false)], args := [d1, d2, d3] }
  | _ => none }
def EvalSetsWrongFalsely : Prop := evalSetsRow.holds Tryz.pinned (OpenSpec.ofChange evalSetsWrong)

/-- 'millwrightkeep.EvalWalks': WHATEVER THE INPUT: true; the input reads as it did. -/
def evalWalksSpec : ChangeSpec := { name := "evalWalks", fn := fun _ => fun
  | [d1, d2, d3] => { results := [.lit (.bool true)], args := [d1, d2, d3] }
  | _ => none }
def evalWalksRow : OpenClaim := { program := "yteefncohknclcaagreatdoor", sum := "123d68f597b618439dab32c1ee479f4da3a7d883f7e09bcaac92ccf7a8835d75", func := "millwright/millwrightkeep.EvalWalks", spec := "evalWalks", inPlace := ["internal/bytealg.IndexByteString", "internal/abi.NoEscape", "internal/bytealg.MakeNoZero", "internal/bytealg.IndexString"], unfollowed := true, recurses := true, named := ["millwright/ask.forms", "unicode/utf8.first", "unicode/utf8.acceptRanges", "math/bits.deBruijn64tab", "internal/bytealg.MaxLen"], loops := true, apart := false, laid := [("math/bits.deBruijn64tab", laid_math_bits_deBruijn64tab), ("unicode/utf8.acceptRanges", laid_unicode_utf8_acceptRanges), ("millwright/ask.forms", laid_millwright_ask_forms), ("unicode/utf8.first", laid_unicode_utf8_first)] }
def EvalWalksSaid : Prop := evalWalksRow.holds Tryz.pinned (OpenSpec.ofChange evalWalksSpec)

/-- ITS FALSE NEIGHBOUR: 'it returns false'. Refute it at one input. -/
def evalWalksWrong : ChangeSpec := { name := "evalWalks", fn := fun _ => fun
  | [d1, d2, d3] => { results := [.lit (.bool false)], args := [d1, d2, d3] }
  | _ => none }
def EvalWalksWrongFalsely : Prop := evalWalksRow.holds Tryz.pinned (OpenSpec.ofChange evalWalksWrong)

/-- 'millwrightkeep.EvalLet': WHATEVER THE INPUT: true; the input reads as it did. -/
def evalLetSpec : ChangeSpec := { name := "evalLet", fn := fun _ => fun
  | [d1, d2, d3, d4] => { results := [.lit (.bool true)], args := [d1, d2, d3, d4] }
  | _ => none }
def evalLetRow : OpenClaim := { program := "yteefncohknclcaagreatdoor", sum := "123d68f597b618439dab32c1ee479f4da3a7d883f7e09bcaac92ccf7a8835d75", func := "millwright/millwrightkeep.EvalLet", spec := "evalLet", inPlace := ["internal/bytealg.IndexByteString", "internal/abi.NoEscape", "internal/bytealg.MakeNoZero", "internal/bytealg.IndexString"], unfollowed := true, recurses := true, named := ["millwright/ask.forms", "unicode/utf8.first", "unicode/utf8.acceptRanges", "math/bits.deBruijn64tab", "internal/bytealg.MaxLen"], loops := true, apart := false, laid := [("math/bits.deBruijn64tab", laid_math_bits_deBruijn64tab), ("unicode/utf8.acceptRanges", laid_unicode_utf8_acceptRanges), ("millwright/ask.forms", laid_millwright_ask_forms), ("unicode/utf8.first", laid_unicode_utf8_first)] }
def EvalLetSaid : Prop := evalLetRow.holds Tryz.pinned (OpenSpec.ofChange evalLetSpec)

/-- ITS FALSE NEIGHBOUR: 'it returns false'. Refute it at one input. -/
def evalLetWrong : ChangeSpec := { name := "evalLet", fn := fun _ => fun
  | [d1, d2, d3, d4] => { results := [.lit (.bool false)], args := [d1, d2, d3, d4] }
  | _ => none }
def EvalLetWrongFalsely : Prop := evalLetRow.holds Tryz.pinned (OpenSpec.ofChange evalLetWrong)

/-- 'millwrightkeep.EvalKinds': WHATEVER THE INPUT: true; the input reads as it did. -/
def evalKindsSpec : ChangeSpec := { name := "evalKinds", fn := fun _ => fun
  | [d1, d2, d3] => { results := [.lit (.bool true)], args := [d1, d2, d3] }
  | _ => none }
def evalKindsRow : OpenClaim := { program := "yteefncohknclcaagreatdoor", sum := "123d68f597b618439dab32c1ee479f4da3a7d883f7e09bcaac92ccf7a8835d75", func := "millwright/millwrightkeep.EvalKinds", spec := "evalKinds", inPlace := ["internal/bytealg.IndexByteString", "internal/abi.NoEscape", "internal/bytealg.MakeNoZero", "internal/bytealg.IndexString"], unfollowed := true, recurses := true, named := ["millwright/ask.forms", "unicode/utf8.first", "unicode/utf8.acceptRanges", "math/bits.deBruijn64tab", "internal/bytealg.MaxLen"], loops := true, apart := false, laid := [("math/bits.deBruijn64tab", laid_math_bits_deBruijn64tab), ("unicode/utf8.acceptRanges", laid_unicode_utf8_acceptRanges), ("millwright/ask.forms", laid_millwright_ask_forms), ("unicode/utf8.first", laid_unicode_utf8_first)] }
def EvalKindsSaid : Prop := evalKindsRow.holds Tryz.pinned (OpenSpec.ofChange evalKindsSpec)

/-- ITS FALSE NEIGHBOUR: 'it returns false'. Refute it at one input. -/
def evalKindsWrong : ChangeSpec := { name := "evalKinds", fn := fun _ => fun
  | [d1, d2, d3] => { results := [.lit (.bool false)], args := [d1, d2, d3] }
  | _ => none }
def EvalKindsWrongFalsely : Prop := evalKindsRow.holds Tryz.pinned (OpenSpec.ofChange evalKindsWrong)

/-- 'millwrightkeep.EvalTurn': WHATEVER THE INPUT: true; the input reads as it did. -/
def evalTurnSpec : ChangeSpec := { name := "evalTurn", fn := fun _ => fun
  | [d1, d2, d3] => { results := [.lit (.bool true)], args := [d1, d2, d3] }
  | _ => none }
def evalTurnRow : OpenClaim := { program := "yteefncohknclcaagreatdoor", sum := "123d68f597b618439dab32c1ee479f4da3a7d883f7e09bcaac92ccf7a8835d75", func := "millwright/millwrightkeep.EvalTurn", spec := "evalTurn", inPlace := ["internal/bytealg.IndexByteString", "internal/abi.NoEscape", "internal/bytealg.MakeNoZero", "internal/bytealg.IndexString"], unfollowed := true, recurses := true, named := ["millwright/ask.forms", "unicode/utf8.first", "unicode/utf8.acceptRanges", "math/bits.deBruijn64tab", "internal/bytealg.MaxLen"], loops := true, apart := false, laid := [("math/bits.deBruijn64tab", laid_math_bits_deBruijn64tab), ("unicode/utf8.acceptRanges", laid_unicode_utf8_acceptRanges), ("millwright/ask.forms", laid_millwright_ask_forms), ("unicode/utf8.first", laid_unicode_utf8_first)] }
def EvalTurnSaid : Prop := evalTurnRow.holds Tryz.pinned (OpenSpec.ofChange evalTurnSpec)

/-- ITS FALSE NEIGHBOUR: 'it returns false'. Refute it at one input. -/
def evalTurnWrong : ChangeSpec := { name := "evalTurn", fn := fun _ => fun
  | [d1, d2, d3] => { results := [.lit (.bool false)], args := [d1, d2, d3] }
  | _ => none }
def EvalTurnWrongFalsely : Prop := evalTurnRow.holds Tryz.pinned (OpenSpec.ofChange evalTurnWrong)

/- THE SECOND FORM. 'bulk': how many values and letters a reading holds, each counted each time it is reached (what is shared counts as often as it is met; a slice's spare places count too). A statement '..UptoSaid' is the law's where the arguments, and the package variables that the reading takes, are together of bulk at most 1048576: NARROWER than '..Said'. Prove '..Said' where nothing that the law and all that it calls make is longer than what came in: it says more and counts as full. Else prove '..UptoSaid'. A law counts once. -/
mutual
def uptoBulk {H : Type} : DataW H → Nat
  | .lit (.string bytes) => bytes.length + 1
  | .lit _ => 1
  | .nil => 1
  | .ptr d => uptoBulk d + 1
  | .slice elems spare => uptoBulkAll elems + uptoBulkAll spare + 1
  | .agg parts => uptoBulkAll parts + 1
  | .iface _ d => uptoBulk d + 1
  | .map entries => uptoBulkEntries entries + 1
  | .held _ => 1
def uptoBulkAll {H : Type} : List (DataW H) → Nat
  | [] => 0
  | d :: r => uptoBulk d + uptoBulkAll r
def uptoBulkEntries {H : Type} : List (Lit × DataW H) → Nat
  | [] => 0
  | x :: r => uptoBulkEntry x + uptoBulkEntries r
def uptoBulkEntry {H : Type} : Lit × DataW H → Nat
  | (.string bytes, d) => bytes.length + uptoBulk d + 1
  | (_, d) => uptoBulk d + 1
 end
def uptoSmall : (H : Type) → List (DataW H) → Bool := fun _ ds => decide (uptoBulkAll ds ≤ 1048576)
def OpenSpec.upto (s : _root_.Go.ChangeSpec) : _root_.Go.OpenSpec := { _root_.Go.OpenSpec.ofChange s with cond := some uptoSmall }

/-- 'millwrightkeep.NormSame', WHERE WHAT IT READS IS OF BULK AT MOST 1048576: true; the input reads as it did. -/
def normSameUptoRow : OpenClaim := { program := "yteefncohknclcaagreatdoor", sum := "123d68f597b618439dab32c1ee479f4da3a7d883f7e09bcaac92ccf7a8835d75", func := "millwright/millwrightkeep.NormSame", spec := "normSame", inPlace := ["internal/abi.NoEscape", "internal/bytealg.MakeNoZero", "internal/bytealg.IndexByteString", "internal/bytealg.IndexString"], unfollowed := true, recurses := true, named := ["millwright/ask.forms", "unicode/utf8.first", "unicode/utf8.acceptRanges", "millwright/ask.kinds", "internal/strconv.uint64pow10", "math/bits.deBruijn32tab", "math/bits.deBruijn64tab", "internal/bytealg.MaxLen"], loops := true, apart := false, laid := [("math/bits.deBruijn32tab", laid_math_bits_deBruijn32tab), ("math/bits.deBruijn64tab", laid_math_bits_deBruijn64tab), ("internal/strconv.uint64pow10", laid_internal_strconv_uint64pow10), ("unicode/utf8.acceptRanges", laid_unicode_utf8_acceptRanges), ("millwright/ask.forms", laid_millwright_ask_forms), ("millwright/ask.kinds", laid_millwright_ask_kinds), ("unicode/utf8.first", laid_unicode_utf8_first)], narrowed := true }
def NormSameUptoSaid : Prop := normSameUptoRow.holds Tryz.pinned (OpenSpec.upto normSameSpec)

/-- 'millwrightkeep.AskBound', WHERE WHAT IT READS IS OF BULK AT MOST 1048576: true; the input reads as it did. -/
def askBoundUptoRow : OpenClaim := { program := "yteefncohknclcaagreatdoor", sum := "123d68f597b618439dab32c1ee479f4da3a7d883f7e09bcaac92ccf7a8835d75", func := "millwright/millwrightkeep.AskBound", spec := "askBound", inPlace := ["internal/abi.NoEscape", "internal/bytealg.MakeNoZero", "internal/bytealg.IndexByteString", "internal/bytealg.IndexString"], unfollowed := true, recurses := true, named := ["millwright/ask.forms", "unicode/utf8.first", "unicode/utf8.acceptRanges", "millwright/ask.kinds", "internal/strconv.uint64pow10", "math/bits.deBruijn32tab", "math/bits.deBruijn64tab", "internal/bytealg.MaxLen"], loops := true, apart := false, laid := [("math/bits.deBruijn32tab", laid_math_bits_deBruijn32tab), ("math/bits.deBruijn64tab", laid_math_bits_deBruijn64tab), ("internal/strconv.uint64pow10", laid_internal_strconv_uint64pow10), ("unicode/utf8.acceptRanges", laid_unicode_utf8_acceptRanges), ("millwright/ask.forms", laid_millwright_ask_forms), ("millwright/ask.kinds", laid_millwright_ask_kinds), ("unicode/utf8.first", laid_unicode_utf8_first)], narrowed := true }
def AskBoundUptoSaid : Prop := askBoundUptoRow.holds Tryz.pinned (OpenSpec.upto askBoundSpec)

/-- 'millwrightkeep.EvalSets', WHERE WHAT IT READS IS OF BULK AT MOST 1048576: true; the input reads as it did. -/
def evalSetsUptoRow : OpenClaim := { program := "yteefncohknclcaagreatdoor", sum := "123d68f597b618439dab32c1ee479f4da3a7d883f7e09bcaac92ccf7a8835d75", func := "millwright/millwrightkeep.EvalSets", spec := "evalSets", inPlace := ["internal/bytealg.IndexByteString", "internal/abi.NoEscape", "internal/bytealg.MakeNoZero", "internal/bytealg.IndexString"], unfollowed := true, recurses := true, named := ["millwright/ask.forms", "unicode/utf8.first", "unicode/utf8.acceptRanges", "math/bits.deBruijn64tab", "internal/bytealg.MaxLen"], loops := true, apart := false, laid := [("math/bits.deBruijn64tab", laid_math_bits_deBruijn64tab), ("unicode/utf8.acceptRanges", laid_unicode_utf8_acceptRanges), ("millwright/ask.forms", laid_millwright_ask_forms), ("unicode/utf8.first", laid_unicode_utf8_first)], narrowed := true }
def EvalSetsUptoSaid : Prop := evalSetsUptoRow.holds Tryz.pinned (OpenSpec.upto evalSetsSpec)

/-- 'millwrightkeep.EvalWalks', WHERE WHAT IT READS IS OF BULK AT MOST 1048576: true; the input reads as it did. -/
def evalWalksUptoRow : OpenClaim := { program := "yteefncohknclcaagreatdoor", sum := "123d68f597b618439dab32c1ee479f4da3a7d883f7e09bcaac92ccf7a8835d75", func := "millwright/millwrightkeep.EvalWalks", spec := "evalWalks", inPlace := ["internal/bytealg.IndexByteString", "internal/abi.NoEscape", "internal/bytealg.MakeNoZero", "internal/bytealg.IndexString"], unfollowed := true, recurses := true, named := ["millwright/ask.forms", "unicode/utf8.first", "unicode/utf8.acceptRanges", "math/bits.deBruijn64tab", "internal/bytealg.MaxLen"], loops := true, apart := false, laid := [("math/bits.deBruijn64tab", laid_math_bits_deBruijn64tab), ("unicode/utf8.acceptRanges", laid_unicode_utf8_acceptRanges), ("millwright/ask.forms", laid_millwright_ask_forms), ("unicode/utf8.first", laid_unicode_utf8_first)], narrowed := true }
def EvalWalksUptoSaid : Prop := evalWalksUptoRow.holds Tryz.pinned (OpenSpec.upto evalWalksSpec)

/-- 'millwrightkeep.EvalLet', WHERE WHAT IT READS IS OF BULK AT MOST 1048576: true; the input reads as it did. -/
def evalLetUptoRow : OpenClaim := { program := "yteefncohknclcaagreatdoor", sum := "123d68f597b618439dab32c1ee479f4da3a7d883f7e09bcaac92ccf7a8835d75", func := "millwright/millwrightkeep.EvalLet", spec := "evalLet", inPlace := ["internal/bytealg.IndexByteString", "internal/abi.NoEscape", "internal/bytealg.MakeNoZero", "internal/bytealg.IndexString"], unfollowed := true, recurses := true, named := ["millwright/ask.forms", "unicode/utf8.first", "unicode/utf8.acceptRanges", "math/bits.deBruijn64tab", "internal/bytealg.MaxLen"], loops := true, apart := false, laid := [("math/bits.deBruijn64tab", laid_math_bits_deBruijn64tab), ("unicode/utf8.acceptRanges", laid_unicode_utf8_acceptRanges), ("millwright/ask.forms", laid_millwright_ask_forms), ("unicode/utf8.first", laid_unicode_utf8_first)], narrowed := true }
def EvalLetUptoSaid : Prop := evalLetUptoRow.holds Tryz.pinned (OpenSpec.upto evalLetSpec)

/-- 'millwrightkeep.EvalKinds', WHERE WHAT IT READS IS OF BULK AT MOST 1048576: true; the input reads as it did. -/
def evalKindsUptoRow : OpenClaim := { program := "yteefncohknclcaagreatdoor", sum := "123d68f597b618439dab32c1ee479f4da3a7d883f7e09bcaac92ccf7a8835d75", func := "millwright/millwrightkeep.EvalKinds", spec := "evalKinds", inPlace := ["internal/bytealg.IndexByteString", "internal/abi.NoEscape", "internal/bytealg.MakeNoZero", "internal/bytealg.IndexString"], unfollowed := true, recurses := true, named := ["millwright/ask.forms", "unicode/utf8.first", "unicode/utf8.acceptRanges", "math/bits.deBruijn64tab", "internal/bytealg.MaxLen"], loops := true, apart := false, laid := [("math/bits.deBruijn64tab", laid_math_bits_deBruijn64tab), ("unicode/utf8.acceptRanges", laid_unicode_utf8_acceptRanges), ("millwright/ask.forms", laid_millwright_ask_forms), ("unicode/utf8.first", laid_unicode_utf8_first)], narrowed := true }
def EvalKindsUptoSaid : Prop := evalKindsUptoRow.holds Tryz.pinned (OpenSpec.upto evalKindsSpec)

/-- 'millwrightkeep.EvalTurn', WHERE WHAT IT READS IS OF BULK AT MOST 1048576: true; the input reads as it did. -/
def evalTurnUptoRow : OpenClaim := { program := "yteefncohknclcaagreatdoor", sum := "123d68f597b618439dab32c1ee479f4da3a7d883f7e09bcaac92ccf7a8835d75", func := "millwright/millwrightkeep.EvalTurn", spec := "evalTurn", inPlace := ["internal/bytealg.IndexByteString", "internal/abi.NoEscape", "internal/bytealg.MakeNoZero", "internal/bytealg.IndexString"], unfollowed := true, recurses := true, named := ["millwright/ask.forms", "unicode/utf8.first", "unicode/utf8.acceptRanges", "math/bits.deBruijn64tab", "internal/bytealg.MaxLen"], loops := true, apart := false, laid := [("math/bits.deBruijn64tab", laid_math_bits_deBruijn64tab), ("unicode/utf8.acceptRanges", laid_unicode_utf8_acceptRanges), ("millwright/ask.forms", laid_millwright_ask_forms), ("unicode/utf8.first", laid_unicode_utf8_first)], narrowed := true }
def EvalTurnUptoSaid : Prop := evalTurnUptoRow.holds Tryz.pinned (OpenSpec.upto evalTurnSpec)

end Rows
end Go.Proofs.YteefncohknclcaaGreatDoor
