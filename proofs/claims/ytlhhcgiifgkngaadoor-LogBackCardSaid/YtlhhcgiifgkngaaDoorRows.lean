/-
  NARROWER THAN 'FOR EVERY INPUT', by the rows' own cells (each row's printed sentence says how): GraphPart: laid · GraphOwn: laid · CutWays: laid · CutTurn: laid · CutMenger: laid · SpanText: laid · LogLast: laid · LogWrong: laid · LogBack: laid · BuildLog: laid.
  DERIVED. THE GIVEN ROWS OF THIS SEAT. 10 by the template 'for every input the law returns true; each argument reads behind the call as it read before'; 0 by the template 'total and deterministic' (their statements: YtlhhcgiifgkngaaDoorTotals.lean).
  GIVEN WITH THE SEED: the statements are not yours to turn. If you find one false, say at which input.
  Laid BY PROGRAM, IN A SANDBOX (cutbox-rows.mjs): the forced cells as the released guide's own fill.sh prints them over the translation 5103d7fd4d2ec092… (all of the seat's roots in one cut). By AI agents, Wed Nov 11 2026. No macro, syntax, notation, axiom, sorry.
-/
import Derived.Test.YtlhhcgiifgkngaaDoorChecked
import GoSem.PinnedTables
import GoSem.Claim
import GoSem.ClaimJoined
import GoSem.ClaimMapViews
import Derived.JoinedTies
import Derived.KernelRfl
namespace Go.Proofs.YtlhhcgiifgkngaaDoor
/- THE CELL 'sum', in the pinned program and in every row, IS THE sha256 OF THE DUMP (.gsa) THAT YtlhhcgiifgkngaaDoorProg.lean LOADS. Nothing in Lean hashes anything: it is a label: what it is worth is what the hold of that sum in a sandbox is worth. -/
noncomputable def Tryd.pinned : Pinned := { name := "ytlhhcgiifgkngaadoor", sum := "5103d7fd4d2ec09221ff031c52661b0d05b67a7e7cfc84b845cf2292fef04b3a", checked := Tryd.checked }
namespace Rows
def none {H : Type} : Left H := { results := [], args := [] }

/- WHAT THE LISTED PACKAGE-LEVEL VARIABLES READ AS WHEN THE CALL BEGINS. Each datum BY PROGRAM (the guide's laid-datum.mjs) off the statement by which the dump's own 'gosem.cut.vars' lays the variable. In a bare row this is a premise. The card (YtlhhcgiifgkngaaDoorCards.lean) ties it to the program's text. -/
def laid_math_bits_deBruijn64tab {H : Type} : DataW H := .agg [.lit (.int .u8 0), .lit (.int .u8 1), .lit (.int .u8 56), .lit (.int .u8 2), .lit (.int .u8 57), .lit (.int .u8 49), .lit (.int .u8 28), .lit (.int .u8 3), .lit (.int .u8 61), .lit (.int .u8 58), .lit (.int .u8 42), .lit (.int .u8 50), .lit (.int .u8 38), .lit (.int .u8 29), .lit (.int .u8 17), .lit (.int .u8 4), .lit (.int .u8 62), .lit (.int .u8 47), .lit (.int .u8 59), .lit (.int .u8 36), .lit (.int .u8 45), .lit (.int .u8 43), .lit (.int .u8 51), .lit (.int .u8 22), .lit (.int .u8 53), .lit (.int .u8 39), .lit (.int .u8 33), .lit (.int .u8 30), .lit (.int .u8 24), .lit (.int .u8 18), .lit (.int .u8 12), .lit (.int .u8 5), .lit (.int .u8 63), .lit (.int .u8 55), .lit (.int .u8 48), .lit (.int .u8 27), .lit (.int .u8 60), .lit (.int .u8 41), .lit (.int .u8 37), .lit (.int .u8 16), .lit (.int .u8 46), .lit (.int .u8 35), .lit (.int .u8 44), .lit (.int .u8 21), .lit (.int .u8 52), .lit (.int .u8 32), .lit (.int .u8 23), .lit (.int .u8 11), .lit (.int .u8 54), .lit (.int .u8 26), .lit (.int .u8 40), .lit (.int .u8 15), .lit (.int .u8 34), .lit (.int .u8 20), .lit (.int .u8 31), .lit (.int .u8 10), .lit (.int .u8 25), .lit (.int .u8 14), .lit (.int .u8 19), .lit (.int .u8 9), .lit (.int .u8 13), .lit (.int .u8 8), .lit (.int .u8 7), .lit (.int .u8 6)]
def laid_math_bits_deBruijn32tab {H : Type} : DataW H := .agg [.lit (.int .u8 0), .lit (.int .u8 1), .lit (.int .u8 28), .lit (.int .u8 2), .lit (.int .u8 29), .lit (.int .u8 14), .lit (.int .u8 24), .lit (.int .u8 3), .lit (.int .u8 30), .lit (.int .u8 22), .lit (.int .u8 20), .lit (.int .u8 15), .lit (.int .u8 25), .lit (.int .u8 17), .lit (.int .u8 4), .lit (.int .u8 8), .lit (.int .u8 31), .lit (.int .u8 27), .lit (.int .u8 13), .lit (.int .u8 23), .lit (.int .u8 21), .lit (.int .u8 19), .lit (.int .u8 16), .lit (.int .u8 7), .lit (.int .u8 26), .lit (.int .u8 12), .lit (.int .u8 18), .lit (.int .u8 6), .lit (.int .u8 11), .lit (.int .u8 5), .lit (.int .u8 10), .lit (.int .u8 9)]
def laid_internal_strconv_uint64pow10 {H : Type} : DataW H := .agg [.lit (.int .u64 1), .lit (.int .u64 10), .lit (.int .u64 100), .lit (.int .u64 1000), .lit (.int .u64 10000), .lit (.int .u64 100000), .lit (.int .u64 1000000), .lit (.int .u64 10000000), .lit (.int .u64 100000000), .lit (.int .u64 1000000000), .lit (.int .u64 10000000000), .lit (.int .u64 100000000000), .lit (.int .u64 1000000000000), .lit (.int .u64 10000000000000), .lit (.int .u64 100000000000000), .lit (.int .u64 1000000000000000), .lit (.int .u64 10000000000000000), .lit (.int .u64 100000000000000000), .lit (.int .u64 1000000000000000000), .lit (.int .u64 10000000000000000000)]
def laid_strconv_ErrRange {H : Type} : DataW H := .iface "*errors.errorString" (.ptr (.agg [.lit (.string [118, 97, 108, 117, 101, 32, 111, 117, 116, 32, 111, 102, 32, 114, 97, 110, 103, 101])]))
def laid_strconv_ErrSyntax {H : Type} : DataW H := .iface "*errors.errorString" (.ptr (.agg [.lit (.string [105, 110, 118, 97, 108, 105, 100, 32, 115, 121, 110, 116, 97, 120])]))
def laid_unicode_utf8_acceptRanges {H : Type} : DataW H := .agg [.agg [.lit (.int .u8 128), .lit (.int .u8 191)], .agg [.lit (.int .u8 160), .lit (.int .u8 191)], .agg [.lit (.int .u8 128), .lit (.int .u8 159)], .agg [.lit (.int .u8 144), .lit (.int .u8 191)], .agg [.lit (.int .u8 128), .lit (.int .u8 143)], .agg [.lit (.int .u8 0), .lit (.int .u8 0)], .agg [.lit (.int .u8 0), .lit (.int .u8 0)], .agg [.lit (.int .u8 0), .lit (.int .u8 0)], .agg [.lit (.int .u8 0), .lit (.int .u8 0)], .agg [.lit (.int .u8 0), .lit (.int .u8 0)], .agg [.lit (.int .u8 0), .lit (.int .u8 0)], .agg [.lit (.int .u8 0), .lit (.int .u8 0)], .agg [.lit (.int .u8 0), .lit (.int .u8 0)], .agg [.lit (.int .u8 0), .lit (.int .u8 0)], .agg [.lit (.int .u8 0), .lit (.int .u8 0)], .agg [.lit (.int .u8 0), .lit (.int .u8 0)]]
/-- One of Go's own tables, pinned by name: the form's constant. -/
def laid_unicode_utf8_first : DataW Unit := Go.Pinned.utf8First

/-- 'millwrightkeep.GraphPart': WHATEVER THE INPUT: true; the input reads as it did. -/
def graphPartSpec : ChangeSpec := { name := "graphPart", fn := fun _ => fun
  | [d1, d2, d3] => { results := [.lit (.bool true)], args := [d1, d2, d3] }
  | _ => none }
def graphPartRow : OpenClaim := { program := "ytlhhcgiifgkngaadoor", sum := "5103d7fd4d2ec09221ff031c52661b0d05b67a7e7cfc84b845cf2292fef04b3a", func := "millwright/millwrightkeep.GraphPart", spec := "graphPart", inPlace := ["internal/bytealg.IndexByteString"], unfollowed := true, recurses := true, named := ["math/bits.deBruijn64tab"], plainKeys := false, apart := false, laid := [("math/bits.deBruijn64tab", laid_math_bits_deBruijn64tab)] }
def GraphPartSaid : Prop := graphPartRow.holds Tryd.pinned (OpenSpec.ofChange graphPartSpec)

/-- ITS FALSE NEIGHBOUR: 'it returns false'. Refute it at one input. -/
def graphPartWrong : ChangeSpec := { name := "graphPart", fn := fun _ => fun
  | [d1, d2, d3] => { results := [.lit (.bool false)], args := [d1, d2, d3] }
  | _ => none }
def GraphPartWrongFalsely : Prop := graphPartRow.holds Tryd.pinned (OpenSpec.ofChange graphPartWrong)

/-- 'millwrightkeep.GraphOwn': WHATEVER THE INPUT: true; the input reads as it did. -/
def graphOwnSpec : ChangeSpec := { name := "graphOwn", fn := fun _ => fun
  | [d1, d2] => { results := [.lit (.bool true)], args := [d1, d2] }
  | _ => none }
def graphOwnRow : OpenClaim := { program := "ytlhhcgiifgkngaadoor", sum := "5103d7fd4d2ec09221ff031c52661b0d05b67a7e7cfc84b845cf2292fef04b3a", func := "millwright/millwrightkeep.GraphOwn", spec := "graphOwn", inPlace := ["internal/bytealg.IndexByteString"], unfollowed := true, recurses := true, named := ["math/bits.deBruijn64tab"], plainKeys := false, apart := false, laid := [("math/bits.deBruijn64tab", laid_math_bits_deBruijn64tab)] }
def GraphOwnSaid : Prop := graphOwnRow.holds Tryd.pinned (OpenSpec.ofChange graphOwnSpec)

/-- ITS FALSE NEIGHBOUR: 'it returns false'. Refute it at one input. -/
def graphOwnWrong : ChangeSpec := { name := "graphOwn", fn := fun _ => fun
  | [d1, d2] => { results := [.lit (.bool false)], args := [d1, d2] }
  | _ => none }
def GraphOwnWrongFalsely : Prop := graphOwnRow.holds Tryd.pinned (OpenSpec.ofChange graphOwnWrong)

/-- 'millwrightkeep.CutWays': WHATEVER THE INPUT: true; the input reads as it did. -/
def cutWaysSpec : ChangeSpec := { name := "cutWays", fn := fun _ => fun
  | [d1, d2, d3] => { results := [.lit (.bool true)], args := [d1, d2, d3] }
  | _ => none }
def cutWaysRow : OpenClaim := { program := "ytlhhcgiifgkngaadoor", sum := "5103d7fd4d2ec09221ff031c52661b0d05b67a7e7cfc84b845cf2292fef04b3a", func := "millwright/millwrightkeep.CutWays", spec := "cutWays", unfollowed := true, recurses := true, named := ["math/bits.deBruijn64tab"], plainKeys := false, apart := false, laid := [("math/bits.deBruijn64tab", laid_math_bits_deBruijn64tab)] }
def CutWaysSaid : Prop := cutWaysRow.holds Tryd.pinned (OpenSpec.ofChange cutWaysSpec)

/-- ITS FALSE NEIGHBOUR: 'it returns false'. Refute it at one input. -/
def cutWaysWrong : ChangeSpec := { name := "cutWays", fn := fun _ => fun
  | [d1, d2, d3] => { results := [.lit (.bool false)], args := [d1, d2, d3] }
  | _ => none }
def CutWaysWrongFalsely : Prop := cutWaysRow.holds Tryd.pinned (OpenSpec.ofChange cutWaysWrong)

/-- 'millwrightkeep.CutTurn': WHATEVER THE INPUT: true; the input reads as it did. -/
def cutTurnSpec : ChangeSpec := { name := "cutTurn", fn := fun _ => fun
  | [d1, d2, d3] => { results := [.lit (.bool true)], args := [d1, d2, d3] }
  | _ => none }
def cutTurnRow : OpenClaim := { program := "ytlhhcgiifgkngaadoor", sum := "5103d7fd4d2ec09221ff031c52661b0d05b67a7e7cfc84b845cf2292fef04b3a", func := "millwright/millwrightkeep.CutTurn", spec := "cutTurn", unfollowed := true, recurses := true, named := ["math/bits.deBruijn64tab"], plainKeys := false, apart := false, laid := [("math/bits.deBruijn64tab", laid_math_bits_deBruijn64tab)] }
def CutTurnSaid : Prop := cutTurnRow.holds Tryd.pinned (OpenSpec.ofChange cutTurnSpec)

/-- ITS FALSE NEIGHBOUR: 'it returns false'. Refute it at one input. -/
def cutTurnWrong : ChangeSpec := { name := "cutTurn", fn := fun _ => fun
  | [d1, d2, d3] => { results := [.lit (.bool false)], args := [d1, d2, d3] }
  | _ => none }
def CutTurnWrongFalsely : Prop := cutTurnRow.holds Tryd.pinned (OpenSpec.ofChange cutTurnWrong)

/-- 'millwrightkeep.CutMenger': WHATEVER THE INPUT: true; the input reads as it did. -/
def cutMengerSpec : ChangeSpec := { name := "cutMenger", fn := fun _ => fun
  | [d1, d2, d3, d4] => { results := [.lit (.bool true)], args := [d1, d2, d3, d4] }
  | _ => none }
def cutMengerRow : OpenClaim := { program := "ytlhhcgiifgkngaadoor", sum := "5103d7fd4d2ec09221ff031c52661b0d05b67a7e7cfc84b845cf2292fef04b3a", func := "millwright/millwrightkeep.CutMenger", spec := "cutMenger", unfollowed := true, recurses := true, named := ["math/bits.deBruijn64tab"], plainKeys := false, apart := false, laid := [("math/bits.deBruijn64tab", laid_math_bits_deBruijn64tab)] }
def CutMengerSaid : Prop := cutMengerRow.holds Tryd.pinned (OpenSpec.ofChange cutMengerSpec)

/-- ITS FALSE NEIGHBOUR: 'it returns false'. Refute it at one input. -/
def cutMengerWrong : ChangeSpec := { name := "cutMenger", fn := fun _ => fun
  | [d1, d2, d3, d4] => { results := [.lit (.bool false)], args := [d1, d2, d3, d4] }
  | _ => none }
def CutMengerWrongFalsely : Prop := cutMengerRow.holds Tryd.pinned (OpenSpec.ofChange cutMengerWrong)

/-- 'millwrightkeep.SpanText': WHATEVER THE INPUT: true; the input reads as it did. -/
def spanTextSpec : ChangeSpec := { name := "spanText", fn := fun _ => fun
  | [d1, d2] => { results := [.lit (.bool true)], args := [d1, d2] }
  | _ => none }
def spanTextRow : OpenClaim := { program := "ytlhhcgiifgkngaadoor", sum := "5103d7fd4d2ec09221ff031c52661b0d05b67a7e7cfc84b845cf2292fef04b3a", func := "millwright/millwrightkeep.SpanText", spec := "spanText", inPlace := ["math.Float64frombits", "math.Float64bits", "internal/abi.NoEscape", "internal/bytealg.MakeNoZero"], named := ["internal/strconv.uint64pow10", "math/bits.deBruijn32tab", "math/bits.deBruijn64tab", "strconv.ErrSyntax", "strconv.ErrRange"], plainKeys := false, apart := false, laid := [("math/bits.deBruijn32tab", laid_math_bits_deBruijn32tab), ("math/bits.deBruijn64tab", laid_math_bits_deBruijn64tab), ("internal/strconv.uint64pow10", laid_internal_strconv_uint64pow10), ("strconv.ErrRange", laid_strconv_ErrRange), ("strconv.ErrSyntax", laid_strconv_ErrSyntax)] }
def SpanTextSaid : Prop := spanTextRow.holds Tryd.pinned (OpenSpec.ofChange spanTextSpec)

/-- ITS FALSE NEIGHBOUR: 'it returns false'. Refute it at one input. -/
def spanTextWrong : ChangeSpec := { name := "spanText", fn := fun _ => fun
  | [d1, d2] => { results := [.lit (.bool false)], args := [d1, d2] }
  | _ => none }
def SpanTextWrongFalsely : Prop := spanTextRow.holds Tryd.pinned (OpenSpec.ofChange spanTextWrong)

/-- 'millwrightkeep.LogLast': WHATEVER THE INPUT: true; the input reads as it did. -/
def logLastSpec : ChangeSpec := { name := "logLast", fn := fun _ => fun
  | [d] => { results := [.lit (.bool true)], args := [d] }
  | _ => none }
def logLastRow : OpenClaim := { program := "ytlhhcgiifgkngaadoor", sum := "5103d7fd4d2ec09221ff031c52661b0d05b67a7e7cfc84b845cf2292fef04b3a", func := "millwright/millwrightkeep.LogLast", spec := "logLast", inPlace := ["internal/bytealg.IndexByteString", "math.Float64bits", "internal/abi.NoEscape", "internal/bytealg.MakeNoZero"], unfollowed := true, recurses := true, named := ["internal/strconv.uint64pow10", "math/bits.deBruijn32tab", "math/bits.deBruijn64tab"], plainKeys := false, apart := false, laid := [("math/bits.deBruijn32tab", laid_math_bits_deBruijn32tab), ("math/bits.deBruijn64tab", laid_math_bits_deBruijn64tab), ("internal/strconv.uint64pow10", laid_internal_strconv_uint64pow10)] }
def LogLastSaid : Prop := logLastRow.holds Tryd.pinned (OpenSpec.ofChange logLastSpec)

/-- ITS FALSE NEIGHBOUR: 'it returns false'. Refute it at one input. -/
def logLastWrong : ChangeSpec := { name := "logLast", fn := fun _ => fun
  | [d] => { results := [.lit (.bool false)], args := [d] }
  | _ => none }
def LogLastWrongFalsely : Prop := logLastRow.holds Tryd.pinned (OpenSpec.ofChange logLastWrong)

/-- 'millwrightkeep.LogWrong': WHATEVER THE INPUT: true; the input reads as it did. -/
def logWrongSpec : ChangeSpec := { name := "logWrong", fn := fun _ => fun
  | [d] => { results := [.lit (.bool true)], args := [d] }
  | _ => none }
def logWrongRow : OpenClaim := { program := "ytlhhcgiifgkngaadoor", sum := "5103d7fd4d2ec09221ff031c52661b0d05b67a7e7cfc84b845cf2292fef04b3a", func := "millwright/millwrightkeep.LogWrong", spec := "logWrong", inPlace := ["internal/bytealg.IndexByteString", "math.Float64bits", "internal/abi.NoEscape", "internal/bytealg.MakeNoZero", "internal/bytealg.CountString", "internal/bytealg.IndexString", "math.Float64frombits"], unfollowed := true, recurses := true, named := ["internal/strconv.uint64pow10", "math/bits.deBruijn32tab", "math/bits.deBruijn64tab", "unicode/utf8.first", "unicode/utf8.acceptRanges", "internal/bytealg.MaxLen", "strconv.ErrSyntax", "strconv.ErrRange"], plainKeys := false, apart := false, laid := [("math/bits.deBruijn32tab", laid_math_bits_deBruijn32tab), ("math/bits.deBruijn64tab", laid_math_bits_deBruijn64tab), ("internal/strconv.uint64pow10", laid_internal_strconv_uint64pow10), ("unicode/utf8.acceptRanges", laid_unicode_utf8_acceptRanges), ("strconv.ErrRange", laid_strconv_ErrRange), ("strconv.ErrSyntax", laid_strconv_ErrSyntax), ("unicode/utf8.first", laid_unicode_utf8_first)] }
def LogWrongSaid : Prop := logWrongRow.holds Tryd.pinned (OpenSpec.ofChange logWrongSpec)

/-- ITS FALSE NEIGHBOUR: 'it returns false'. Refute it at one input. -/
def logWrongWrong : ChangeSpec := { name := "logWrong", fn := fun _ => fun
  | [d] => { results := [.lit (.bool false)], args := [d] }
  | _ => none }
def LogWrongWrongFalsely : Prop := logWrongRow.holds Tryd.pinned (OpenSpec.ofChange logWrongWrong)

/-- 'millwrightkeep.LogBack': WHATEVER THE INPUT: true; the input reads as it did. -/
def logBackSpec : ChangeSpec := { name := "logBack", fn := fun _ => fun
  | [d1, d2] => { results := [.lit (.bool true)], args := [d1, d2] }
  | _ => none }
def logBackRow : OpenClaim := { program := "ytlhhcgiifgkngaadoor", sum := "5103d7fd4d2ec09221ff031c52661b0d05b67a7e7cfc84b845cf2292fef04b3a", func := "millwright/millwrightkeep.LogBack", spec := "logBack", inPlace := ["internal/bytealg.IndexByteString", "math.Float64bits", "internal/abi.NoEscape", "internal/bytealg.MakeNoZero", "internal/bytealg.CountString", "internal/bytealg.IndexString", "math.Float64frombits"], unfollowed := true, recurses := true, named := ["internal/strconv.uint64pow10", "math/bits.deBruijn32tab", "math/bits.deBruijn64tab", "unicode/utf8.first", "unicode/utf8.acceptRanges", "internal/bytealg.MaxLen", "strconv.ErrSyntax", "strconv.ErrRange"], plainKeys := false, apart := false, laid := [("math/bits.deBruijn32tab", laid_math_bits_deBruijn32tab), ("math/bits.deBruijn64tab", laid_math_bits_deBruijn64tab), ("internal/strconv.uint64pow10", laid_internal_strconv_uint64pow10), ("unicode/utf8.acceptRanges", laid_unicode_utf8_acceptRanges), ("strconv.ErrRange", laid_strconv_ErrRange), ("strconv.ErrSyntax", laid_strconv_ErrSyntax), ("unicode/utf8.first", laid_unicode_utf8_first)] }
def LogBackSaid : Prop := logBackRow.holds Tryd.pinned (OpenSpec.ofChange logBackSpec)

/-- ITS FALSE NEIGHBOUR: 'it returns false'. Refute it at one input. -/
def logBackWrong : ChangeSpec := { name := "logBack", fn := fun _ => fun
  | [d1, d2] => { results := [.lit (.bool false)], args := [d1, d2] }
  | _ => none }
def LogBackWrongFalsely : Prop := logBackRow.holds Tryd.pinned (OpenSpec.ofChange logBackWrong)

/-- 'millwrightkeep.BuildLog': WHATEVER THE INPUT: true; the input reads as it did. -/
def buildLogSpec : ChangeSpec := { name := "buildLog", fn := fun _ => fun
  | [d1, d2, d3, d4, d5] => { results := [.lit (.bool true)], args := [d1, d2, d3, d4, d5] }
  | _ => none }
def buildLogRow : OpenClaim := { program := "ytlhhcgiifgkngaadoor", sum := "5103d7fd4d2ec09221ff031c52661b0d05b67a7e7cfc84b845cf2292fef04b3a", func := "millwright/millwrightkeep.BuildLog", spec := "buildLog", inPlace := ["internal/bytealg.IndexByteString", "math.Float64bits"], unfollowed := true, recurses := true, named := ["math/bits.deBruijn64tab"], plainKeys := false, apart := false, laid := [("math/bits.deBruijn64tab", laid_math_bits_deBruijn64tab)] }
def BuildLogSaid : Prop := buildLogRow.holds Tryd.pinned (OpenSpec.ofChange buildLogSpec)

/-- ITS FALSE NEIGHBOUR: 'it returns false'. Refute it at one input. -/
def buildLogWrong : ChangeSpec := { name := "buildLog", fn := fun _ => fun
  | [d1, d2, d3, d4, d5] => { results := [.lit (.bool false)], args := [d1, d2, d3, d4, d5] }
  | _ => none }
def BuildLogWrongFalsely : Prop := buildLogRow.holds Tryd.pinned (OpenSpec.ofChange buildLogWrong)

/- THE SECOND FORM. 'bulk': how many values and letters a reading holds, each counted each time it is reached (what is shared counts as often as it is met; a slice's spare places count too). A statement '..UptoSaid' is the law's where the arguments, and the package variables that the reading takes, are together of bulk at most 1048576: NARROWER than '..Said'. Prove '..Said' where nothing that the law and all that it calls make is longer than what came in: it says more and counts as full. Else prove '..UptoSaid'. A law counts once. -/
mutual
def uptoBulk {H : Type} : DataW H → Nat
  | .lit (.string bytes) => bytes.length + 1
  | .lit _ => 1
  | .nil => 1
  | .ptr d => uptoBulk d + 1
  | .slice elems spare => uptoBulkAll elems + uptoBulkAll spare + 1
  | .agg parts => uptoBulkAll parts + 1
  | .iface _ d => uptoBulk d + 1
  | .map entries => uptoBulkEntries entries + 1
  | .held _ => 1
def uptoBulkAll {H : Type} : List (DataW H) → Nat
  | [] => 0
  | d :: r => uptoBulk d + uptoBulkAll r
def uptoBulkEntries {H : Type} : List (Lit × DataW H) → Nat
  | [] => 0
  | x :: r => uptoBulkEntry x + uptoBulkEntries r
def uptoBulkEntry {H : Type} : Lit × DataW H → Nat
  | (.string bytes, d) => bytes.length + uptoBulk d + 1
  | (_, d) => uptoBulk d + 1
 end
def uptoSmall : (H : Type) → List (DataW H) → Bool := fun _ ds => decide (uptoBulkAll ds ≤ 1048576)
def OpenSpec.upto (s : _root_.Go.ChangeSpec) : _root_.Go.OpenSpec := { _root_.Go.OpenSpec.ofChange s with cond := some uptoSmall }

/-- 'millwrightkeep.GraphPart', WHERE WHAT IT READS IS OF BULK AT MOST 1048576: true; the input reads as it did. -/
def graphPartUptoRow : OpenClaim := { program := "ytlhhcgiifgkngaadoor", sum := "5103d7fd4d2ec09221ff031c52661b0d05b67a7e7cfc84b845cf2292fef04b3a", func := "millwright/millwrightkeep.GraphPart", spec := "graphPart", inPlace := ["internal/bytealg.IndexByteString"], unfollowed := true, recurses := true, named := ["math/bits.deBruijn64tab"], plainKeys := false, apart := false, laid := [("math/bits.deBruijn64tab", laid_math_bits_deBruijn64tab)], narrowed := true }
def GraphPartUptoSaid : Prop := graphPartUptoRow.holds Tryd.pinned (OpenSpec.upto graphPartSpec)

/-- 'millwrightkeep.GraphOwn', WHERE WHAT IT READS IS OF BULK AT MOST 1048576: true; the input reads as it did. -/
def graphOwnUptoRow : OpenClaim := { program := "ytlhhcgiifgkngaadoor", sum := "5103d7fd4d2ec09221ff031c52661b0d05b67a7e7cfc84b845cf2292fef04b3a", func := "millwright/millwrightkeep.GraphOwn", spec := "graphOwn", inPlace := ["internal/bytealg.IndexByteString"], unfollowed := true, recurses := true, named := ["math/bits.deBruijn64tab"], plainKeys := false, apart := false, laid := [("math/bits.deBruijn64tab", laid_math_bits_deBruijn64tab)], narrowed := true }
def GraphOwnUptoSaid : Prop := graphOwnUptoRow.holds Tryd.pinned (OpenSpec.upto graphOwnSpec)

/-- 'millwrightkeep.CutWays', WHERE WHAT IT READS IS OF BULK AT MOST 1048576: true; the input reads as it did. -/
def cutWaysUptoRow : OpenClaim := { program := "ytlhhcgiifgkngaadoor", sum := "5103d7fd4d2ec09221ff031c52661b0d05b67a7e7cfc84b845cf2292fef04b3a", func := "millwright/millwrightkeep.CutWays", spec := "cutWays", unfollowed := true, recurses := true, named := ["math/bits.deBruijn64tab"], plainKeys := false, apart := false, laid := [("math/bits.deBruijn64tab", laid_math_bits_deBruijn64tab)], narrowed := true }
def CutWaysUptoSaid : Prop := cutWaysUptoRow.holds Tryd.pinned (OpenSpec.upto cutWaysSpec)

/-- 'millwrightkeep.CutTurn', WHERE WHAT IT READS IS OF BULK AT MOST 1048576: true; the input reads as it did. -/
def cutTurnUptoRow : OpenClaim := { program := "ytlhhcgiifgkngaadoor", sum := "5103d7fd4d2ec09221ff031c52661b0d05b67a7e7cfc84b845cf2292fef04b3a", func := "millwright/millwrightkeep.CutTurn", spec := "cutTurn", unfollowed := true, recurses := true, named := ["math/bits.deBruijn64tab"], plainKeys := false, apart := false, laid := [("math/bits.deBruijn64tab", laid_math_bits_deBruijn64tab)], narrowed := true }
def CutTurnUptoSaid : Prop := cutTurnUptoRow.holds Tryd.pinned (OpenSpec.upto cutTurnSpec)

/-- 'millwrightkeep.CutMenger', WHERE WHAT IT READS IS OF BULK AT MOST 1048576: true; the input reads as it did. -/
def cutMengerUptoRow : OpenClaim := { program := "ytlhhcgiifgkngaadoor", sum := "5103d7fd4d2ec09221ff031c52661b0d05b67a7e7cfc84b845cf2292fef04b3a", func := "millwright/millwrightkeep.CutMenger", spec := "cutMenger", unfollowed := true, recurses := true, named := ["math/bits.deBruijn64tab"], plainKeys := false, apart := false, laid := [("math/bits.deBruijn64tab", laid_math_bits_deBruijn64tab)], narrowed := true }
def CutMengerUptoSaid : Prop := cutMengerUptoRow.holds Tryd.pinned (OpenSpec.upto cutMengerSpec)

/-- 'millwrightkeep.SpanText', WHERE WHAT IT READS IS OF BULK AT MOST 1048576: true; the input reads as it did. -/
def spanTextUptoRow : OpenClaim := { program := "ytlhhcgiifgkngaadoor", sum := "5103d7fd4d2ec09221ff031c52661b0d05b67a7e7cfc84b845cf2292fef04b3a", func := "millwright/millwrightkeep.SpanText", spec := "spanText", inPlace := ["math.Float64frombits", "math.Float64bits", "internal/abi.NoEscape", "internal/bytealg.MakeNoZero"], named := ["internal/strconv.uint64pow10", "math/bits.deBruijn32tab", "math/bits.deBruijn64tab", "strconv.ErrSyntax", "strconv.ErrRange"], plainKeys := false, apart := false, laid := [("math/bits.deBruijn32tab", laid_math_bits_deBruijn32tab), ("math/bits.deBruijn64tab", laid_math_bits_deBruijn64tab), ("internal/strconv.uint64pow10", laid_internal_strconv_uint64pow10), ("strconv.ErrRange", laid_strconv_ErrRange), ("strconv.ErrSyntax", laid_strconv_ErrSyntax)], narrowed := true }
def SpanTextUptoSaid : Prop := spanTextUptoRow.holds Tryd.pinned (OpenSpec.upto spanTextSpec)

/-- 'millwrightkeep.LogLast', WHERE WHAT IT READS IS OF BULK AT MOST 1048576: true; the input reads as it did. -/
def logLastUptoRow : OpenClaim := { program := "ytlhhcgiifgkngaadoor", sum := "5103d7fd4d2ec09221ff031c52661b0d05b67a7e7cfc84b845cf2292fef04b3a", func := "millwright/millwrightkeep.LogLast", spec := "logLast", inPlace := ["internal/bytealg.IndexByteString", "math.Float64bits", "internal/abi.NoEscape", "internal/bytealg.MakeNoZero"], unfollowed := true, recurses := true, named := ["internal/strconv.uint64pow10", "math/bits.deBruijn32tab", "math/bits.deBruijn64tab"], plainKeys := false, apart := false, laid := [("math/bits.deBruijn32tab", laid_math_bits_deBruijn32tab), ("math/bits.deBruijn64tab", laid_math_bits_deBruijn64tab), ("internal/strconv.uint64pow10", laid_internal_strconv_uint64pow10)], narrowed := true }
def LogLastUptoSaid : Prop := logLastUptoRow.holds Tryd.pinned (OpenSpec.upto logLastSpec)

/-- 'millwrightkeep.LogWrong', WHERE WHAT IT READS IS OF BULK AT MOST 1048576: true; the input reads as it did. -/
def logWrongUptoRow : OpenClaim := { program := "ytlhhcgiifgkngaadoor", sum := "5103d7fd4d2ec09221ff031c52661b0d05b67a7e7cfc84b845cf2292fef04b3a", func := "millwright/millwrightkeep.LogWrong", spec := "logWrong", inPlace := ["internal/bytealg.IndexByteString", "math.Float64bits", "internal/abi.NoEscape", "internal/bytealg.MakeNoZero", "internal/bytealg.CountString", "internal/bytealg.IndexString", "math.Float64frombits"], unfollowed := true, recurses := true, named := ["internal/strconv.uint64pow10", "math/bits.deBruijn32tab", "math/bits.deBruijn64tab", "unicode/utf8.first", "unicode/utf8.acceptRanges", "internal/bytealg.MaxLen", "strconv.ErrSyntax", "strconv.ErrRange"], plainKeys := false, apart := false, laid := [("math/bits.deBruijn32tab", laid_math_bits_deBruijn32tab), ("math/bits.deBruijn64tab", laid_math_bits_deBruijn64tab), ("internal/strconv.uint64pow10", laid_internal_strconv_uint64pow10), ("unicode/utf8.acceptRanges", laid_unicode_utf8_acceptRanges), ("strconv.ErrRange", laid_strconv_ErrRange), ("strconv.ErrSyntax", laid_strconv_ErrSyntax), ("unicode/utf8.first", laid_unicode_utf8_first)], narrowed := true }
def LogWrongUptoSaid : Prop := logWrongUptoRow.holds Tryd.pinned (OpenSpec.upto logWrongSpec)

/-- 'millwrightkeep.LogBack', WHERE WHAT IT READS IS OF BULK AT MOST 1048576: true; the input reads as it did. -/
def logBackUptoRow : OpenClaim := { program := "ytlhhcgiifgkngaadoor", sum := "5103d7fd4d2ec09221ff031c52661b0d05b67a7e7cfc84b845cf2292fef04b3a", func := "millwright/millwrightkeep.LogBack", spec := "logBack", inPlace := ["internal/bytealg.IndexByteString", "math.Float64bits", "internal/abi.NoEscape", "internal/bytealg.MakeNoZero", "internal/bytealg.CountString", "internal/bytealg.IndexString", "math.Float64frombits"], unfollowed := true, recurses := true, named := ["internal/strconv.uint64pow10", "math/bits.deBruijn32tab", "math/bits.deBruijn64tab", "unicode/utf8.first", "unicode/utf8.acceptRanges", "internal/bytealg.MaxLen", "strconv.ErrSyntax", "strconv.ErrRange"], plainKeys := false, apart := false, laid := [("math/bits.deBruijn32tab", laid_math_bits_deBruijn32tab), ("math/bits.deBruijn64tab", laid_math_bits_deBruijn64tab), ("internal/strconv.uint64pow10", laid_internal_strconv_uint64pow10), ("unicode/utf8.acceptRanges", laid_unicode_utf8_acceptRanges), ("strconv.ErrRange", laid_strconv_ErrRange), ("strconv.ErrSyntax", laid_strconv_ErrSyntax), ("unicode/utf8.first", laid_unicode_utf8_first)], narrowed := true }
def LogBackUptoSaid : Prop := logBackUptoRow.holds Tryd.pinned (OpenSpec.upto logBackSpec)

/-- 'millwrightkeep.BuildLog', WHERE WHAT IT READS IS OF BULK AT MOST 1048576: true; the input reads as it did. -/
def buildLogUptoRow : OpenClaim := { program := "ytlhhcgiifgkngaadoor", sum := "5103d7fd4d2ec09221ff031c52661b0d05b67a7e7cfc84b845cf2292fef04b3a", func := "millwright/millwrightkeep.BuildLog", spec := "buildLog", inPlace := ["internal/bytealg.IndexByteString", "math.Float64bits"], unfollowed := true, recurses := true, named := ["math/bits.deBruijn64tab"], plainKeys := false, apart := false, laid := [("math/bits.deBruijn64tab", laid_math_bits_deBruijn64tab)], narrowed := true }
def BuildLogUptoSaid : Prop := buildLogUptoRow.holds Tryd.pinned (OpenSpec.upto buildLogSpec)

end Rows
end Go.Proofs.YtlhhcgiifgkngaaDoor
