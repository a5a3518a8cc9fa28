/-
  No cell of these rows narrows 'for every input' (looked for: loops, veiled, ifaces, maps, wideKeys, modest, calm, conditions, laid).
  DERIVED. THE GIVEN ROWS OF THIS SEAT. 8 by the template 'for every input the law returns true; each argument reads behind the call as it read before'; 0 by the template 'total and deterministic' (their statements: YtnffcboelkkbmaaTotals.lean).
  GIVEN WITH THE SEED: the statements are not yours to turn. If you find one false, say at which input.
  Laid BY PROGRAM, IN A SANDBOX (cutbox-rows.mjs): the forced cells as the released guide's own fill.sh prints them over the translation c815d9ff8dfab92b… (all of the seat's roots in one cut). By AI agents, Wed Nov 11 2026. No macro, syntax, notation, axiom, sorry.
-/
import Derived.Test.YtnffcboelkkbmaaChecked
import GoSem.Claim
import GoSem.ClaimJoined
import GoSem.ClaimMapViews
import Derived.JoinedTies
import Derived.KernelRfl
namespace Go.Proofs.Ytnffcboelkkbmaa
/- THE CELL 'sum', in the pinned program and in every row, IS THE sha256 OF THE DUMP (.gsa) THAT YtnffcboelkkbmaaProg.lean LOADS. Nothing in Lean hashes anything: it is a label: what it is worth is what the hold of that sum in a sandbox is worth. -/
noncomputable def Try.pinned : Pinned := { name := "ytnffcboelkkbmaa", sum := "c815d9ff8dfab92b5c85d191af4fd108811880793b4200e13976f66e90b94cbd", checked := Try.checked }
namespace Rows
def none {H : Type} : Left H := { results := [], args := [] }

/-- 'millwrightkeep.NameSort': WHATEVER THE INPUT: true; the input reads as it did. -/
def nameSortSpec : ChangeSpec := { name := "nameSort", fn := fun _ => fun
  | [d] => { results := [.lit (.bool true)], args := [d] }
  | _ => none }
def nameSortRow : OpenClaim := { program := "ytnffcboelkkbmaa", sum := "c815d9ff8dfab92b5c85d191af4fd108811880793b4200e13976f66e90b94cbd", func := "millwright/millwrightkeep.NameSort", spec := "nameSort", inPlace := ["internal/bytealg.IndexByteString"], unfollowed := true, recurses := true, apart := false }
def NameSortSaid : Prop := nameSortRow.holds Try.pinned (OpenSpec.ofChange nameSortSpec)

/-- ITS FALSE NEIGHBOUR: 'it returns false'. Refute it at one input. -/
def nameSortWrong : ChangeSpec := { name := "nameSort", fn := fun _ => fun
  | [d] => { results := [.lit (.bool false)], args := [d] }
  | _ => none }
def NameSortWrongFalsely : Prop := nameSortRow.holds Try.pinned (OpenSpec.ofChange nameSortWrong)

/-- 'millwrightkeep.NameFind': WHATEVER THE INPUT: true; the input reads as it did. -/
def nameFindSpec : ChangeSpec := { name := "nameFind", fn := fun _ => fun
  | [d1, d2] => { results := [.lit (.bool true)], args := [d1, d2] }
  | _ => none }
def nameFindRow : OpenClaim := { program := "ytnffcboelkkbmaa", sum := "c815d9ff8dfab92b5c85d191af4fd108811880793b4200e13976f66e90b94cbd", func := "millwright/millwrightkeep.NameFind", spec := "nameFind", inPlace := ["internal/bytealg.IndexByteString"], unfollowed := true, recurses := true, apart := false }
def NameFindSaid : Prop := nameFindRow.holds Try.pinned (OpenSpec.ofChange nameFindSpec)

/-- ITS FALSE NEIGHBOUR: 'it returns false'. Refute it at one input. -/
def nameFindWrong : ChangeSpec := { name := "nameFind", fn := fun _ => fun
  | [d1, d2] => { results := [.lit (.bool false)], args := [d1, d2] }
  | _ => none }
def NameFindWrongFalsely : Prop := nameFindRow.holds Try.pinned (OpenSpec.ofChange nameFindWrong)

/-- 'millwrightkeep.NameMerge': WHATEVER THE INPUT: true; the input reads as it did. -/
def nameMergeSpec : ChangeSpec := { name := "nameMerge", fn := fun _ => fun
  | [d1, d2] => { results := [.lit (.bool true)], args := [d1, d2] }
  | _ => none }
def nameMergeRow : OpenClaim := { program := "ytnffcboelkkbmaa", sum := "c815d9ff8dfab92b5c85d191af4fd108811880793b4200e13976f66e90b94cbd", func := "millwright/millwrightkeep.NameMerge", spec := "nameMerge", inPlace := ["internal/bytealg.IndexByteString"], unfollowed := true, recurses := true, apart := false }
def NameMergeSaid : Prop := nameMergeRow.holds Try.pinned (OpenSpec.ofChange nameMergeSpec)

/-- ITS FALSE NEIGHBOUR: 'it returns false'. Refute it at one input. -/
def nameMergeWrong : ChangeSpec := { name := "nameMerge", fn := fun _ => fun
  | [d1, d2] => { results := [.lit (.bool false)], args := [d1, d2] }
  | _ => none }
def NameMergeWrongFalsely : Prop := nameMergeRow.holds Try.pinned (OpenSpec.ofChange nameMergeWrong)

/-- 'millwrightkeep.NameStem': WHATEVER THE INPUT: true; the input reads as it did. -/
def nameStemSpec : ChangeSpec := { name := "nameStem", fn := fun _ => fun
  | [d] => { results := [.lit (.bool true)], args := [d] }
  | _ => none }
def nameStemRow : OpenClaim := { program := "ytnffcboelkkbmaa", sum := "c815d9ff8dfab92b5c85d191af4fd108811880793b4200e13976f66e90b94cbd", func := "millwright/millwrightkeep.NameStem", spec := "nameStem", inPlace := ["internal/bytealg.IndexByteString", "internal/bytealg.IndexString"], unfollowed := true, recurses := true, named := ["internal/bytealg.MaxLen"], apart := false }
def NameStemSaid : Prop := nameStemRow.holds Try.pinned (OpenSpec.ofChange nameStemSpec)

/-- ITS FALSE NEIGHBOUR: 'it returns false'. Refute it at one input. -/
def nameStemWrong : ChangeSpec := { name := "nameStem", fn := fun _ => fun
  | [d] => { results := [.lit (.bool false)], args := [d] }
  | _ => none }
def NameStemWrongFalsely : Prop := nameStemRow.holds Try.pinned (OpenSpec.ofChange nameStemWrong)

/-- 'millwrightkeep.GlobJoin': WHATEVER THE INPUT: true; the input reads as it did. -/
def globJoinSpec : ChangeSpec := { name := "globJoin", fn := fun _ => fun
  | [d1, d2, d3, d4, d5] => { results := [.lit (.bool true)], args := [d1, d2, d3, d4, d5] }
  | _ => none }
def globJoinRow : OpenClaim := { program := "ytnffcboelkkbmaa", sum := "c815d9ff8dfab92b5c85d191af4fd108811880793b4200e13976f66e90b94cbd", func := "millwright/millwrightkeep.GlobJoin", spec := "globJoin", inPlace := ["internal/bytealg.IndexByteString"], unfollowed := true, recurses := true, apart := false }
def GlobJoinSaid : Prop := globJoinRow.holds Try.pinned (OpenSpec.ofChange globJoinSpec)

/-- ITS FALSE NEIGHBOUR: 'it returns false'. Refute it at one input. -/
def globJoinWrong : ChangeSpec := { name := "globJoin", fn := fun _ => fun
  | [d1, d2, d3, d4, d5] => { results := [.lit (.bool false)], args := [d1, d2, d3, d4, d5] }
  | _ => none }
def GlobJoinWrongFalsely : Prop := globJoinRow.holds Try.pinned (OpenSpec.ofChange globJoinWrong)

/-- 'millwrightkeep.GlobStars': WHATEVER THE INPUT: true; the input reads as it did. -/
def globStarsSpec : ChangeSpec := { name := "globStars", fn := fun _ => fun
  | [d1, d2, d3] => { results := [.lit (.bool true)], args := [d1, d2, d3] }
  | _ => none }
def globStarsRow : OpenClaim := { program := "ytnffcboelkkbmaa", sum := "c815d9ff8dfab92b5c85d191af4fd108811880793b4200e13976f66e90b94cbd", func := "millwright/millwrightkeep.GlobStars", spec := "globStars", inPlace := ["internal/bytealg.IndexByteString"], unfollowed := true, recurses := true, apart := false }
def GlobStarsSaid : Prop := globStarsRow.holds Try.pinned (OpenSpec.ofChange globStarsSpec)

/-- ITS FALSE NEIGHBOUR: 'it returns false'. Refute it at one input. -/
def globStarsWrong : ChangeSpec := { name := "globStars", fn := fun _ => fun
  | [d1, d2, d3] => { results := [.lit (.bool false)], args := [d1, d2, d3] }
  | _ => none }
def GlobStarsWrongFalsely : Prop := globStarsRow.holds Try.pinned (OpenSpec.ofChange globStarsWrong)

/-- 'millwrightkeep.GlobPick': WHATEVER THE INPUT: true; the input reads as it did. -/
def globPickSpec : ChangeSpec := { name := "globPick", fn := fun _ => fun
  | [d1, d2] => { results := [.lit (.bool true)], args := [d1, d2] }
  | _ => none }
def globPickRow : OpenClaim := { program := "ytnffcboelkkbmaa", sum := "c815d9ff8dfab92b5c85d191af4fd108811880793b4200e13976f66e90b94cbd", func := "millwright/millwrightkeep.GlobPick", spec := "globPick", inPlace := ["internal/bytealg.IndexByteString"], unfollowed := true, recurses := true, apart := false }
def GlobPickSaid : Prop := globPickRow.holds Try.pinned (OpenSpec.ofChange globPickSpec)

/-- ITS FALSE NEIGHBOUR: 'it returns false'. Refute it at one input. -/
def globPickWrong : ChangeSpec := { name := "globPick", fn := fun _ => fun
  | [d1, d2] => { results := [.lit (.bool false)], args := [d1, d2] }
  | _ => none }
def GlobPickWrongFalsely : Prop := globPickRow.holds Try.pinned (OpenSpec.ofChange globPickWrong)

/-- 'millwrightkeep.GlobQuote': WHATEVER THE INPUT: true; the input reads as it did. -/
def globQuoteSpec : ChangeSpec := { name := "globQuote", fn := fun _ => fun
  | [d1, d2] => { results := [.lit (.bool true)], args := [d1, d2] }
  | _ => none }
def globQuoteRow : OpenClaim := { program := "ytnffcboelkkbmaa", sum := "c815d9ff8dfab92b5c85d191af4fd108811880793b4200e13976f66e90b94cbd", func := "millwright/millwrightkeep.GlobQuote", spec := "globQuote", inPlace := ["internal/bytealg.IndexByteString", "internal/abi.NoEscape"], unfollowed := true, recurses := true, apart := false }
def GlobQuoteSaid : Prop := globQuoteRow.holds Try.pinned (OpenSpec.ofChange globQuoteSpec)

/-- ITS FALSE NEIGHBOUR: 'it returns false'. Refute it at one input. -/
def globQuoteWrong : ChangeSpec := { name := "globQuote", fn := fun _ => fun
  | [d1, d2] => { results := [.lit (.bool false)], args := [d1, d2] }
  | _ => none }
def GlobQuoteWrongFalsely : Prop := globQuoteRow.holds Try.pinned (OpenSpec.ofChange globQuoteWrong)

/- THE SECOND FORM. 'bulk': how many values and letters a reading holds, each counted each time it is reached (what is shared counts as often as it is met; a slice's spare places count too). A statement '..UptoSaid' is the law's where the arguments, and the package variables that the reading takes, are together of bulk at most 1048576: NARROWER than '..Said'. Prove '..Said' where nothing that the law and all that it calls make is longer than what came in: it says more and counts as full. Else prove '..UptoSaid'. A law counts once. -/
mutual
def uptoBulk {H : Type} : DataW H → Nat
  | .lit (.string bytes) => bytes.length + 1
  | .lit _ => 1
  | .nil => 1
  | .ptr d => uptoBulk d + 1
  | .slice elems spare => uptoBulkAll elems + uptoBulkAll spare + 1
  | .agg parts => uptoBulkAll parts + 1
  | .iface _ d => uptoBulk d + 1
  | .map entries => uptoBulkEntries entries + 1
  | .held _ => 1
def uptoBulkAll {H : Type} : List (DataW H) → Nat
  | [] => 0
  | d :: r => uptoBulk d + uptoBulkAll r
def uptoBulkEntries {H : Type} : List (Lit × DataW H) → Nat
  | [] => 0
  | x :: r => uptoBulkEntry x + uptoBulkEntries r
def uptoBulkEntry {H : Type} : Lit × DataW H → Nat
  | (.string bytes, d) => bytes.length + uptoBulk d + 1
  | (_, d) => uptoBulk d + 1
 end
def uptoSmall : (H : Type) → List (DataW H) → Bool := fun _ ds => decide (uptoBulkAll ds ≤ 1048576)
def OpenSpec.upto (s : _root_.Go.ChangeSpec) : _root_.Go.OpenSpec := { _root_.Go.OpenSpec.ofChange s with cond := some uptoSmall }

/-- 'millwrightkeep.NameSort', WHERE WHAT IT READS IS OF BULK AT MOST 1048576: true; the input reads as it did. -/
def nameSortUptoRow : OpenClaim := { program := "ytnffcboelkkbmaa", sum := "c815d9ff8dfab92b5c85d191af4fd108811880793b4200e13976f66e90b94cbd", func := "millwright/millwrightkeep.NameSort", spec := "nameSort", inPlace := ["internal/bytealg.IndexByteString"], unfollowed := true, recurses := true, apart := false, narrowed := true }
def NameSortUptoSaid : Prop := nameSortUptoRow.holds Try.pinned (OpenSpec.upto nameSortSpec)

/-- 'millwrightkeep.NameFind', WHERE WHAT IT READS IS OF BULK AT MOST 1048576: true; the input reads as it did. -/
def nameFindUptoRow : OpenClaim := { program := "ytnffcboelkkbmaa", sum := "c815d9ff8dfab92b5c85d191af4fd108811880793b4200e13976f66e90b94cbd", func := "millwright/millwrightkeep.NameFind", spec := "nameFind", inPlace := ["internal/bytealg.IndexByteString"], unfollowed := true, recurses := true, apart := false, narrowed := true }
def NameFindUptoSaid : Prop := nameFindUptoRow.holds Try.pinned (OpenSpec.upto nameFindSpec)

/-- 'millwrightkeep.NameMerge', WHERE WHAT IT READS IS OF BULK AT MOST 1048576: true; the input reads as it did. -/
def nameMergeUptoRow : OpenClaim := { program := "ytnffcboelkkbmaa", sum := "c815d9ff8dfab92b5c85d191af4fd108811880793b4200e13976f66e90b94cbd", func := "millwright/millwrightkeep.NameMerge", spec := "nameMerge", inPlace := ["internal/bytealg.IndexByteString"], unfollowed := true, recurses := true, apart := false, narrowed := true }
def NameMergeUptoSaid : Prop := nameMergeUptoRow.holds Try.pinned (OpenSpec.upto nameMergeSpec)

/-- 'millwrightkeep.NameStem', WHERE WHAT IT READS IS OF BULK AT MOST 1048576: true; the input reads as it did. -/
def nameStemUptoRow : OpenClaim := { program := "ytnffcboelkkbmaa", sum := "c815d9ff8dfab92b5c85d191af4fd108811880793b4200e13976f66e90b94cbd", func := "millwright/millwrightkeep.NameStem", spec := "nameStem", inPlace := ["internal/bytealg.IndexByteString", "internal/bytealg.IndexString"], unfollowed := true, recurses := true, named := ["internal/bytealg.MaxLen"], apart := false, narrowed := true }
def NameStemUptoSaid : Prop := nameStemUptoRow.holds Try.pinned (OpenSpec.upto nameStemSpec)

/-- 'millwrightkeep.GlobJoin', WHERE WHAT IT READS IS OF BULK AT MOST 1048576: true; the input reads as it did. -/
def globJoinUptoRow : OpenClaim := { program := "ytnffcboelkkbmaa", sum := "c815d9ff8dfab92b5c85d191af4fd108811880793b4200e13976f66e90b94cbd", func := "millwright/millwrightkeep.GlobJoin", spec := "globJoin", inPlace := ["internal/bytealg.IndexByteString"], unfollowed := true, recurses := true, apart := false, narrowed := true }
def GlobJoinUptoSaid : Prop := globJoinUptoRow.holds Try.pinned (OpenSpec.upto globJoinSpec)

/-- 'millwrightkeep.GlobStars', WHERE WHAT IT READS IS OF BULK AT MOST 1048576: true; the input reads as it did. -/
def globStarsUptoRow : OpenClaim := { program := "ytnffcboelkkbmaa", sum := "c815d9ff8dfab92b5c85d191af4fd108811880793b4200e13976f66e90b94cbd", func := "millwright/millwrightkeep.GlobStars", spec := "globStars", inPlace := ["internal/bytealg.IndexByteString"], unfollowed := true, recurses := true, apart := false, narrowed := true }
def GlobStarsUptoSaid : Prop := globStarsUptoRow.holds Try.pinned (OpenSpec.upto globStarsSpec)

/-- 'millwrightkeep.GlobPick', WHERE WHAT IT READS IS OF BULK AT MOST 1048576: true; the input reads as it did. -/
def globPickUptoRow : OpenClaim := { program := "ytnffcboelkkbmaa", sum := "c815d9ff8dfab92b5c85d191af4fd108811880793b4200e13976f66e90b94cbd", func := "millwright/millwrightkeep.GlobPick", spec := "globPick", inPlace := ["internal/bytealg.IndexByteString"], unfollowed := true, recurses := true, apart := false, narrowed := true }
def GlobPickUptoSaid : Prop := globPickUptoRow.holds Try.pinned (OpenSpec.upto globPickSpec)

/-- 'millwrightkeep.GlobQuote', WHERE WHAT IT READS IS OF BULK AT MOST 1048576: true; the input reads as it did. -/
def globQuoteUptoRow : OpenClaim := { program := "ytnffcboelkkbmaa", sum := "c815d9ff8dfab92b5c85d191af4fd108811880793b4200e13976f66e90b94cbd", func := "millwright/millwrightkeep.GlobQuote", spec := "globQuote", inPlace := ["internal/bytealg.IndexByteString", "internal/abi.NoEscape"], unfollowed := true, recurses := true, apart := false, narrowed := true }
def GlobQuoteUptoSaid : Prop := globQuoteUptoRow.holds Try.pinned (OpenSpec.upto globQuoteSpec)

end Rows
end Go.Proofs.Ytnffcboelkkbmaa
