/-
  No cell of these rows narrows 'for every input' (looked for: loops, veiled, ifaces, maps, wideKeys, modest, calm, conditions, laid).
  DERIVED. THE GIVEN ROWS OF THIS SEAT. 5 by the template 'for every input the law returns true; each argument reads behind the call as it read before'; 0 by the template 'total and deterministic' (their statements: YtlhomgbibhacoaaTotals.lean).
  GIVEN WITH THE SEED: the statements are not yours to turn. If you find one false, say at which input.
  Laid BY PROGRAM, IN A SANDBOX (cutbox-rows.mjs): the forced cells as the released guide's own fill.sh prints them over the translation e37e9499f1078ba4… (all of the seat's roots in one cut). By AI agents, Wed Nov 11 2026. No macro, syntax, notation, axiom, sorry.
-/
import Derived.Test.YtlhomgbibhacoaaChecked
import GoSem.Claim
import GoSem.ClaimJoined
import GoSem.ClaimMapViews
import Derived.JoinedTies
import Derived.KernelRfl
namespace Go.Proofs.Ytlhomgbibhacoaa
/- THE CELL 'sum', in the pinned program and in every row, IS THE sha256 OF THE DUMP (.gsa) THAT YtlhomgbibhacoaaProg.lean LOADS. Nothing in Lean hashes anything: it is a label: what it is worth is what the hold of that sum in a sandbox is worth. -/
noncomputable def Try.pinned : Pinned := { name := "ytlhomgbibhacoaa", sum := "e37e9499f1078ba4d6f034c95c6f1cf46ea87de86ded3c4168d88cace1910066", checked := Try.checked }
namespace Rows
def none {H : Type} : Left H := { results := [], args := [] }

/-- 'millwrightkeep.SpanOrder': WHATEVER THE INPUT: true; the input reads as it did. -/
def spanOrderSpec : ChangeSpec := { name := "spanOrder", fn := fun _ => fun
  | [d1, d2, d3] => { results := [.lit (.bool true)], args := [d1, d2, d3] }
  | _ => none }
def spanOrderRow : OpenClaim := { program := "ytlhomgbibhacoaa", sum := "e37e9499f1078ba4d6f034c95c6f1cf46ea87de86ded3c4168d88cace1910066", func := "millwright/millwrightkeep.SpanOrder", spec := "spanOrder", inPlace := ["math.Float64frombits", "math.Float64bits"], apart := false }
def SpanOrderSaid : Prop := spanOrderRow.holds Try.pinned (OpenSpec.ofChange spanOrderSpec)

/-- ITS FALSE NEIGHBOUR: 'it returns false'. Refute it at one input. -/
def spanOrderWrong : ChangeSpec := { name := "spanOrder", fn := fun _ => fun
  | [d1, d2, d3] => { results := [.lit (.bool false)], args := [d1, d2, d3] }
  | _ => none }
def SpanOrderWrongFalsely : Prop := spanOrderRow.holds Try.pinned (OpenSpec.ofChange spanOrderWrong)

/-- 'millwrightkeep.SpanWhole': WHATEVER THE INPUT: true; the input reads as it did. -/
def spanWholeSpec : ChangeSpec := { name := "spanWhole", fn := fun _ => fun
  | [d] => { results := [.lit (.bool true)], args := [d] }
  | _ => none }
def spanWholeRow : OpenClaim := { program := "ytlhomgbibhacoaa", sum := "e37e9499f1078ba4d6f034c95c6f1cf46ea87de86ded3c4168d88cace1910066", func := "millwright/millwrightkeep.SpanWhole", spec := "spanWhole", inPlace := ["math.Float64frombits", "math.Float64bits"], apart := false }
def SpanWholeSaid : Prop := spanWholeRow.holds Try.pinned (OpenSpec.ofChange spanWholeSpec)

/-- ITS FALSE NEIGHBOUR: 'it returns false'. Refute it at one input. -/
def spanWholeWrong : ChangeSpec := { name := "spanWhole", fn := fun _ => fun
  | [d] => { results := [.lit (.bool false)], args := [d] }
  | _ => none }
def SpanWholeWrongFalsely : Prop := spanWholeRow.holds Try.pinned (OpenSpec.ofChange spanWholeWrong)

/-- 'millwrightkeep.SpanEnds': WHATEVER THE INPUT: true; the input reads as it did. -/
def spanEndsSpec : ChangeSpec := { name := "spanEnds", fn := fun _ => fun
  | [d] => { results := [.lit (.bool true)], args := [d] }
  | _ => none }
def spanEndsRow : OpenClaim := { program := "ytlhomgbibhacoaa", sum := "e37e9499f1078ba4d6f034c95c6f1cf46ea87de86ded3c4168d88cace1910066", func := "millwright/millwrightkeep.SpanEnds", spec := "spanEnds", inPlace := ["math.Float64frombits", "math.Float64bits"], apart := false }
def SpanEndsSaid : Prop := spanEndsRow.holds Try.pinned (OpenSpec.ofChange spanEndsSpec)

/-- ITS FALSE NEIGHBOUR: 'it returns false'. Refute it at one input. -/
def spanEndsWrong : ChangeSpec := { name := "spanEnds", fn := fun _ => fun
  | [d] => { results := [.lit (.bool false)], args := [d] }
  | _ => none }
def SpanEndsWrongFalsely : Prop := spanEndsRow.holds Try.pinned (OpenSpec.ofChange spanEndsWrong)

/-- 'millwrightkeep.SpanSum': WHATEVER THE INPUT: true; the input reads as it did. -/
def spanSumSpec : ChangeSpec := { name := "spanSum", fn := fun _ => fun
  | [d1, d2] => { results := [.lit (.bool true)], args := [d1, d2] }
  | _ => none }
def spanSumRow : OpenClaim := { program := "ytlhomgbibhacoaa", sum := "e37e9499f1078ba4d6f034c95c6f1cf46ea87de86ded3c4168d88cace1910066", func := "millwright/millwrightkeep.SpanSum", spec := "spanSum", inPlace := ["math.Float64frombits", "math.Float64bits"], unfollowed := true, recurses := true, apart := false }
def SpanSumSaid : Prop := spanSumRow.holds Try.pinned (OpenSpec.ofChange spanSumSpec)

/-- ITS FALSE NEIGHBOUR: 'it returns false'. Refute it at one input. -/
def spanSumWrong : ChangeSpec := { name := "spanSum", fn := fun _ => fun
  | [d1, d2] => { results := [.lit (.bool false)], args := [d1, d2] }
  | _ => none }
def SpanSumWrongFalsely : Prop := spanSumRow.holds Try.pinned (OpenSpec.ofChange spanSumWrong)

/-- 'millwrightkeep.SpanSort': WHATEVER THE INPUT: true; the input reads as it did. -/
def spanSortSpec : ChangeSpec := { name := "spanSort", fn := fun _ => fun
  | [d] => { results := [.lit (.bool true)], args := [d] }
  | _ => none }
def spanSortRow : OpenClaim := { program := "ytlhomgbibhacoaa", sum := "e37e9499f1078ba4d6f034c95c6f1cf46ea87de86ded3c4168d88cace1910066", func := "millwright/millwrightkeep.SpanSort", spec := "spanSort", inPlace := ["math.Float64frombits", "math.Float64bits"], unfollowed := true, recurses := true, apart := false }
def SpanSortSaid : Prop := spanSortRow.holds Try.pinned (OpenSpec.ofChange spanSortSpec)

/-- ITS FALSE NEIGHBOUR: 'it returns false'. Refute it at one input. -/
def spanSortWrong : ChangeSpec := { name := "spanSort", fn := fun _ => fun
  | [d] => { results := [.lit (.bool false)], args := [d] }
  | _ => none }
def SpanSortWrongFalsely : Prop := spanSortRow.holds Try.pinned (OpenSpec.ofChange spanSortWrong)

/- THE SECOND FORM. 'bulk': how many values and letters a reading holds, each counted each time it is reached (what is shared counts as often as it is met; a slice's spare places count too). A statement '..UptoSaid' is the law's where the arguments, and the package variables that the reading takes, are together of bulk at most 1048576: NARROWER than '..Said'. Prove '..Said' where nothing that the law and all that it calls make is longer than what came in: it says more and counts as full. Else prove '..UptoSaid'. A law counts once. -/
mutual
def uptoBulk {H : Type} : DataW H → Nat
  | .lit (.string bytes) => bytes.length + 1
  | .lit _ => 1
  | .nil => 1
  | .ptr d => uptoBulk d + 1
  | .slice elems spare => uptoBulkAll elems + uptoBulkAll spare + 1
  | .agg parts => uptoBulkAll parts + 1
  | .iface _ d => uptoBulk d + 1
  | .map entries => uptoBulkEntries entries + 1
  | .held _ => 1
def uptoBulkAll {H : Type} : List (DataW H) → Nat
  | [] => 0
  | d :: r => uptoBulk d + uptoBulkAll r
def uptoBulkEntries {H : Type} : List (Lit × DataW H) → Nat
  | [] => 0
  | x :: r => uptoBulkEntry x + uptoBulkEntries r
def uptoBulkEntry {H : Type} : Lit × DataW H → Nat
  | (.string bytes, d) => bytes.length + uptoBulk d + 1
  | (_, d) => uptoBulk d + 1
 end
def uptoSmall : (H : Type) → List (DataW H) → Bool := fun _ ds => decide (uptoBulkAll ds ≤ 1048576)
def OpenSpec.upto (s : _root_.Go.ChangeSpec) : _root_.Go.OpenSpec := { _root_.Go.OpenSpec.ofChange s with cond := some uptoSmall }

/-- 'millwrightkeep.SpanOrder', WHERE WHAT IT READS IS OF BULK AT MOST 1048576: true; the input reads as it did. -/
def spanOrderUptoRow : OpenClaim := { program := "ytlhomgbibhacoaa", sum := "e37e9499f1078ba4d6f034c95c6f1cf46ea87de86ded3c4168d88cace1910066", func := "millwright/millwrightkeep.SpanOrder", spec := "spanOrder", inPlace := ["math.Float64frombits", "math.Float64bits"], apart := false, narrowed := true }
def SpanOrderUptoSaid : Prop := spanOrderUptoRow.holds Try.pinned (OpenSpec.upto spanOrderSpec)

/-- 'millwrightkeep.SpanWhole', WHERE WHAT IT READS IS OF BULK AT MOST 1048576: true; the input reads as it did. -/
def spanWholeUptoRow : OpenClaim := { program := "ytlhomgbibhacoaa", sum := "e37e9499f1078ba4d6f034c95c6f1cf46ea87de86ded3c4168d88cace1910066", func := "millwright/millwrightkeep.SpanWhole", spec := "spanWhole", inPlace := ["math.Float64frombits", "math.Float64bits"], apart := false, narrowed := true }
def SpanWholeUptoSaid : Prop := spanWholeUptoRow.holds Try.pinned (OpenSpec.upto spanWholeSpec)

/-- 'millwrightkeep.SpanEnds', WHERE WHAT IT READS IS OF BULK AT MOST 1048576: true; the input reads as it did. -/
def spanEndsUptoRow : OpenClaim := { program := "ytlhomgbibhacoaa", sum := "e37e9499f1078ba4d6f034c95c6f1cf46ea87de86ded3c4168d88cace1910066", func := "millwright/millwrightkeep.SpanEnds", spec := "spanEnds", inPlace := ["math.Float64frombits", "math.Float64bits"], apart := false, narrowed := true }
def SpanEndsUptoSaid : Prop := spanEndsUptoRow.holds Try.pinned (OpenSpec.upto spanEndsSpec)

/-- 'millwrightkeep.SpanSum', WHERE WHAT IT READS IS OF BULK AT MOST 1048576: true; the input reads as it did. -/
def spanSumUptoRow : OpenClaim := { program := "ytlhomgbibhacoaa", sum := "e37e9499f1078ba4d6f034c95c6f1cf46ea87de86ded3c4168d88cace1910066", func := "millwright/millwrightkeep.SpanSum", spec := "spanSum", inPlace := ["math.Float64frombits", "math.Float64bits"], unfollowed := true, recurses := true, apart := false, narrowed := true }
def SpanSumUptoSaid : Prop := spanSumUptoRow.holds Try.pinned (OpenSpec.upto spanSumSpec)

/-- 'millwrightkeep.SpanSort', WHERE WHAT IT READS IS OF BULK AT MOST 1048576: true; the input reads as it did. -/
def spanSortUptoRow : OpenClaim := { program := "ytlhomgbibhacoaa", sum := "e37e9499f1078ba4d6f034c95c6f1cf46ea87de86ded3c4168d88cace1910066", func := "millwright/millwrightkeep.SpanSort", spec := "spanSort", inPlace := ["math.Float64frombits", "math.Float64bits"], unfollowed := true, recurses := true, apart := false, narrowed := true }
def SpanSortUptoSaid : Prop := spanSortUptoRow.holds Try.pinned (OpenSpec.upto spanSortSpec)

end Rows
end Go.Proofs.Ytlhomgbibhacoaa
