/- The law SpanOrder, walked. Conditions: none. -/
import Derived.Test.YtlhomgbibhacoaaDoorSpanSumW
import Derived.BigQuiet
import Derived.Deep.QuietTactic
namespace Go.Proofs.YtlhomgbibhacoaaDoor
open Go.RowKit
theorem f64_of {b : Nat} (h : (Lit.float .f64 b).wf = true) : ∃ x : B, b = un x := by
  have hb : b < 18446744073709551616 := by simpa [Lit.wf] using h
  exact ⟨BitVec.ofNat 64 b, by unfold un; rw [BitVec.toNat_ofNat]; omega⟩
end Go.Proofs.YtlhomgbibhacoaaDoor
