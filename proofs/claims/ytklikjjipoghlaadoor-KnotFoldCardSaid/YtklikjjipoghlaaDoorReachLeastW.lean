/- The walk through the law ReachLeast. Conditions: the table reads as listed. -/
import Derived.Test.YtklikjjipoghlaaDoorFromW
namespace Go.Proofs.YtklikjjipoghlaaDoor
open Go.RowKit
theorem andNot_zero {s t : B} (h : ∀ k, has s k = true → has t k = true) : s &&& ~~~t = 0#64 := eq_zero_iff.2 fun k => by
  rw [has_and]
  by_cases hk : has s k = true
  · rw [has_not _ _ (has_lt hk), h k hk]; simp
  · simp [hk]
theorem andNot_zero_iff {s t : B} : s &&& ~~~t = 0#64 ↔ ∀ k, has s k = true → has t k = true := by
  refine ⟨fun h k hk => ?_, andNot_zero⟩
  have := eq_zero_iff.1 h k
  rw [has_and, hk, has_not _ _ (has_lt hk)] at this
  simpa using this
end Go.Proofs.YtklikjjipoghlaaDoor
