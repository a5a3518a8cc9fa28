/- The walk through the law ReachDepth. Conditions: the table reads as listed. -/
import Derived.Test.YtklikjjipoghlaaDoorReachLeastW
import Derived.Test.YtklikjjipoghlaaDoorGoodW
namespace Go.Proofs.YtklikjjipoghlaaDoor
open Go.RowKit
theorem chks_ball {r : List B} {s : B} (h : chks r [s] = 0) (i : Nat) : chks r [ball r i s] = 0 := by
  obtain ⟨hv, hs⟩ := chks_zero.1 h
  refine chks_zero.2 ⟨hv, fun t ht k hk => ?_⟩
  have : t = ball r i s := by simpa using ht
  subst this
  exact ball_in hv (hs s (by simp)) i k hk
end Go.Proofs.YtklikjjipoghlaaDoor
