/- The walk through the law ReachClosed. Conditions: the table reads as listed. -/
import Derived.Test.YtklikjjipoghlaaDoorReachDepthW
import Derived.Test.YtklikjjipoghlaaDoorListW
namespace Go.Proofs.YtklikjjipoghlaaDoor
open Go.RowKit
theorem chks_cls {r : List B} {s : B} (h : chks r [s] = 0) : chks r [cls r s] = 0 := chks_ball h 64
theorem chks_or {r : List B} {s t : B} (h : chks r [s] = 0) (h2 : chks r [t] = 0) : chks r [s ||| t] = 0 := by
  obtain ⟨hv, hs⟩ := chks_zero.1 h
  obtain ⟨_, ht⟩ := chks_zero.1 h2
  refine chks_zero.2 ⟨hv, fun u hu k hk => ?_⟩
  have : u = s ||| t := by simpa using hu
  subst this
  rw [has_or, Bool.or_eq_true] at hk
  rcases hk with hk | hk
  · exact hs s (by simp) k hk
  · exact ht t (by simp) k hk
theorem Reads.int_at {w : World} {b n : Nat} {p : Option Addr} {xs : List Nat} (h : Reads w b 1 p n (ints xs)) {k : Nat} (hk : k < n) : ∃ ad, p = some ad ∧ ad.block < b ∧ w.cell? (ad.add k) = some (.int .i64 (xs.getD k 0 : Int)) := by
  obtain ⟨ad, u, rfl, hb, hu, hc⟩ := h.at_ hk
  refine ⟨ad, rfl, hb, ?_⟩
  have hl : k < xs.length := by have := h.1; simp [ints] at this; omega
  rw [hc, ← hu]
  simp [ints, hl]
end Go.Proofs.YtklikjjipoghlaaDoor
