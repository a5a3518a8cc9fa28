/- The walk through the law BitsEven. Conditions: none. -/
import Derived.Test.YtkadldkbaidnfaaEvenW
namespace Go.Proofs.Ytkadldkbaidnfaa
open Go.RowKit
theorem even_xor_test (s t : B) : ((un (even s ^^^ even t) : Int) == (un (even (s ^^^ t)) : Int)) = true := by rw [even_xor]; simp
theorem even_turn_test (s : B) (n : Nat) (h : n < 64) : ((un (even (s ^^^ 1#64 <<< n)) : Int) == (un (even s ^^^ ~~~ belowB n) : Int)) = true := by rw [even_turn s n h]; simp
theorem even_back_test (s : B) : ((un (even s ^^^ even s <<< 1) : Int) == (un s : Int)) = true := by rw [even_back]; simp
set_option maxRecDepth 100000 in
set_option maxHeartbeats 1000000 in
theorem bitsEven_walk (s t : B) (n : Int) (w : World) (hn : -9223372036854775808 ≤ n ∧ n ≤ 9223372036854775807) :
    Calls Try.prog 3 #[.int .u64 (un s), .int .u64 (un t), .int .i64 n] w fun e w' => e = .returned (.bool true) ∧ Grown w w' := by
  have e1 := even_xor_test s t
  by_cases hc : n < 0 ∨ 64 ≤ n
  · rcases hc with hc | hc
    all_goals
      go_enter Try.func3, Try.ntmps3
      go_wp2_with fail
      refine (sets_true w).mono ?_
      rintro e w' ⟨rfl, hg⟩
      go_wp2_with (go_at_call 7; refine (Even_ok _ _).mono ?_; rintro e w' ⟨rfl, rfl⟩)
      go_ret
      exact ⟨rfl, hg⟩
  · obtain ⟨k, rfl⟩ := Int.eq_ofNat_of_zero_le (show 0 ≤ n by omega)
    have hk : k < 64 := by omega
    have e2 := even_turn_test s k hk
    have e3 := even_back_test s
    go_enter Try.func3, Try.ntmps3
    go_wp2_with fail
    refine (sets_true w).mono ?_
    rintro e w' ⟨rfl, hg⟩
    go_wp2_with (first | (go_at_call 7; refine (Even_ok _ _).mono ?_; rintro e w' ⟨rfl, rfl⟩) | (go_at_call 8; refine (Below_ok _ (by omega) _).mono ?_; rintro e w' ⟨rfl, rfl⟩))
    go_ret
    exact ⟨rfl, hg⟩
end Go.Proofs.Ytkadldkbaidnfaa
