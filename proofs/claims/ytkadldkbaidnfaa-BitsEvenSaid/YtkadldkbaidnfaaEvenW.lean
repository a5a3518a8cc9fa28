/- The walk through bits.Even. Conditions: none. -/
import Derived.Test.YtkadldkbaidnfaaBitsW
namespace Go.Proofs.Ytkadldkbaidnfaa
open Go.RowKit
def ev : Nat → B → B
  | 0, s => s
  | j + 1, s => fE (2 ^ j) (ev j s)
theorem ev_six (s : B) : ev 6 s = even s := rfl
theorem shl_lit (x : B) (k : Nat) (m : Int) (h : (2 : Int) ^ k = m) : IntKind.u64.wrap ((un x : Int) * m) = (un (x <<< k) : Int) := by
  subst h; exact shl_un x k
set_option maxHeartbeats 1000000 in
theorem Even_ok (s : B) (w : World) : Calls Try.prog 7 #[.int .u64 (un s)] w fun e w' => e = .returned (.int .u64 (un (even s))) ∧ w = w' := by
  have h1 := fun x => shl_lit x 1 2 rfl
  have h2 := fun x => shl_lit x 2 4 rfl
  have h4 := fun x => shl_lit x 4 16 rfl
  have h8 := fun x => shl_lit x 8 256 rfl
  have h16 := fun x => shl_lit x 16 65536 rfl
  have h32 := fun x => shl_lit x 32 4294967296 rfl
  go_enter Try.func7, Try.ntmps7
  go_wp2
  go_loop [0, 3] (fun t k => ∃ j : Nat, j ≤ 6 ∧ k = .int .i64 ((2 ^ j : Nat) : Int) ∧ t = .int .u64 (un (ev j s))) (fun _ k => 64 - (intOf k).toNat)
  case atStart => exact ⟨0, by omega, rfl, rfl⟩
  case round =>
    obtain ⟨j, hj, rfl, rfl⟩ := hrel
    rcases (show j = 0 ∨ j = 1 ∨ j = 2 ∨ j = 3 ∨ j = 4 ∨ j = 5 ∨ j = 6 by omega) with rfl | rfl | rfl | rfl | rfl | rfl | rfl
    case inr.inr.inr.inr.inr.inr =>
      go_wp2
      go_ret
      exact ⟨rfl, rfl⟩
    all_goals
      go_wp2
      go_round
      case rel => first | exact ⟨1, by omega, rfl, rfl⟩ | exact ⟨2, by omega, rfl, rfl⟩ | exact ⟨3, by omega, rfl, rfl⟩ | exact ⟨4, by omega, rfl, rfl⟩ | exact ⟨5, by omega, rfl, rfl⟩ | exact ⟨6, by omega, rfl, rfl⟩
      case measure => simp [intOf]
end Go.Proofs.Ytkadldkbaidnfaa
