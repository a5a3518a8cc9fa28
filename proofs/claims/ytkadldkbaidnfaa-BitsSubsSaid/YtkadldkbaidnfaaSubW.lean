/- The walk through bits.Sub. Conditions: none. -/
import Derived.Test.YtkadldkbaidnfaaBitsW
import Derived.Test.YtkadldkbaidnfaaSub
import Derived.Test.YtkadldkbaidnfaaShelf
namespace Go.Proofs.Ytkadldkbaidnfaa
open Go.RowKit
theorem len_of (x : B) (w : World) : Calls Try.prog 13 #[.int .u64 (un x)] w fun e w' => e = .returned (.int .i64 (Lib.bitLen (un x) : Int)) ∧ w = w' :=
  (Try.bits_Len64 (un x : Int) w (un_bd x).1 (un_bd x).2).mono fun _ _ ⟨h1, h2⟩ => ⟨by simpa using h1, h2.symm⟩
theorem un_ne_int {x : B} (h : un x ≠ 0) : ((un x : Int) == 0) = false := by simpa using h
def ltB (x y : B) : Bool := decide (un x < un y)
set_option maxRecDepth 100000 in
set_option maxHeartbeats 1000000 in
theorem Sub_ok (s t : B) (w : World) : Calls Try.prog 9 #[.int .u64 (un s), .int .u64 (un t)] w
    fun e w' => e = .returned (.tuple #[.int .u64 (un (nxtB s t)), .bool (ltB (cutB s t) (nxtB s t))]) ∧ w = w' := by
  have hh := @h_le s t
  by_cases h : un (outB s t) = 0
  · have e0 : (un (t &&& ~~~s) : Int) = 0 := by have : un (t &&& ~~~s) = 0 := h; omega
    have HC : Hid (cutB s t = t) := by show cutB s t = t; unfold cutB; rw [if_pos h]
    clear h hh
    go_enter Try.func9, Try.ntmps9
    go_wp2_with fail
    go_ret2
    exact ⟨by unfold ltB nxtB; rw [HC.out]; simp, rfl⟩
  · have e0 : ((un (t &&& ~~~s) : Int) == 0) = false := un_ne_int h
    have HC : Hid (cutB s t = (t &&& ~~~belowB (hB s t)) ||| (s &&& belowB (hB s t))) := by show cutB s t = _; unfold cutB; rw [if_neg h]
    have HH : Hid (Lib.bitLen (un (t &&& ~~~s)) = hB s t) := rfl
    generalize hB s t = hb at *
    clear h
    go_enter Try.func9, Try.ntmps9
    go_wp2_with (first | (go_at_call 13; refine (len_of _ _).mono ?_; rw [HH.out]; rintro e w' ⟨rfl, rfl⟩) | (go_at_call 12; refine (below_ok _ (by omega) _).mono ?_; rintro e w' ⟨rfl, rfl⟩))
    go_ret2
    exact ⟨by unfold ltB nxtB; rw [HC.out]; simp, rfl⟩
end Go.Proofs.Ytkadldkbaidnfaa
