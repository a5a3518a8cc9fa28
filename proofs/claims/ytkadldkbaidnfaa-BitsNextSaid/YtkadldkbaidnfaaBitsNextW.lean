/- The walk through the law BitsNext. Conditions: none. -/
import Derived.Test.YtkadldkbaidnfaaSubW
namespace Go.Proofs.Ytkadldkbaidnfaa
open Go.RowKit
theorem sub_out {x s : B} (h : un x &&& un s = un x) : un (x &&& ~~~s) = 0 := by
  have hb : ∀ i, (un (x &&& ~~~s)).testBit i = false := by
    intro i
    have := congrArg (fun n => n.testBit i) h
    rw [show un (x &&& ~~~s) = un (outB s x) from rfl, out_bit]
    simp [Nat.testBit_and] at this
    cases h1 : (un x).testBit i <;> cases h2 : (un s).testBit i <;> simp [h1, h2] at this ⊢
  exact bit_ext (fun i => by rw [hb i, Nat.zero_testBit])
set_option maxRecDepth 100000 in
set_option maxHeartbeats 1000000 in
theorem bitsNext_walk (s t x : B) (w : World) :
    Calls Try.prog 4 #[.int .u64 (un s), .int .u64 (un t), .int .u64 (un x)] w fun e w' => e = .returned (.bool true) ∧ Grown w w' := by
  have hc1 := @cut_le_s s t
  have hc2 := @cut_le s t
  have hxs : un (x &&& s) &&& un s = un (x &&& s) := by rw [un_and, Nat.and_assoc, Nat.and_self]
  rcases Nat.lt_or_ge (un (cutB s t)) (un s) with hlt | hge
  · obtain ⟨f1, f2, f3, f4, _⟩ := nxt_facts hlt
    have e0 : (un (nxtB s t &&& ~~~s) : Int) = 0 := by rw [sub_out f1]; rfl
    have e1 : ltB (cutB s t) (nxtB s t) = true := by unfold ltB; simpa using f2
    have hx := f4 (x &&& s) hxs
    clear f1 f2 f4 hxs hc1 hc2 hlt
    rcases hx with hx | hx
    all_goals
      go_enter Try.func4, Try.ntmps4
      go_wp2_with fail
      refine (sets_true w).mono ?_
      rintro e w' ⟨rfl, hg⟩
      go_wp2_with (go_at_call 9; refine (Sub_ok _ _ _).mono ?_; rintro e w' ⟨rfl, rfl⟩)
      all_goals
        go_ret
        exact ⟨by simp, hg⟩
  · have he : un (cutB s t) = un s := by omega
    have hn := nxt_end he
    have e1 : ltB (cutB s t) (nxtB s t) = false := by unfold ltB; rw [hn]; simp
    have e0 : (un (nxtB s t) : Int) = 0 := by omega
    have hx : un (x &&& s) ≤ un t := by have := sub_le _ _ hxs; omega
    clear hn he hxs hc1 hc2 hge
    go_enter Try.func4, Try.ntmps4
    go_wp2_with fail
    refine (sets_true w).mono ?_
    rintro e w' ⟨rfl, hg⟩
    go_wp2_with (go_at_call 9; refine (Sub_ok _ _ _).mono ?_; rintro e w' ⟨rfl, rfl⟩)
    go_ret
    exact ⟨by simp, hg⟩
end Go.Proofs.Ytkadldkbaidnfaa
