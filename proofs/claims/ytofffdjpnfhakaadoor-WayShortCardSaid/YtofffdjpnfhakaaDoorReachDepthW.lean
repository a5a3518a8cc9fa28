/- The walk through the law ReachDepth. Conditions: the table reads as listed. -/
import Derived.Test.YtofffdjpnfhakaaDoorReachLeastW
import Derived.Test.YtofffdjpnfhakaaDoorGoodW
namespace Go.Proofs.YtofffdjpnfhakaaDoor
open Go.RowKit
theorem chks_ball {r : List B} {s : B} (h : chks r [s] = 0) (i : Nat) : chks r [ball r i s] = 0 := by
  obtain ⟨hv, hs⟩ := chks_zero.1 h
  refine chks_zero.2 ⟨hv, fun t ht k hk => ?_⟩
  have : t = ball r i s := by simpa using ht
  subst this
  exact ball_in hv (hs s (by simp)) i k hk
set_option maxRecDepth 100000 in
set_option maxHeartbeats 4000000 in
theorem reachDepth_walk (p : Option Addr) (n c : Nat) (r : List B) (s : B) (i k : Int) (hi : -9223372036854775808 ≤ i ∧ i ≤ 9223372036854775807) (w : World) (hR : RowsAt w p n r) (hT : Tab w) :
    Calls Tryd.prog 6 #[.slice p n c, .int .u64 (un s), .int .i64 i, .int .i64 k] w fun e w' => e = .returned (.bool true) ∧ Below w.heap.size w w' := by
  have hl := hR.len
  subst hl
  have hbig := hR.big
  unfold maxLen at hbig
  by_cases h : chks r [s] = 0
  · have H := Lib.hid h
    clear h
    by_cases hi0 : i < 0
    · go_enter Tryd.func6, Tryd.ntmps6
      go_wp2_with fail
      refine (reaches_below w hT).mono ?_
      rintro e w1 ⟨rfl, hb1⟩
      go_wp2_with fail
      refine (Within_arg p _ c r s H.out i hi0 w1 (hR.below hb1)).mono ?_
      rintro e w2 ⟨rfl, hb2⟩
      have hb := below_next hb1 hb2
      clear hb1 hb2 hR
      go_wp2
      go_ret
      exact ⟨rfl, hb⟩
    · by_cases hk : k < 0 ∨ 1000 < i ∨ 1000 < k
      · have hcs : k < 0 ∨ (0 ≤ k ∧ 1000 < i) ∨ (0 ≤ k ∧ i ≤ 1000 ∧ 1000 < k) := by omega
        clear hk
        rcases hcs with hcs | ⟨hcs, hcs2⟩ | ⟨hcs, hcs2, hcs3⟩
        all_goals
          go_enter Tryd.func6, Tryd.ntmps6
          go_wp2_with fail
          refine (reaches_below w hT).mono ?_
          rintro e w1 ⟨rfl, hb1⟩
          go_wp2_with fail
          refine (Within_yes p _ c r s H.out i (by omega) w1 (hR.below hb1) (hT.below hb1)).mono ?_
          rintro e w2 ⟨rfl, hb2⟩
          have hb := below_next hb1 hb2
          clear hb1 hb2 hR
          go_wp2
          go_ret
          exact ⟨rfl, hb⟩
      · obtain ⟨i, rfl⟩ := Int.eq_ofNat_of_zero_le (show 0 ≤ i by omega)
        obtain ⟨k, rfl⟩ := Int.eq_ofNat_of_zero_le (show 0 ≤ k by omega)
        have hi1 : i ≤ 1000 := by omega
        have hk1 : k ≤ 1000 := by omega
        clear hk hi0
        obtain ⟨hv, hs⟩ := chks_zero.1 H.out
        have e1 := Lib.hid (ball_add r i k s)
        have e2 := Lib.hid (ball_rows hv (hs s (by simp)))
        have e3 : Hid (un (ball r i s &&& ~~~ball r (i + k) s) = 0) := by
          show un _ = 0
          rw [andNot_zero (fun j hj => ball_mono (by omega) hj)]; rfl
        have HA := Lib.hid (chks_ball H.out i)
        have hlen := hv.1
        clear hv hs
        have hok : allOk [0, 0, 0, 0] = true := rfl
        go_enter Tryd.func6, Tryd.ntmps6
        go_wp2_with fail
        refine (reaches_below w hT).mono ?_
        rintro e w1 ⟨rfl, hb1⟩
        have hR1 := hR.below hb1
        have hT1 := hT.below hb1
        go_wp2_with fail
        refine (Within_yes p _ c r s H.out i (by omega) w1 hR1 hT1).mono ?_
        rintro e w2 ⟨rfl, hb2⟩
        rw [Int.toNat_natCast]
        have hR2 := hR1.below hb2
        have hT2 := hT1.below hb2
        have hb12 := below_next hb1 hb2
        clear hb1 hb2 hR1 hT1 hR hT
        go_wp2_with fail
        refine (Within_yes p _ c r (ball r i s) HA.out k (by omega) w2 hR2 hT2).mono ?_
        rintro e w3 ⟨rfl, hb3⟩
        rw [Int.toNat_natCast, e1.out]
        have hR3 := hR2.below hb3
        have hT3 := hT2.below hb3
        have hb13 := below_next hb12 hb3
        clear hb12 hb3 hR2 hT2
        go_wp2_with fail
        refine (Within_yes p _ c r s H.out ((i : Int) + (k : Int)) (by omega) w3 hR3 hT3).mono ?_
        rintro e w4 ⟨rfl, hb4⟩
        rw [show ((i : Int) + (k : Int)).toNat = i + k by omega]
        have hR4 := hR3.below hb4
        have hT4 := hT3.below hb4
        have hb14 := below_next hb13 hb4
        clear hb13 hb4 hR3 hT3
        go_wp2_with fail
        refine (Within_yes p _ c r s H.out (r.length : Int) (by omega) w4 hR4 hT4).mono ?_
        rintro e w5 ⟨rfl, hb5⟩
        rw [Int.toNat_natCast, e2.out]
        have hR5 := hR4.below hb5
        have hT5 := hT4.below hb5
        have hb15 := below_next hb14 hb5
        clear hb14 hb5 hR4 hT4
        go_wp2_with fail
        refine (From_yes p _ c r s H.out w5 hR5 hT5).mono ?_
        rintro e w6 ⟨rfl, hb6⟩
        have hb16 := below_next hb15 hb6
        have e4 : (un (ball r i s &&& ~~~ball r (i + k) s) : Int) = 0 := by rw [e3.out]; rfl
        clear hb15 hb6 hR5 hT5
        generalize ball r (i + k) s = y at *
        generalize ball r i s = x at *
        generalize cls r s = z at *
        go_wp2_with (go_at_call 27; refine (good4 _ _ _ _ w6).mono ?_; rintro e w' ⟨rfl, rfl⟩)
        go_ret
        exact ⟨rfl, hb16.alloc hb16.size _⟩
  · obtain ⟨h1, h2⟩ := int_ne h
    go_enter Tryd.func6, Tryd.ntmps6
    go_wp2_with fail
    refine (reaches_below w hT).mono ?_
    rintro e w1 ⟨rfl, hb1⟩
    go_wp2_with fail
    refine (Within_no p _ c r s h i w1 (hR.below hb1)).mono ?_
    rintro e w2 ⟨rfl, hb2⟩
    have hb := below_next hb1 hb2
    clear hb1 hb2 hR h
    go_wp2
    go_ret
    exact ⟨rfl, hb⟩
end Go.Proofs.YtofffdjpnfhakaaDoor
