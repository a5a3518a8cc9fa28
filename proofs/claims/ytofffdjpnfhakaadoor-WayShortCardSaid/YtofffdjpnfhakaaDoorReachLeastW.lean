/- The walk through the law ReachLeast. Conditions: the table reads as listed. -/
import Derived.Test.YtofffdjpnfhakaaDoorFromW
namespace Go.Proofs.YtofffdjpnfhakaaDoor
open Go.RowKit
theorem andNot_zero {s t : B} (h : ∀ k, has s k = true → has t k = true) : s &&& ~~~t = 0#64 := eq_zero_iff.2 fun k => by
  rw [has_and]
  by_cases hk : has s k = true
  · rw [has_not _ _ (has_lt hk), h k hk]; simp
  · simp [hk]
theorem andNot_zero_iff {s t : B} : s &&& ~~~t = 0#64 ↔ ∀ k, has s k = true → has t k = true := by
  refine ⟨fun h k hk => ?_, andNot_zero⟩
  have := eq_zero_iff.1 h k
  rw [has_and, hk, has_not _ _ (has_lt hk)] at this
  simpa using this
set_option maxRecDepth 100000 in
set_option maxHeartbeats 2000000 in
theorem reachLeast_walk (p : Option Addr) (n c : Nat) (r : List B) (s x : B) (w : World) (hR : RowsAt w p n r) (hT : Tab w) :
    Calls Tryd.prog 5 #[.slice p n c, .int .u64 (un s), .int .u64 (un x)] w fun e w' => e = .returned (.bool true) ∧ Below w.heap.size w w' := by
  have hl := hR.len
  subst hl
  have hbig := hR.big
  unfold maxLen at hbig
  by_cases h : chks r [s] = 0
  · have H := Lib.hid h
    clear h
    go_enter Tryd.func5, Tryd.ntmps5
    go_wp2_with fail
    refine (reaches_below w hT).mono ?_
    rintro e w1 ⟨rfl, hb1⟩
    go_wp2_with fail
    refine (From_yes p _ c r s H.out w1 (hR.below hb1) (hT.below hb1)).mono ?_
    rintro e w2 ⟨rfl, hb2⟩
    have hb := below_next hb1 hb2
    have hR2 := hR.below hb
    clear hb1 hb2 hR
    obtain ⟨y, hy⟩ : ∃ y, y = x ||| s := ⟨_, rfl⟩
    have HY := Lib.hid hy
    go_wp2_with fail
    rw [← hy]
    clear hy
    go_loop [28] (fun i => ∃ k : Nat, k ≤ r.length ∧ i = .int .i64 k ∧ Hid (∀ j, j < k → has y j = true → row r j &&& ~~~y = 0#64)) (fun i => r.length - (intOf i).toNat)
    case atStart => exact ⟨0, Nat.zero_le _, rfl, show ∀ j, _ from fun j hj => absurd hj (by omega)⟩
    case round =>
      obtain ⟨k, hk, rfl, HK⟩ := hrel
      by_cases hlt : k < r.length
      · obtain ⟨ad, rfl, hbl, hc⟩ := hR2.cell hlt
        have hH : Hid (hasI y (k : Int) = has y k) := by show hasI y k = _; unfold hasI; simp
        by_cases h1 : has y k = true
        · by_cases h2 : row r k &&& ~~~y = 0#64
          · have e0 : (un (row r k &&& ~~~y) : Int) = 0 := un_zero_int h2
            have HN : Hid (∀ j, j < k + 1 → has y j = true → row r j &&& ~~~y = 0#64) := by
              show ∀ j, _
              intro j hj hyj
              rcases Nat.lt_or_ge j k with h3 | h3
              · exact HK.out j h3 hyj
              · have : j = k := by omega
                subst this; exact h2
            rw [h1] at hH
            clear HK h1 h2 hbl hR2
            generalize row r k = z at *
            go_wp2_with (go_at_call 25; refine (has_ok y k _).mono ?_; rw [hH.out]; rintro e w' ⟨rfl, rfl⟩)
            go_round
            case rel => exact ⟨k + 1, by omega, by go_num, HN.out⟩
            case measure => simp [intOf]; omega
          · have e0 := un_ne0 h2
            have e1 := un_ne1 h2
            rw [h1] at hH
            clear HK h1 h2 hbl hR2
            generalize row r k = z at *
            go_wp2_with (go_at_call 25; refine (has_ok y k _).mono ?_; rw [hH.out]; rintro e w' ⟨rfl, rfl⟩)
            go_ret
            exact ⟨rfl, hb⟩
        · have h1' : has y k = false := by simpa using h1
          have HN : Hid (∀ j, j < k + 1 → has y j = true → row r j &&& ~~~y = 0#64) := by
            show ∀ j, _
            intro j hj hyj
            rcases Nat.lt_or_ge j k with h3 | h3
            · exact HK.out j h3 hyj
            · have : j = k := by omega
              subst this; exact absurd hyj h1
          rw [h1'] at hH
          clear HK h1 h1' hbl hR2
          generalize row r k = z at *
          go_wp2_with (go_at_call 25; refine (has_ok y k _).mono ?_; rw [hH.out]; rintro e w' ⟨rfl, rfl⟩)
          go_round
          case rel => exact ⟨k + 1, by omega, by go_num, HN.out⟩
          case measure => simp [intOf]; omega
      · have hz : cls r s &&& ~~~y = 0#64 := by
          apply andNot_zero
          intro j hj
          refine cls_least (x := y) ?_ ?_ hj
          · intro a b ha hab
            have hal := row_lt hab
            exact andNot_zero_iff.1 (HK.out a (by omega) ha) b hab
          · intro k hk; rw [HY.out, has_or, hk]; simp
        have e0 : (un (cls r s &&& ~~~y) : Int) = 0 := un_zero_int hz
        clear hz HK hR2
        generalize cls r s = z at *
        go_wp2
        go_ret
        exact ⟨rfl, hb⟩
  · obtain ⟨h1, h2⟩ := int_ne h
    go_enter Tryd.func5, Tryd.ntmps5
    go_wp2_with fail
    refine (reaches_below w hT).mono ?_
    rintro e w1 ⟨rfl, hb1⟩
    go_wp2_with fail
    refine (From_no p _ c r s h w1 (hR.below hb1)).mono ?_
    rintro e w2 ⟨rfl, hb2⟩
    have hb := below_next hb1 hb2
    clear hb1 hb2 hR h
    go_wp2
    go_ret
    exact ⟨rfl, hb⟩
end Go.Proofs.YtofffdjpnfhakaaDoor
