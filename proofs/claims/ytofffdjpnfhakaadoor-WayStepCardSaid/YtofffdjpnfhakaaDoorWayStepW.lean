/- The walks through slices.Equal at ints and the law WayStep. Conditions: the table reads as listed. -/
import Derived.Test.YtofffdjpnfhakaaDoorWayThereW
import Derived.Test.YtofffdjpnfhakaaDoorRingW
import Derived.Deep.QuietTactic
import Derived.BigQuiet
namespace Go.Proofs.YtofffdjpnfhakaaDoor
open Go.RowKit
theorem dist_unique {r : List B} {a b : B} {d e : Nat} (h : Dist r a b d) (h2 : Dist r a b e) : d = e := by
  rcases Nat.lt_or_ge d e with h3 | h3
  · exact absurd (h2.before d h3) h.at_
  · rcases Nat.lt_or_ge e d with h4 | h4
    · exact absurd (h.before e h4) h2.at_
    · omega
set_option maxHeartbeats 1000000 in
theorem equal_int (p q : Option Addr) (n c d b b' : Nat) (xs : List Nat) (w : World) (hP : Reads w b 1 p n (ints xs)) (hQ : Reads w b' 1 q n (ints xs)) (hn : n ≤ 1099511627776) :
    Calls Tryd.prog 37 #[.slice p n c, .slice q n d] w fun e w' => e = .returned (.bool true) ∧ ∃ k, w' = w.drewN k := by
  go_enter Tryd.func37, Tryd.ntmps37
  go_wp2
  go_loopw [13] (fun i wr => ∃ k : Nat, k ≤ n ∧ i = .int .i64 k ∧ Hid (∃ m, wr = w.drewN m)) (fun i _ => n - (intOf i).toNat)
  case atStart => exact ⟨0, Nat.zero_le _, rfl, show ∃ m, w = w.drewN m from ⟨0, rfl⟩⟩
  case round =>
    obtain ⟨k, hk, rfl, HW⟩ := hrel
    by_cases hlt : k < n
    · obtain ⟨ad, rfl, _, hc⟩ := hP.int_at hlt
      obtain ⟨ae, rfl, _, hd⟩ := hQ.int_at hlt
      have hc' : wr.cell? (ad.add k) = some (.int .i64 (xs.getD k 0 : Int)) := by obtain ⟨m, hm⟩ := HW.out; rw [hm]; exact hc
      have hd' : wr.cell? (ae.add k) = some (.int .i64 (xs.getD k 0 : Int)) := by obtain ⟨m, hm⟩ := HW.out; rw [hm]; exact hd
      clear hc hd hP hQ
      generalize xs.getD k 0 = x at *
      have s3 : 0 ≤ (k : Int) := by omega
      have s4 : (k : Int) < n := by omega
      go_wp2
      go_quiet (fail)
      go_wp2
      go_roundw
      case rel => exact ⟨k + 1, by omega, by go_num, by
        obtain ⟨m, hm⟩ := HW.out
        exact ⟨_, by rw [hm, World.drewN_drewN]⟩⟩
      case measure => simp [intOf]; omega
    · obtain rfl : k = n := by omega
      go_wp2
      go_ret
      exact ⟨rfl, HW.out⟩
set_option maxRecDepth 100000 in
set_option maxHeartbeats 2000000 in
theorem wayStep_walk (p : Option Addr) (n c : Nat) (r : List B) (a b : B) (w : World) (hR : RowsAt w p n r) (hT : Tab w) :
    Calls Tryd.prog 12 #[.slice p n c, .int .u64 (un a), .int .u64 (un b)] w fun e w' => e = .returned (.bool true) ∧ Below w.heap.size w w' := by
  have hl := hR.len
  subst hl
  by_cases h : chks r [a, b] = 0
  · have H := Lib.hid h
    have HV := Lib.hid (chks_two h).1
    have h64 := HV.out.1
    clear h
    go_enter Tryd.func12, Tryd.ntmps12
    go_wp2_with fail
    refine (ways_below w hT).mono ?_
    rintro e w1 ⟨rfl, hb1⟩
    have hR1 := hR.below hb1
    have hT1 := hT.below hb1
    clear hR hT
    go_wp2_with fail
    refine (Some_yes p _ c r a b H.out w1 hR1 hT1).mono ?_
    rintro e w2 (⟨d, g, cg, rfl, hd, hd64, hown, hb2⟩ | ⟨rfl, hf, hb2⟩)
    · have hR2 := hR1.below hb2
      have hT2 := hT1.below hb2
      have hb12 := below_next hb1 hb2
      cases d with
      | zero =>
        clear hR1 hT1 hR2 hT2 hb1 hb2 hd hown
        go_wp2
        go_ret
        exact ⟨by simp, hb12⟩
      | succ d =>
        obtain ⟨g1, rfl, hcg1, hcg2⟩ := own_full hown (by omega)
        have hL := Reads.of_own hown
        obtain ⟨ad, had, _, hc⟩ := hL.int_at (k := 1) (by omega)
        injection had with had
        subst had
        have hA : (⟨g1, 0, none⟩ : Addr).add 1 = ⟨g1, 1, none⟩ := by unfold Addr.add; simp
        rw [hA] at hc
        obtain ⟨hD2, hDL⟩ := wayL_step HV.out hd
        have hnr : (wayL r b (d + 2) a).getD 1 0 < r.length := wayL_lt H.out hd (j := 1) (by omega)
        replace hc : w2.cell? ⟨g1, 1, none⟩ = some (.int .i64 ((wayL r b (d + 2) a).getD 1 0 : Int)) := hc
        have H2 : Hid (chks r [1#64 <<< (wayL r b (d + 2) a).getD 1 0, b] = 0) := by
          refine chks_bits HV.out fun s hs k hk => ?_
          rcases (show s = 1#64 <<< (wayL r b (d + 2) a).getD 1 0 ∨ s = b by simpa [-List.getD_eq_getElem?_getD] using hs) with rfl | rfl
          · rw [has_one _ _ (has_lt hk)] at hk
            have : k = (wayL r b (d + 2) a).getD 1 0 := by simpa [-List.getD_eq_getElem?_getD] using hk
            rw [this]; exact hnr
          · exact DD_in H.out (j := 0) hk
        have HD2 := Lib.hid hD2
        have HDL := Lib.hid hDL
        have hn64 : (wayL r b (d + 2) a).getD 1 0 < 64 := by omega
        clear hR1 hT1 hb1 hb2 hd hD2 hDL
        generalize hnn : (wayL r b (d + 2) a).getD 1 0 = n at *
        clear hnn
        have hcg3 : 1 < cg := by omega
        go_wp2_with fail
        refine (Some_yes p _ c r (1#64 <<< n) b H2.out w2 hR2 hT2).mono ?_
        rintro e w3 (⟨d2, g3, c3, rfl, hd2, _, hown3, hb3⟩ | ⟨rfl, hf, hb3⟩)
        · obtain rfl := dist_unique hd2 HD2.out
          rw [HDL.out] at hown3
          have hP := Reads.of_own hown3
          have hQ0 := (Reads.of_own (own_below hown hb3)).drop (k := 1) (by omega)
          rw [hA] at hQ0
          have hQ : Reads w3 w3.heap.size 1 (some ⟨g1, 1, none⟩) (d2 + 1) (ints ((wayL r b (d2 + 2) a).drop 1)) := by
            unfold ints at hQ0 ⊢
            rw [List.map_drop]; exact hQ0
          have HBB := Lib.hid (below_next hb12 hb3)
          clear hown hown3 hQ0 hb12 hb3 hd2 hR2 hT2 hL hc
          generalize (wayL r b (d2 + 2) a).drop 1 = l at *
          go_wp2_with (go_at_call 37; refine (equal_int _ _ _ _ _ _ _ l _ hP hQ (by omega)).mono ?_; rintro e w' ⟨rfl, k, rfl⟩)
          go_ret
          exact ⟨by simp, below_draws HBB.out _⟩
        · exact absurd (hf d) HD2.out.at_
    · have hb12 := below_next hb1 hb2
      clear hR1 hT1 hb1 hb2 hf
      go_wp2
      go_ret
      exact ⟨rfl, hb12⟩
  · obtain ⟨h1, h2⟩ := int_ne h
    have H := Lib.hid h
    clear h
    go_enter Tryd.func12, Tryd.ntmps12
    go_wp2_with fail
    refine (ways_below w hT).mono ?_
    rintro e w1 ⟨rfl, hb1⟩
    have hR1 := hR.below hb1
    have hT1 := hT.below hb1
    clear hR hT
    go_wp2_with fail
    refine (Some_no p _ c r a b H.out w1 hR1 hT1).mono ?_
    rintro e w2 ⟨rfl, hb2⟩
    have hb12 := below_next hb1 hb2
    clear hR1 hT1 hb1 hb2
    go_wp2
    go_ret
    exact ⟨by simp, hb12⟩
end Go.Proofs.YtofffdjpnfhakaaDoor
