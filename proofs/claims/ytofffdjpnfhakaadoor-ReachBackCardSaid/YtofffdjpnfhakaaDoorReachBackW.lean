/- The walks through slices.Equal at uint64 and the law ReachBack. Conditions: the table reads as listed. -/
import Derived.Test.YtofffdjpnfhakaaDoorBetweenW
import Derived.Deep.QuietTactic
import Derived.BigQuiet
namespace Go.Proofs.YtofffdjpnfhakaaDoor
open Go.RowKit
set_option maxHeartbeats 1000000 in
theorem equal_same (p q : Option Addr) (n c d : Nat) (r : List B) (w : World) (hP : RowsAt w p n r) (hQ : RowsAt w q n r) :
    Calls Tryd.prog 34 #[.slice p n c, .slice q n d] w fun e w' => e = .returned (.bool true) ∧ ∃ k, w' = w.drewN k := by
  have hbig := hP.big
  unfold maxLen at hbig
  go_enter Tryd.func34, Tryd.ntmps34
  go_wp2
  go_loopw [13] (fun i wr => ∃ k : Nat, k ≤ n ∧ i = .int .i64 k ∧ Hid (∃ m, wr = w.drewN m)) (fun i _ => n - (intOf i).toNat)
  case atStart => exact ⟨0, Nat.zero_le _, rfl, show ∃ m, w = w.drewN m from ⟨0, rfl⟩⟩
  case round =>
    obtain ⟨k, hk, rfl, HW⟩ := hrel
    by_cases hlt : k < n
    · obtain ⟨ad, rfl, _, hc⟩ := hP.cell hlt
      obtain ⟨ae, rfl, _, hd⟩ := hQ.cell hlt
      have hc' : wr.cell? (ad.add k) = some (.int .u64 (un (row r k) : Int)) := by obtain ⟨m, hm⟩ := HW.out; rw [hm]; exact hc
      have hd' : wr.cell? (ae.add k) = some (.int .u64 (un (row r k) : Int)) := by obtain ⟨m, hm⟩ := HW.out; rw [hm]; exact hd
      clear hc hd hP hQ
      generalize row r k = x at *
      have s3 : 0 ≤ (k : Int) := by omega
      have s4 : (k : Int) < n := by omega
      go_wp2
      go_quiet (fail)
      go_wp2
      go_roundw
      case rel => exact ⟨k + 1, by omega, by go_num, by
        obtain ⟨m, hm⟩ := HW.out
        exact ⟨_, by rw [hm, World.drewN_drewN]⟩⟩
      case measure => simp [intOf]; omega
    · obtain rfl : k = n := by omega
      go_wp2
      go_ret
      exact ⟨rfl, HW.out⟩
theorem reach_turn {r : List B} (hv : Valid r) {a b : Nat} (ha : a < r.length) (hb : b < r.length) : has (cls r (1#64 <<< a)) b = has (cls (bk r) (1#64 <<< b)) a := by
  have h64 := hv.1
  have h1 := has_cls_one (r := r) (a := a) (b := b) (by omega)
  have h2 := has_cls_one (r := bk r) (a := b) (b := a) (by omega)
  rw [rch_bk hv] at h2
  cases hx : has (cls r (1#64 <<< a)) b <;> cases hy : has (cls (bk r) (1#64 <<< b)) a
  · rfl
  · exact absurd (h1.2 (h2.1 hy)) (by rw [hx]; simp)
  · exact absurd (h2.2 (h1.1 hx)) (by rw [hy]; simp)
  · rfl
set_option maxRecDepth 100000 in
set_option maxHeartbeats 4000000 in
theorem reachBack_yes (p : Option Addr) (n c : Nat) (r : List B) (hv : Valid r) (a b : Nat) (ha : a < r.length) (hb : b < r.length) (w : World) (hR : RowsAt w p n r) (hT : Tab w) :
    Calls Tryd.prog 11 #[.slice p n c, .int .i64 (a : Int), .int .i64 (b : Int)] w fun e w' => e = .returned (.bool true) ∧ Below w.heap.size w w' := by
  have hl := hR.len
  subst hl
  have hbig := hR.big
  have HBG := Lib.hid hbig
  unfold maxLen at hbig
  have h64 := hv.1
  have HV := Lib.hid hv
  have H0 := Lib.hid (chkR_zero.2 hv)
  have H1 := Lib.hid (chkR_zero.2 (valid_bk hv))
  have H2 := Lib.hid (chks_bit hv ha)
  have H3 := Lib.hid (chks_bit (valid_bk hv) (a := b) (by rw [bk_len]; exact hb))
  have HT := Lib.hid (reach_turn hv ha hb)
  have HBB := Lib.hid (bk_bk hv)
  have HLN := Lib.hid (bk_len r)
  have hok : allOk [0, 0, 0] = true := rfl
  clear hv
  go_enter Tryd.func11, Tryd.ntmps11
  go_wp2_with fail
  refine (reaches_below w hT).mono ?_
  rintro e w1 ⟨rfl, hb1⟩
  have hR1 := hR.below hb1
  have hT1 := hT.below hb1
  go_wp2_with fail
  refine (Back_yes p _ c r H0.out w1 hR1 hT1).mono ?_
  rintro e w2 ⟨g, cg, rfl, hown, hb2⟩
  have hB2 := rows_own hown HLN.out HBG.out
  have hR2 := hR1.below hb2
  have hT2 := hT1.below hb2
  have hb12 := below_next hb1 hb2
  clear hb1 hb2 hR1 hT1 hR hT hown
  go_wp2_with fail
  refine (Back_yes g _ cg (bk r) H1.out w2 hB2 hT2).mono ?_
  rintro e w3 ⟨g2, cg2, rfl, hown2, hb3⟩
  rw [HBB.out] at hown2
  have hC3 := rows_own hown2 rfl HBG.out
  have hB3 := hB2.below hb3
  have hR3 := hR2.below hb3
  have hT3 := hT2.below hb3
  have hb13 := below_next hb12 hb3
  clear hb12 hb3 hR2 hT2 hB2 hown2
  go_wp2_with fail
  refine (From_yes p _ c r _ H2.out w3 hR3 hT3).mono ?_
  rintro e w4 ⟨rfl, hb4⟩
  have hC4 := hC3.below hb4
  have hB4 := hB3.below hb4
  have hR4 := hR3.below hb4
  have hT4 := hT3.below hb4
  have hb14 := below_next hb13 hb4
  clear hb13 hb4 hR3 hT3 hB3 hC3
  go_wp2_with fail
  refine (From_yes g _ cg (bk r) _ H3.out w4 hB4 hT4).mono ?_
  rintro e w5 ⟨rfl, hb5⟩
  have hC5 := hC4.below hb5
  have hR5 := hR4.below hb5
  have hb15 := below_next hb14 hb5
  clear hb14 hb5 hR4 hT4 hB4 hC4
  have HA : Hid (hasI (cls r (1#64 <<< a)) (b : Int) = hasI (cls (bk r) (1#64 <<< b)) (a : Int)) := by
    show hasI _ _ = hasI _ _
    unfold hasI; simp [HT.out]
  generalize cls r (1#64 <<< a) = x at *
  generalize cls (bk r) (1#64 <<< b) = y at *
  go_wp2_with (first | (go_at_call 27; refine (goodB3 _ _ _ w5).mono ?_; rintro e w6 ⟨rfl, hb6⟩) | (go_at_call 34; refine (equal_same _ _ _ _ _ r _ (hC5.below (by assumption)) (hR5.below (by assumption))).mono ?_; rintro e w' ⟨rfl, k, rfl⟩) | (go_at_call 25; refine (has_ok _ _ _).mono ?_; (first | rw [HA.out] | skip); rintro e w' ⟨rfl, rfl⟩))
  go_ret
  exact ⟨by simp, below_draws (below_next hb15 (by assumption)) _⟩
set_option maxRecDepth 100000 in
set_option maxHeartbeats 4000000 in
theorem reachBack_walk (p : Option Addr) (n c : Nat) (r : List B) (a b : Int) (w : World) (hR : RowsAt w p n r) (hT : Tab w) :
    Calls Tryd.prog 11 #[.slice p n c, .int .i64 a, .int .i64 b] w fun e w' => e = .returned (.bool true) ∧ Below w.heap.size w w' := by
  have hl := hR.len
  subst hl
  have hbig := hR.big
  unfold maxLen at hbig
  by_cases h : chkR r = 0
  · by_cases hab : 0 ≤ a ∧ a < r.length ∧ 0 ≤ b ∧ b < r.length
    · obtain ⟨a, rfl⟩ := Int.eq_ofNat_of_zero_le hab.1
      obtain ⟨b, rfl⟩ := Int.eq_ofNat_of_zero_le hab.2.2.1
      exact reachBack_yes p _ c r (chkR_zero.1 h) a b (by omega) (by omega) w hR hT
    · have H := Lib.hid h
      have hcs : a < 0 ∨ (0 ≤ a ∧ (r.length : Int) ≤ a) ∨ (0 ≤ a ∧ a < r.length ∧ b < 0) ∨ (0 ≤ a ∧ a < r.length ∧ 0 ≤ b ∧ (r.length : Int) ≤ b) := by omega
      clear hab h
      rcases hcs with h1 | ⟨h1, h2⟩ | ⟨h1, h2, h3⟩ | ⟨h1, h2, h3, h4⟩
      all_goals
        go_enter Tryd.func11, Tryd.ntmps11
        go_wp2_with fail
        refine (reaches_below w hT).mono ?_
        rintro e w1 ⟨rfl, hb1⟩
        go_wp2_with fail
        refine (Back_yes p _ c r H.out w1 (hR.below hb1) (hT.below hb1)).mono ?_
        rintro e w2 ⟨g, cg, rfl, _, hb2⟩
        have hb := below_next hb1 hb2
        clear hb1 hb2 hR
        go_wp2
        go_ret
        exact ⟨rfl, hb⟩
  · obtain ⟨h1, h2⟩ := int_ne h
    go_enter Tryd.func11, Tryd.ntmps11
    go_wp2_with fail
    refine (reaches_below w hT).mono ?_
    rintro e w1 ⟨rfl, hb1⟩
    go_wp2_with fail
    refine (Back_no p _ c r h w1 (hR.below hb1)).mono ?_
    rintro e w2 ⟨rfl, rfl⟩
    clear hR h
    go_wp2
    go_ret
    exact ⟨rfl, hb1⟩
end Go.Proofs.YtofffdjpnfhakaaDoor
