/- The walk through the law ReachClosed. Conditions: the table reads as listed. -/
import Derived.Test.YtofffdjpnfhakaaDoorReachDepthW
import Derived.Test.YtofffdjpnfhakaaDoorListW
namespace Go.Proofs.YtofffdjpnfhakaaDoor
open Go.RowKit
theorem chks_cls {r : List B} {s : B} (h : chks r [s] = 0) : chks r [cls r s] = 0 := chks_ball h 64
theorem chks_or {r : List B} {s t : B} (h : chks r [s] = 0) (h2 : chks r [t] = 0) : chks r [s ||| t] = 0 := by
  obtain ⟨hv, hs⟩ := chks_zero.1 h
  obtain ⟨_, ht⟩ := chks_zero.1 h2
  refine chks_zero.2 ⟨hv, fun u hu k hk => ?_⟩
  have : u = s ||| t := by simpa using hu
  subst this
  rw [has_or, Bool.or_eq_true] at hk
  rcases hk with hk | hk
  · exact hs s (by simp) k hk
  · exact ht t (by simp) k hk
theorem Reads.int_at {w : World} {b n : Nat} {p : Option Addr} {xs : List Nat} (h : Reads w b 1 p n (ints xs)) {k : Nat} (hk : k < n) : ∃ ad, p = some ad ∧ ad.block < b ∧ w.cell? (ad.add k) = some (.int .i64 (xs.getD k 0 : Int)) := by
  obtain ⟨ad, u, rfl, hb, hu, hc⟩ := h.at_ hk
  refine ⟨ad, rfl, hb, ?_⟩
  have hl : k < xs.length := by have := h.1; simp [ints] at this; omega
  rw [hc, ← hu]
  simp [ints, hl]
set_option maxRecDepth 100000 in
set_option maxHeartbeats 4000000 in
theorem reachClosed_no (p : Option Addr) (n c : Nat) (r : List B) (s t : B) (h : chks r [s] ≠ 0 ∨ chks r [t] ≠ 0) (w : World) (hR : RowsAt w p n r) (hT : Tab w) :
    Calls Tryd.prog 9 #[.slice p n c, .int .u64 (un s), .int .u64 (un t)] w fun e w' => e = .returned (.bool true) ∧ Below w.heap.size w w' := by
  by_cases h1 : chks r [s] = 0
  · have h2 : chks r [t] ≠ 0 := by rcases h with h | h; exact absurd h1 h; exact h
    obtain ⟨n1, n2⟩ := int_ne h2
    have H1 := Lib.hid h1
    have H2 := Lib.hid h2
    have hok : allOk [0, chks r [t]] = false := by simp [allOk, h2]
    clear h h1 h2
    go_enter Tryd.func9, Tryd.ntmps9
    go_wp2_with fail
    refine (reaches_below w hT).mono ?_
    rintro e w1 ⟨rfl, hb1⟩
    go_wp2_with fail
    refine (From_yes p _ c r s H1.out w1 (hR.below hb1) (hT.below hb1)).mono ?_
    rintro e w2 ⟨rfl, hb2⟩
    have hb := below_next hb1 hb2
    clear hb1 hb2
    go_wp2_with fail
    refine (From_no p _ c r t H2.out w2 (hR.below hb)).mono ?_
    rintro e w3 ⟨rfl, hb3⟩
    have hb' := below_next hb hb3
    clear hb hb3 hR hT
    generalize chks r [t] = x at *
    generalize cls r s = y at *
    go_wp2_with (go_at_call 27; refine (good2 _ _ w3).mono ?_; rintro e w' ⟨rfl, rfl⟩)
    go_ret
    exact ⟨rfl, hb'.alloc hb'.size _⟩
  · obtain ⟨n1, n2⟩ := int_ne h1
    have H1 := Lib.hid h1
    by_cases h2 : chks r [t] = 0
    · have H2 := Lib.hid h2
      have hok : allOk [chks r [s], 0] = false := by simp [allOk, h1]
      clear h h1 h2
      go_enter Tryd.func9, Tryd.ntmps9
      go_wp2_with fail
      refine (reaches_below w hT).mono ?_
      rintro e w1 ⟨rfl, hb1⟩
      go_wp2_with fail
      refine (From_no p _ c r s H1.out w1 (hR.below hb1)).mono ?_
      rintro e w2 ⟨rfl, hb2⟩
      have hb := below_next hb1 hb2
      clear hb1 hb2
      go_wp2_with fail
      refine (From_yes p _ c r t H2.out w2 (hR.below hb) (hT.below hb)).mono ?_
      rintro e w3 ⟨rfl, hb3⟩
      have hb' := below_next hb hb3
      clear hb hb3 hR hT
      generalize chks r [s] = x at *
      generalize cls r t = y at *
      go_wp2_with (go_at_call 27; refine (good2 _ _ w3).mono ?_; rintro e w' ⟨rfl, rfl⟩)
      go_ret
      exact ⟨rfl, hb'.alloc hb'.size _⟩
    · obtain ⟨m1, m2⟩ := int_ne h2
      have H2 := Lib.hid h2
      have hok : allOk [chks r [s], chks r [t]] = false := by simp [allOk, h1]
      clear h h1 h2
      go_enter Tryd.func9, Tryd.ntmps9
      go_wp2_with fail
      refine (reaches_below w hT).mono ?_
      rintro e w1 ⟨rfl, hb1⟩
      go_wp2_with fail
      refine (From_no p _ c r s H1.out w1 (hR.below hb1)).mono ?_
      rintro e w2 ⟨rfl, hb2⟩
      have hb := below_next hb1 hb2
      clear hb1 hb2
      go_wp2_with fail
      refine (From_no p _ c r t H2.out w2 (hR.below hb)).mono ?_
      rintro e w3 ⟨rfl, hb3⟩
      have hb' := below_next hb hb3
      clear hb hb3 hR hT
      generalize chks r [s] = x at *
      generalize chks r [t] = y at *
      go_wp2_with (go_at_call 27; refine (good2 _ _ w3).mono ?_; rintro e w' ⟨rfl, rfl⟩)
      go_ret
      exact ⟨rfl, hb'.alloc hb'.size _⟩
set_option maxRecDepth 100000 in
set_option maxHeartbeats 4000000 in
theorem reachClosed_yes (p : Option Addr) (n c : Nat) (r : List B) (s t : B) (h1 : chks r [s] = 0) (h2 : chks r [t] = 0) (w : World) (hR : RowsAt w p n r) (hT : Tab w) :
    Calls Tryd.prog 9 #[.slice p n c, .int .u64 (un s), .int .u64 (un t)] w fun e w' => e = .returned (.bool true) ∧ Below w.heap.size w w' := by
  have hl := hR.len
  subst hl
  have hbig := hR.big
  unfold maxLen at hbig
  have H1 := Lib.hid h1
  have H2 := Lib.hid h2
  have H3 := Lib.hid (chks_cls h1)
  have H4 := Lib.hid (chks_or h1 h2)
  have E1 := Lib.hid (cls_idem r s)
  have E2 := Lib.hid (cls_or r s t)
  have E3 : Hid (s &&& ~~~cls r s = 0#64) := andNot_zero fun k hk => cls_self hk
  have hin : ∀ k, has (cls r s) k = true → k < r.length := chks_in (chks_cls h1) (by simp)
  have HI := Lib.hid hin
  have HC := Lib.hid (cls_closed r s)
  have hok : allOk [0, 0] = true := rfl
  have hcl := cnt_lst (cls r s)
  have hcn := cnt_le (cls r s)
  have HL := Lib.hid hcl
  clear h1 h2 hin hcl
  go_enter Tryd.func9, Tryd.ntmps9
  go_wp2_with fail
  refine (reaches_below w hT).mono ?_
  rintro e w1 ⟨rfl, hb1⟩
  have hR1 := hR.below hb1
  have hT1 := hT.below hb1
  go_wp2_with fail
  refine (From_yes p _ c r s H1.out w1 hR1 hT1).mono ?_
  rintro e w2 ⟨rfl, hb2⟩
  have hR2 := hR1.below hb2
  have hT2 := hT1.below hb2
  have hb12 := below_next hb1 hb2
  clear hb1 hb2 hR1 hT1 hR hT
  go_wp2_with fail
  refine (From_yes p _ c r t H2.out w2 hR2 hT2).mono ?_
  rintro e w3 ⟨rfl, hb3⟩
  have hR3 := hR2.below hb3
  have hT3 := hT2.below hb3
  have hb13 := below_next hb12 hb3
  clear hb12 hb3 hR2 hT2
  go_wp2_with fail
  refine (goodB2 _ _ w3).mono ?_
  rintro e w4 ⟨rfl, hb4⟩
  have hR4 := hR3.below hb4
  have hT4 := hT3.below hb4
  have hb14 := below_next hb13 hb4
  clear hb13 hb4 hR3 hT3
  go_wp2_with fail
  refine (From_yes p _ c r _ H3.out w4 hR4 hT4).mono ?_
  rintro e w5 ⟨rfl, hb5⟩
  rw [E1.out]
  have hR5 := hR4.below hb5
  have hT5 := hT4.below hb5
  have hb15 := below_next hb14 hb5
  clear hb14 hb5 hR4 hT4
  go_wp2_with fail
  refine (From_yes p _ c r _ H4.out w5 hR5 hT5).mono ?_
  rintro e w6 ⟨rfl, hb6⟩
  rw [E2.out]
  have hR6 := hR5.below hb6
  have hT6 := hT5.below hb6
  have hb16 := below_next hb15 hb6
  clear hb15 hb6 hR5 hT5
  go_wp2_with fail
  refine (List_ok _ w6 hT6).mono ?_
  rintro e w7 ⟨g, cg, rfl, hown, hb7⟩
  have hL := Reads.of_own hown
  have hR7 := hR6.below hb7
  have hb17 := below_next hb16 hb7
  clear hb16 hb7 hR6 hT6 hown
  have e3 : (un (s &&& ~~~cls r s) : Int) = 0 := un_zero_int E3.out
  have HN : Hid (∀ k, k < cnt (cls r s) → (lst (cls r s)).getD k 0 < r.length ∧ row r ((lst (cls r s)).getD k 0) &&& ~~~cls r s = 0#64) := by
    show ∀ k, _
    intro k hk
    have hkl : k < (lst (cls r s)).length := by rw [← HL.out]; exact hk
    have hm : has (cls r s) ((lst (cls r s)).getD k 0) = true := by
      have : (lst (cls r s)).getD k 0 = (lst (cls r s))[k] := by simp [hkl]
      rw [this]; exact mem_lst.1 (List.getElem_mem hkl)
    exact ⟨HI.out _ hm, andNot_zero fun j hj => HC.out _ j hm hj⟩
  clear HI HC E1 E2 E3 H1 H2 H3 H4 HL
  generalize cls r s = a at *
  generalize cls r t = b at *
  go_wp2_with fail
  go_loop [67] (fun i => ∃ k : Nat, k ≤ cnt a ∧ i = .int .i64 k) (fun i => cnt a - (intOf i).toNat)
  case atStart => exact ⟨0, Nat.zero_le _, rfl⟩
  case round =>
    obtain ⟨k, hk, rfl⟩ := hrel
    by_cases hlt : k < cnt a
    · obtain ⟨ad, rfl, _, hc1⟩ := hL.int_at hlt
      obtain ⟨hj, hz⟩ := HN.out k hlt
      obtain ⟨ad2, rfl, _, hc2⟩ := hR7.cell hj
      have e0 : (un (row r ((lst a).getD k 0) &&& ~~~a) : Int) = 0 := un_zero_int hz
      clear hz hL hR7
      generalize (lst a).getD k 0 = j at *
      generalize row r j = z at *
      go_wp2
      go_round
      case rel => exact ⟨k + 1, by omega, by go_num⟩
      case measure => simp [intOf]; omega
    · obtain rfl : k = cnt a := by omega
      clear hL hR7
      go_wp2_with (go_at_call 27; refine (goodB2 _ _ w7).mono ?_; rintro e w8 ⟨rfl, hb8⟩)
      go_ret
      exact ⟨rfl, below_next hb17 (by assumption)⟩
theorem reachClosed_walk (p : Option Addr) (n c : Nat) (r : List B) (s t : B) (w : World) (hR : RowsAt w p n r) (hT : Tab w) :
    Calls Tryd.prog 9 #[.slice p n c, .int .u64 (un s), .int .u64 (un t)] w fun e w' => e = .returned (.bool true) ∧ Below w.heap.size w w' := by
  by_cases h1 : chks r [s] = 0
  · by_cases h2 : chks r [t] = 0
    · exact reachClosed_yes p n c r s t h1 h2 w hR hT
    · exact reachClosed_no p n c r s t (.inr h2) w hR hT
  · exact reachClosed_no p n c r s t (.inl h1) w hR hT
end Go.Proofs.YtofffdjpnfhakaaDoor
