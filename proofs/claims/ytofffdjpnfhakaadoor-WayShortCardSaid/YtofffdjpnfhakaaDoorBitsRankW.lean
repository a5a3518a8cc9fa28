/- The walk through the law BitsRank. Conditions: the table reads as listed. -/
import Derived.Test.YtofffdjpnfhakaaDoorLowW
namespace Go.Proofs.YtofffdjpnfhakaaDoor
open Go.RowKit
theorem shr_bit (s : B) (a : Nat) : (un (s >>> a &&& 1#64) : Int) = if has s a = true then 1 else 0 := by
  have e : un (s >>> a &&& 1#64) = un (s >>> a) % 2 := by
    unfold un; rw [BitVec.toNat_and]; exact Nat.and_one_is_mod _
  have e2 : un (s >>> a) = un s / 2 ^ a := by unfold un; rw [BitVec.toNat_ushiftRight, Nat.shiftRight_eq_div_pow]
  rw [e, e2, has_un, Nat.testBit_eq_decide_div_mod_eq]
  rcases Nat.mod_two_eq_zero_or_one (un s / 2 ^ a) with h | h <;> simp [h]
theorem nextV_none {s : B} {m : Nat} (h : frm s m = 0#64) : nextV s m = .tuple #[.int .i64 0, .bool false] := by unfold nextV; rw [if_pos h]
theorem nextV_some {s : B} {m : Nat} (h : frm s m ≠ 0#64) : nextV s m = .tuple #[.int .i64 (low (frm s m) : Int), .bool true] := by unfold nextV; rw [if_neg h]
set_option maxRecDepth 100000 in
set_option maxHeartbeats 2000000 in
theorem bitsRank_walk (s : B) (k n : Int) (w : World) (hT : Tab w) (hn : -9223372036854775808 ≤ n ∧ n ≤ 9223372036854775807) :
    Calls Tryd.prog 3 #[.int .u64 (un s), .int .i64 k, .int .i64 n] w fun e w' => e = .returned (.bool true) ∧ Below w.heap.size w w' := by
  obtain ⟨m, hm⟩ : ∃ m, m = n.toNat := ⟨_, rfl⟩
  have hnm : n ≤ (m : Int) := by omega
  have HM : Hid (n.toNat = m) := hm.symm
  clear hm
  have hcl := cnt_lst s
  by_cases hk : 0 ≤ k ∧ k < (cnt s : Int)
  · obtain ⟨q, rfl⟩ := Int.eq_ofNat_of_zero_le hk.1
    have hq : q < (lst s).length := by rw [← hcl]; omega
    have hqc : q < cnt s := by omega
    have hN := Nth_ok s q hq
    have hnth : nth s q = (lst s)[q] := by unfold nth; simp [hq]
    have hr : rnk s (nth s q) = q := by rw [hnth]; exact rnk_nth s q hq
    have hhas : has s (nth s q) = true := by rw [hnth]; exact mem_lst.1 (List.getElem_mem hq)
    have ha : nth s q < 64 := has_lt hhas
    have eS := shr_bit s (nth s q)
    rw [if_pos hhas] at eS
    have hself := low_frm_self hhas
    have HV1 : Hid (nextV s (nth s q) = .tuple #[.int .i64 (nth s q : Int), .bool true]) := by
      show nextV _ _ = _
      rw [nextV_some hself.1, hself.2]
    generalize nth s q = a at *
    have HN := Lib.hid hN
    clear hN hself hhas hnth hq hcl hk
    by_cases h0 : frm s m = 0#64
    · have HV2 := Lib.hid (nextV_none h0)
      have hle : cnt s ≤ rnk s m := by
        rcases Nat.lt_or_ge (rnk s m) (cnt s) with h | h
        · exact absurd h0 ((rnk_lt_iff s m).1 h)
        · exact h
      have hdec : decide (rnk s m < cnt s) = false := by simpa using hle
      clear h0
      go_enter Tryd.func3, Tryd.ntmps3
      go_wp2_with fail
      refine (sets_below w).mono ?_
      rintro e w' ⟨rfl, hb⟩
      have hT' := hT.below hb
      go_wp2_with (first | (go_at_call 16; refine (HN.out _ hT').mono ?_; rintro e w' ⟨rfl, rfl⟩) | (go_at_call 17; refine (count_ok _ _).mono ?_; rintro e w' ⟨rfl, rfl⟩) | (go_at_call 18; refine (Rank_ok _ _ _).mono ?_; (first | rw [HM.out] | simp only [Int.toNat_natCast]); rintro e w' ⟨rfl, rfl⟩) | (go_at_call 19; refine (Next_ok _ _ _ hT').mono ?_; (first | rw [HM.out, HV2.out] | (simp only [Int.toNat_natCast]; rw [HV1.out])); rintro e w' ⟨rfl, rfl⟩))
      go_ret
      exact ⟨rfl, hb⟩
    · have HV2 := Lib.hid (nextV_some h0)
      have hlt : rnk s m < cnt s := (rnk_lt_iff s m).2 h0
      have hr2 := rnk_low h0
      have hb2 : n ≤ (low (frm s m) : Int) := by have := (low_frm h0).2.1; omega
      generalize low (frm s m) = b2 at *
      clear h0
      go_enter Tryd.func3, Tryd.ntmps3
      go_wp2_with fail
      refine (sets_below w).mono ?_
      rintro e w' ⟨rfl, hb⟩
      have hT' := hT.below hb
      go_wp2_with (first | (go_at_call 16; refine (HN.out _ hT').mono ?_; rintro e w' ⟨rfl, rfl⟩) | (go_at_call 17; refine (count_ok _ _).mono ?_; rintro e w' ⟨rfl, rfl⟩) | (go_at_call 18; refine (Rank_ok _ _ _).mono ?_; (first | rw [HM.out] | simp only [Int.toNat_natCast]); rintro e w' ⟨rfl, rfl⟩) | (go_at_call 19; refine (Next_ok _ _ _ hT').mono ?_; (first | rw [HM.out, HV2.out] | (simp only [Int.toNat_natCast]; rw [HV1.out])); rintro e w' ⟨rfl, rfl⟩))
      go_ret
      exact ⟨rfl, hb⟩
  · have hN := fun w => Nth_no s k (by omega) w
    have HN : Hid (∀ w, Tab w → Calls Tryd.prog 16 #[.int .u64 (un s), .int .i64 k] w fun e w' => e = .returned (.tuple #[.int .i64 0, .bool false]) ∧ w = w') := fun w _ => hN w
    clear hN
    have hk' : k < 0 ∨ ((cnt s : Int) ≤ k ∧ 0 ≤ k) := by omega
    clear hk hcl
    have HV1 : Hid (nextV s 0 = nextV s 0) := rfl
    rcases hk' with hk | ⟨hk, hk2⟩
    · by_cases h0 : frm s m = 0#64
      · have HV2 := Lib.hid (nextV_none h0)
        have hle : cnt s ≤ rnk s m := by
          rcases Nat.lt_or_ge (rnk s m) (cnt s) with h | h
          · exact absurd h0 ((rnk_lt_iff s m).1 h)
          · exact h
        have hdec : decide (rnk s m < cnt s) = false := by simpa using hle
        clear h0
        go_enter Tryd.func3, Tryd.ntmps3
        go_wp2_with fail
        refine (sets_below w).mono ?_
        rintro e w' ⟨rfl, hb⟩
        have hT' := hT.below hb
        go_wp2_with (first | (go_at_call 16; refine (HN.out _ hT').mono ?_; rintro e w' ⟨rfl, rfl⟩) | (go_at_call 17; refine (count_ok _ _).mono ?_; rintro e w' ⟨rfl, rfl⟩) | (go_at_call 18; refine (Rank_ok _ _ _).mono ?_; (first | rw [HM.out] | simp only [Int.toNat_natCast]); rintro e w' ⟨rfl, rfl⟩) | (go_at_call 19; refine (Next_ok _ _ _ hT').mono ?_; (first | rw [HM.out, HV2.out] | (simp only [Int.toNat_natCast]; rw [HV1.out])); rintro e w' ⟨rfl, rfl⟩))
        go_ret
        exact ⟨rfl, hb⟩
      · have HV2 := Lib.hid (nextV_some h0)
        have hlt : rnk s m < cnt s := (rnk_lt_iff s m).2 h0
        have hr2 := rnk_low h0
        have hb2 : n ≤ (low (frm s m) : Int) := by have := (low_frm h0).2.1; omega
        generalize low (frm s m) = b2 at *
        clear h0
        go_enter Tryd.func3, Tryd.ntmps3
        go_wp2_with fail
        refine (sets_below w).mono ?_
        rintro e w' ⟨rfl, hb⟩
        have hT' := hT.below hb
        go_wp2_with (first | (go_at_call 16; refine (HN.out _ hT').mono ?_; rintro e w' ⟨rfl, rfl⟩) | (go_at_call 17; refine (count_ok _ _).mono ?_; rintro e w' ⟨rfl, rfl⟩) | (go_at_call 18; refine (Rank_ok _ _ _).mono ?_; (first | rw [HM.out] | simp only [Int.toNat_natCast]); rintro e w' ⟨rfl, rfl⟩) | (go_at_call 19; refine (Next_ok _ _ _ hT').mono ?_; (first | rw [HM.out, HV2.out] | (simp only [Int.toNat_natCast]; rw [HV1.out])); rintro e w' ⟨rfl, rfl⟩))
        go_ret
        exact ⟨rfl, hb⟩
    · by_cases h0 : frm s m = 0#64
      · have HV2 := Lib.hid (nextV_none h0)
        have hle : cnt s ≤ rnk s m := by
          rcases Nat.lt_or_ge (rnk s m) (cnt s) with h | h
          · exact absurd h0 ((rnk_lt_iff s m).1 h)
          · exact h
        have hdec : decide (rnk s m < cnt s) = false := by simpa using hle
        clear h0
        go_enter Tryd.func3, Tryd.ntmps3
        go_wp2_with fail
        refine (sets_below w).mono ?_
        rintro e w' ⟨rfl, hb⟩
        have hT' := hT.below hb
        go_wp2_with (first | (go_at_call 16; refine (HN.out _ hT').mono ?_; rintro e w' ⟨rfl, rfl⟩) | (go_at_call 17; refine (count_ok _ _).mono ?_; rintro e w' ⟨rfl, rfl⟩) | (go_at_call 18; refine (Rank_ok _ _ _).mono ?_; (first | rw [HM.out] | simp only [Int.toNat_natCast]); rintro e w' ⟨rfl, rfl⟩) | (go_at_call 19; refine (Next_ok _ _ _ hT').mono ?_; (first | rw [HM.out, HV2.out] | (simp only [Int.toNat_natCast]; rw [HV1.out])); rintro e w' ⟨rfl, rfl⟩))
        go_ret
        exact ⟨rfl, hb⟩
      · have HV2 := Lib.hid (nextV_some h0)
        have hlt : rnk s m < cnt s := (rnk_lt_iff s m).2 h0
        have hr2 := rnk_low h0
        have hb2 : n ≤ (low (frm s m) : Int) := by have := (low_frm h0).2.1; omega
        generalize low (frm s m) = b2 at *
        clear h0
        go_enter Tryd.func3, Tryd.ntmps3
        go_wp2_with fail
        refine (sets_below w).mono ?_
        rintro e w' ⟨rfl, hb⟩
        have hT' := hT.below hb
        go_wp2_with (first | (go_at_call 16; refine (HN.out _ hT').mono ?_; rintro e w' ⟨rfl, rfl⟩) | (go_at_call 17; refine (count_ok _ _).mono ?_; rintro e w' ⟨rfl, rfl⟩) | (go_at_call 18; refine (Rank_ok _ _ _).mono ?_; (first | rw [HM.out] | simp only [Int.toNat_natCast]); rintro e w' ⟨rfl, rfl⟩) | (go_at_call 19; refine (Next_ok _ _ _ hT').mono ?_; (first | rw [HM.out, HV2.out] | (simp only [Int.toNat_natCast]; rw [HV1.out])); rintro e w' ⟨rfl, rfl⟩))
        go_ret
        exact ⟨rfl, hb⟩
end Go.Proofs.YtofffdjpnfhakaaDoor
