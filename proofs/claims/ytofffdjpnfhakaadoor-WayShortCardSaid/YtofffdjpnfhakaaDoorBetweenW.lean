/- The walks through reach.Between and the law ReachBetween. Conditions: the table reads as listed. -/
import Derived.Test.YtofffdjpnfhakaaDoorRch
namespace Go.Proofs.YtofffdjpnfhakaaDoor
open Go.RowKit
def betw (r : List B) (a b : B) : B := cls r a &&& cls (bk r) b
theorem chks_two {r : List B} {a b : B} (h : chks r [a, b] = 0) : Valid r ∧ chks r [a] = 0 ∧ chks r [b] = 0 ∧ chks (bk r) [b] = 0 := by
  obtain ⟨hv, hs⟩ := chks_zero.1 h
  refine ⟨hv, chks_bits hv fun s hs' => ?_, chks_bits hv fun s hs' => ?_, chks_bits (valid_bk hv) fun s hs' => ?_⟩
  · exact hs s (by simp at hs'; simp [hs'])
  · exact hs s (by simp at hs'; simp [hs'])
  · rw [bk_len]; exact hs s (by simp at hs'; simp [hs'])
set_option maxHeartbeats 1000000 in
theorem Between_yes (p : Option Addr) (n c : Nat) (r : List B) (a b : B) (h : chks r [a, b] = 0) (w : World) (hR : RowsAt w p n r) (hT : Tab w) :
    Calls Tryd.prog 32 #[.slice p n c, .int .u64 (un a), .int .u64 (un b)] w fun e w' => e = .returned (.tuple #[.int .u64 (un (betw r a b)), .int .i64 0]) ∧ Below w.heap.size w w' := by
  have H := Lib.hid h
  obtain ⟨hv, h1, _, h3⟩ := chks_two h
  have HV := Lib.hid hv
  have H1 := Lib.hid h1
  have H3 := Lib.hid h3
  have HL := Lib.hid hR.len
  clear h hv h1 h3
  have hb1 : Below w.heap.size w (w.alloc (.cells #[.int .u64 (un a : Int), .int .u64 (un b : Int)] 22)) := (Below.refl _ _).alloc (Nat.le_refl _) _
  have hR1 := hR.below hb1
  have hT1 := hT.below hb1
  have hbig := Lib.hid hR.big
  have HB : Hid (cls r a &&& cls (bk r) b = betw r a b) := rfl
  go_enter Tryd.func32, Tryd.ntmps32
  go_wp2_with (first | (go_at_call 45; refine (checks_ok _ _ _ r _ _ _ [a, b] _ hR1 (rows_two w a b)).mono ?_; rw [H.out]; rintro e w' ⟨rfl, rfl⟩) | (go_at_call 46; refine (from_all _ _ _ r HV.out a (chks_in H1.out (by simp)) _ hR1 hT1).mono ?_; rintro e w' ⟨rfl, rfl⟩))
  refine (back_ok p n c r HV.out _ hR1 hT1).mono ?_
  rintro e w1 ⟨g, cg, rfl, hown, hb2⟩
  have hR2 := rows_own hown (by rw [bk_len]; exact HL.out) hbig.out
  have hT2 := hT1.below hb2
  have hb := below_next hb1 hb2
  clear hown hb1 hb2 hT1 hT hR hR1
  go_wp2_with fail
  refine (from_all _ _ _ (bk r) (valid_bk HV.out) b (chks_in H3.out (by simp)) _ hR2 hT2).mono ?_
  rintro e w' ⟨rfl, rfl⟩
  go_wp2
  go_ret2
  exact ⟨rfl, hb⟩
set_option maxHeartbeats 1000000 in
theorem Between_no (p : Option Addr) (n c : Nat) (r : List B) (a b : B) (h : chks r [a, b] ≠ 0) (w : World) (hR : RowsAt w p n r) :
    Calls Tryd.prog 32 #[.slice p n c, .int .u64 (un a), .int .u64 (un b)] w fun e w' => e = .returned (.tuple #[.int .u64 0, .int .i64 (chks r [a, b])]) ∧ Below w.heap.size w w' := by
  obtain ⟨h1, h2⟩ := int_ne h
  clear h
  have hb1 : Below w.heap.size w (w.alloc (.cells #[.int .u64 (un a : Int), .int .u64 (un b : Int)] 22)) := (Below.refl _ _).alloc (Nat.le_refl _) _
  have hR1 := hR.below hb1
  go_enter Tryd.func32, Tryd.ntmps32
  go_wp2_with (go_at_call 45; refine (checks_ok _ _ _ r _ _ _ [a, b] _ hR1 (rows_two w a b)).mono ?_; rintro e w' ⟨rfl, rfl⟩)
  go_ret2
  exact ⟨rfl, hb1⟩
theorem has_betw {r : List B} (hv : Valid r) {a b : B} {k : Nat} : has (betw r a b) k = true ↔ has (cls r a) k = true ∧ ∃ j, has b j = true ∧ Rch r k j := by
  unfold betw
  rw [has_and, Bool.and_eq_true, has_cls (r := bk r)]
  simp only [rch_bk hv]
theorem betw_one {r : List B} (hv : Valid r) {a b : B} {k : Nat} (h : has (betw r a b) k = true) : has (cls r a) k = true ∧ cls r (1#64 <<< k) &&& b ≠ 0#64 := by
  obtain ⟨h1, j, hj, hr⟩ := (has_betw hv).1 h
  refine ⟨h1, fun h0 => ?_⟩
  have := eq_zero_iff.1 h0 j
  rw [has_and, hj, (has_cls_one (has_lt h1)).2 hr] at this
  cases this
theorem betw_ne {r : List B} (hv : Valid r) {a b : B} : betw r a b ≠ 0#64 ↔ cls r a &&& b ≠ 0#64 := by
  constructor
  · intro h h0
    obtain ⟨k, hk⟩ := exists_of_ne h
    obtain ⟨h1, j, hj, hr⟩ := (has_betw hv).1 hk
    obtain ⟨x, hx, hrx⟩ := has_cls.1 h1
    have := eq_zero_iff.1 h0 j
    rw [has_and, hj, has_cls.2 ⟨x, hx, hrx.trans hr⟩] at this
    cases this
  · intro h h0
    obtain ⟨k, hk⟩ := exists_of_ne h
    rw [has_and, Bool.and_eq_true] at hk
    have := eq_zero_iff.1 h0 k
    rw [(has_betw hv).2 ⟨hk.1, k, hk.2, .refl k⟩] at this
    cases this
theorem betw_ends {r : List B} (hv : Valid r) {a b : B} : (cls r a &&& b) &&& ~~~betw r a b = 0#64 := andNot_zero fun k hk => by
  rw [has_and, Bool.and_eq_true] at hk
  exact (has_betw hv).2 ⟨hk.1, k, hk.2, .refl k⟩
set_option maxRecDepth 100000 in
set_option maxHeartbeats 4000000 in
theorem reachBetween_walk (p : Option Addr) (n c : Nat) (r : List B) (a b : B) (w : World) (hR : RowsAt w p n r) (hT : Tab w) :
    Calls Tryd.prog 10 #[.slice p n c, .int .u64 (un a), .int .u64 (un b)] w fun e w' => e = .returned (.bool true) ∧ Below w.heap.size w w' := by
  by_cases h : chks r [a, b] = 0
  · have H := Lib.hid h
    obtain ⟨hv, h1, _, _⟩ := chks_two h
    have HV := Lib.hid hv
    have H1 := Lib.hid h1
    have hcn := cnt_le (betw r a b)
    have HL := Lib.hid (cnt_lst (betw r a b))
    clear h hv h1
    go_enter Tryd.func10, Tryd.ntmps10
    go_wp2_with fail
    refine (reaches_below w hT).mono ?_
    rintro e w1 ⟨rfl, hb1⟩
    have hR1 := hR.below hb1
    have hT1 := hT.below hb1
    go_wp2_with fail
    refine (Between_yes p _ c r a b H.out w1 hR1 hT1).mono ?_
    rintro e w2 ⟨rfl, hb2⟩
    have hR2 := hR1.below hb2
    have hT2 := hT1.below hb2
    have hb12 := below_next hb1 hb2
    clear hb1 hb2 hR1 hT1 hR hT
    go_wp2_with fail
    refine (From_yes p _ c r a H1.out w2 hR2 hT2).mono ?_
    rintro e w3 ⟨rfl, hb3⟩
    have hR3 := hR2.below hb3
    have hT3 := hT2.below hb3
    have hb13 := below_next hb12 hb3
    clear hb12 hb3 hR2 hT2
    go_wp2_with fail
    refine (List_ok _ w3 hT3).mono ?_
    rintro e w4 ⟨g, cg, rfl, hown, hb4⟩
    have hR4 := hR3.below hb4
    have hT4 := hT3.below hb4
    have hb14 := below_next hb13 hb4
    have hbl : Below w4.heap.size w4 w4 := Below.refl _ _
    clear hb13 hb4 hR3 hT3
    have HE := Lib.hid (betw_ends (a := a) (b := b) HV.out)
    have HN := Lib.hid (betw_ne (a := a) (b := b) HV.out)
    have HS : Hid (∀ k, k < cnt (betw r a b) → has (betw r a b) ((lst (betw r a b)).getD k 0) = true) := by
      show ∀ k, _
      intro k hk
      have hkl : k < (lst (betw r a b)).length := by rw [← HL.out]; exact hk
      have : (lst (betw r a b)).getD k 0 = (lst (betw r a b))[k] := by simp [hkl]
      rw [this]; exact mem_lst.1 (List.getElem_mem hkl)
    have HO : Hid (∀ k, has (betw r a b) k = true → has (cls r a) k = true ∧ cls r (1#64 <<< k) &&& b ≠ 0#64) := fun k hk => betw_one HV.out hk
    have HI : Hid (∀ k, has (cls r a) k = true → k < r.length) := chks_in (chks_cls H1.out) (by simp)
    generalize betw r a b = s at *
    generalize cls r a = f at *
    go_wp2_with fail
    go_loopw [37] (fun i wr => ∃ k : Nat, k ≤ cnt s ∧ i = .int .i64 k ∧ Below w4.heap.size w4 wr) (fun i _ => cnt s - (intOf i).toNat)
    case atStart => exact ⟨0, Nat.zero_le _, rfl, hbl⟩
    case round =>
      obtain ⟨k, hk, rfl, hbr⟩ := hrel
      by_cases hlt : k < cnt s
      · have hRr := hR4.below hbr
        have hTr := hT4.below hbr
        have hL := Reads.of_own (own_below hown hbr)
        obtain ⟨ad, rfl, _, hc1⟩ := hL.int_at hlt
        have hks := HS.out k hlt
        generalize (lst s).getD k 0 = j at *
        obtain ⟨hf, hz⟩ := HO.out j hks
        have hjr := HI.out j hf
        have hj64 := has_lt hf
        have HJ := Lib.hid (chks_bit HV.out hjr)
        have HF : Hid (hasI f (j : Int) = true) := by show hasI f j = true; unfold hasI; simp [hf]
        have e0 := un_ne0 hz
        clear hz hf hks hL
        go_wp2_with (first | (go_at_call 24; refine (From_yes p _ c r (1#64 <<< j) HJ.out _ hRr hTr).mono ?_; rintro e w5 ⟨rfl, hb5⟩) | (go_at_call 25; refine (has_ok f j _).mono ?_; rw [HF.out]; rintro e w' ⟨rfl, rfl⟩))
        go_roundw
        case rel => exact ⟨k + 1, by omega, by go_num, below_next hbr (by assumption)⟩
        case measure => simp [intOf]; omega
      · obtain rfl : k = cnt s := by omega
        have hbf := below_next hb14 hbr
        clear hR4 hT4 hown hb14 hbr
        have e2 : (un (f &&& b &&& ~~~s) : Int) = 0 := un_zero_int HE.out
        by_cases hs0 : s = 0#64
        · have hz : f &&& b = 0#64 := by
            by_cases h0 : f &&& b = 0#64
            · exact h0
            · exact absurd hs0 (HN.out.2 h0)
          have e3 : (un s : Int) = 0 := un_zero_int hs0
          have e4 : (un (f &&& b) : Int) = 0 := un_zero_int hz
          clear hs0 hz
          go_wp2
          go_ret
          exact ⟨rfl, hbf⟩
        · have hz := HN.out.1 hs0
          have e3 := un_ne0 hs0
          have e4 := un_ne0 hz
          have e5 := un_ne1 hs0
          have e6 := un_ne1 hz
          clear hs0 hz
          go_wp2
          go_ret
          exact ⟨rfl, hbf⟩
  · obtain ⟨h1, h2⟩ := int_ne h
    go_enter Tryd.func10, Tryd.ntmps10
    go_wp2_with fail
    refine (reaches_below w hT).mono ?_
    rintro e w1 ⟨rfl, hb1⟩
    go_wp2_with fail
    refine (Between_no p _ c r a b h w1 (hR.below hb1)).mono ?_
    rintro e w2 ⟨rfl, hb2⟩
    have hb := below_next hb1 hb2
    clear hb1 hb2 hR h
    go_wp2
    go_ret
    exact ⟨rfl, hb⟩
end Go.Proofs.YtofffdjpnfhakaaDoor
