/- The walk through the law KnotOrder. Conditions: the table reads as listed. -/
import Derived.Test.YtofffdjpnfhakaaDoorRingW
import Derived.Test.YtofffdjpnfhakaaDoorReachLeastW
namespace Go.Proofs.YtofffdjpnfhakaaDoor
open Go.RowKit
theorem Ring_no (p : Option Addr) (n c : Nat) (r : List B) (h : chkR r ≠ 0) (w : World) (hR : RowsAt w p n r) :
    Calls Tryd.prog 30 #[.slice p n c] w fun e w' => e = .returned (.tuple #[.slice none 0 0, .int .i64 (chkR r)]) ∧ w = w' := by
  obtain ⟨h1, h2⟩ := int_ne h
  clear h
  go_enter Tryd.func30, Tryd.ntmps30
  go_wp2_with (go_at_call 49; refine (Check_ok _ _ _ r _ hR).mono ?_; rintro e w' ⟨rfl, rfl⟩)
  go_ret2
  exact ⟨rfl, rfl⟩
theorem kord_at {r : List B} {o : List Nat} {left : B} (h : KOrd r o left) {k : Nat} (hk : k < o.length) {hv : B} (hh : ∀ m, has hv m = true ↔ m ∈ o.take k) :
    o.getD k 0 < r.length ∧ has hv (o.getD k 0) = false ∧ row r (o.getD k 0) &&& ~~~hv = 0#64 := by
  have e : o.getD k 0 = o[k] := by simp [hk]
  rw [e]
  refine ⟨h.lt _ (List.getElem_mem hk), ?_, andNot_zero fun m hm => (hh m).2 (h.needs k hk m hm)⟩
  cases hc : has hv o[k]
  · rfl
  · have h1 := (hh _).1 hc
    obtain ⟨j, hj, he⟩ := List.mem_iff_getElem.1 h1
    rw [List.length_take] at hj
    rw [List.getElem_take] at he
    have := (List.nodup_iff_pairwise_ne.1 h.nodup)
    have := List.pairwise_iff_getElem.1 this j k (by omega) hk (by omega)
    exact absurd he this
theorem kord_more {o : List Nat} {k : Nat} (hk : k < o.length) {hv : B} (h64 : o.getD k 0 < 64) (hh : ∀ m, has hv m = true ↔ m ∈ o.take k) :
    ∀ m, has (hv ||| 1#64 <<< (o.getD k 0)) m = true ↔ m ∈ o.take (k + 1) := by
  have e : o.getD k 0 = o[k] := by simp [hk]
  rw [e] at h64 ⊢
  intro m
  rw [has_or, Bool.or_eq_true, List.take_succ_eq_append_getElem hk, List.mem_append, hh m]
  have : has (1#64 <<< o[k]) m = true ↔ m ∈ [o[k]] := by
    rcases Nat.lt_or_ge m 64 with h1 | h1
    · rw [has_one _ _ h1]; simp
    · rw [has_ge h1]; simp; omega
  rw [this]
set_option maxRecDepth 100000 in
set_option maxHeartbeats 2000000 in
theorem knotOrder_walk (p : Option Addr) (n c : Nat) (r : List B) (w : World) (hR : RowsAt w p n r) (hT : Tab w) :
    Calls Tryd.prog 7 #[.slice p n c] w fun e w' => e = .returned (.bool true) ∧ Below w.heap.size w w' := by
  have hl := hR.len
  subst hl
  have hbig := hR.big
  unfold maxLen at hbig
  by_cases h : chkR r = 0
  · have H := Lib.hid h
    have HV := Lib.hid (chkR_zero.1 h)
    clear h
    go_enter Tryd.func7, Tryd.ntmps7
    go_wp2_with fail
    refine (knots_below w hT).mono ?_
    rintro e w1 ⟨rfl, hb1⟩
    have hR1 := hR.below hb1
    have hT1 := hT.below hb1
    go_wp2_with fail
    refine (Order_yes p _ c r H.out w1 hR1 hT1).mono ?_
    rintro e w2 (⟨o, g, cg, rfl, hO, hS, hown, hb2⟩ | ⟨o, left, rfl, hne, hO, hS, hb2⟩)
    · have hR2 := hR1.below hb2
      have hT2 := hT1.below hb2
      have hb12 := below_next hb1 hb2
      have HO := Lib.hid hO
      have HS := Lib.hid hS
      clear hb1 hb2 hR1 hT1 hR hT hO hS
      go_wp2_with fail
      refine (Ring_yes p _ c r H.out w2 hR2 hT2).mono ?_
      rintro e w3 (⟨o2, rfl, hO2, hS2, hb3⟩ | ⟨o2, l, left2, p2, c2, rfl, hne, hO2, hS2, _, _, _, _, _, hb3⟩)
      · have hR3 := hR2.below hb3
        have hown3 := own_below hown hb3
        have hL := Reads.of_own hown3
        have hb := below_next hb12 hb3
        have HLN := Lib.hid (kord_all HO.out)
        have ho64 := kord_len HV.out HO.out
        have h64 := HV.out.1
        clear hb3 hb12 hown hown3 hR2 hT2 hO2 hS2
        go_wp2_with fail
        go_loop [7, 36] (fun x i => ∃ (k : Nat) (hv : B), k ≤ o.length ∧ x = .int .u64 (un hv) ∧ i = .int .i64 k ∧ Hid (∀ m, has hv m = true ↔ m ∈ o.take k)) (fun _ i => o.length - (intOf i).toNat)
        case atStart => exact ⟨0, 0#64, Nat.zero_le _, rfl, rfl, show ∀ m, _ from fun m => by rw [has_zero]; simp⟩
        case round =>
          obtain ⟨k, hv, hk, rfl, rfl, HH⟩ := hrel
          by_cases hlt : k < o.length
          · obtain ⟨ad, rfl, _, hc⟩ := hL.int_at hlt
            obtain ⟨hn, hno, hz⟩ := kord_at HO.out hlt HH.out
            have HM := Lib.hid (kord_more hlt (by omega) HH.out)
            obtain ⟨adr, rfl, _, hcr⟩ := hR3.cell hn
            have hI : Hid (hasI hv (o.getD k 0 : Int) = false) := by show hasI hv _ = false; unfold hasI; rw [Int.toNat_natCast, hno]; simp
            have e0 : (un (row r (o.getD k 0) &&& ~~~hv) : Int) = 0 := un_zero_int hz
            clear hL hR3 hz hno
            generalize row r (o.getD k 0) = x at *
            generalize o.getD k 0 = n at *
            have hn64 : n < 64 := by omega
            go_wp2_with (go_at_call 25; refine (has_ok hv n _).mono ?_; rw [hI.out]; rintro e w' ⟨rfl, rfl⟩)
            go_round
            case rel => exact ⟨k + 1, _, by omega, rfl, by go_num, HM.out⟩
            case measure => simp [intOf]; omega
          · obtain rfl : k = o.length := by omega
            have HE := HLN.out
            clear hL hR3
            go_wp2
            go_ret
            exact ⟨by simp, hb⟩
      · exact absurd ((stuck_zero_iff HO.out HS.out hO2 hS2).1 rfl) hne
    · have hR2 := hR1.below hb2
      have hT2 := hT1.below hb2
      have hb12 := below_next hb1 hb2
      clear hb1 hb2 hR1 hT1 hR hT
      go_wp2_with fail
      refine (Ring_yes p _ c r H.out w2 hR2 hT2).mono ?_
      rintro e w3 (⟨o2, rfl, hO2, hS2, hb3⟩ | ⟨o2, l, left2, p2, c2, rfl, _, _, _, _, _, _, _, _, hb3⟩)
      · exact absurd ((stuck_zero_iff hO hS hO2 hS2).2 rfl) hne
      · have hb := below_next hb12 hb3
        clear hb12 hb3 hR2 hT2 hO hS
        go_wp2
        go_ret
        exact ⟨rfl, hb⟩
  · have hv8 : (chkR r == 8) = false := by
      unfold chkR chkN; split
      · rfl
      · split <;> rfl
    obtain ⟨h1, h2⟩ := int_ne h
    have H := Lib.hid h
    clear h
    go_enter Tryd.func7, Tryd.ntmps7
    go_wp2_with fail
    refine (knots_below w hT).mono ?_
    rintro e w1 ⟨rfl, hb1⟩
    have hR1 := hR.below hb1
    go_wp2_with (first | (go_at_call 29; refine (Order_no p _ c r H.out w1 hR1).mono ?_; rintro e w' ⟨rfl, rfl⟩) | (go_at_call 30; refine (Ring_no p _ c r H.out w1 hR1).mono ?_; rintro e w' ⟨rfl, rfl⟩))
    go_ret
    exact ⟨by simp_all, hb1⟩
end Go.Proofs.YtofffdjpnfhakaaDoor
