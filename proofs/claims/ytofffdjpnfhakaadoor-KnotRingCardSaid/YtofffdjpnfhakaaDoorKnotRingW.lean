/- The walk through the law KnotRing. Conditions: the table reads as listed. -/
import Derived.Test.YtofffdjpnfhakaaDoorKnotOrderW
namespace Go.Proofs.YtofffdjpnfhakaaDoor
open Go.RowKit
theorem Reads.take {w : World} {b n k : Nat} {p : Option Addr} {xs : List Value} (h : Reads w b 1 p n xs) (hk : k ≤ n) : Reads w b 1 p k (xs.take k) := by
  refine ⟨by rw [List.length_take, h.1]; omega, fun hn => ?_⟩
  obtain ⟨a, e, hb, hc⟩ := h.2 (by omega)
  refine ⟨a, e, hb, fun j u hu => hc j u ?_⟩
  rw [List.getElem?_take] at hu
  split at hu
  · exact hu
  · cases hu
theorem ring_at {r : List B} {l : List Nat} (h : RingIs r l) {k : Nat} (hk : k < l.length) :
    l.getD k 0 < r.length ∧ has (row r (l.getD k 0)) (l.getD ((k + 1) % l.length) 0) = true ∧ isIn (l.take k) (l.getD k 0) = false ∧ (k + 1) % l.length < l.length := by
  have hl := h.link k hk
  refine ⟨row_lt hl, hl, ?_, Nat.mod_lt _ h.ne⟩
  unfold isIn
  rw [decide_eq_false_iff_not]
  intro hc
  obtain ⟨j, hj, he⟩ := List.mem_iff_getElem.1 hc
  rw [List.length_take] at hj
  rw [List.getElem_take] at he
  have := List.pairwise_iff_getElem.1 (List.nodup_iff_pairwise_ne.1 h.nodup) j k (by omega) hk (by omega)
  apply this
  rw [he]; simp [hk]
set_option maxRecDepth 100000 in
set_option maxHeartbeats 2000000 in
theorem knotRing_walk (p : Option Addr) (n c : Nat) (r : List B) (w : World) (hR : RowsAt w p n r) (hT : Tab w) :
    Calls Tryd.prog 8 #[.slice p n c] w fun e w' => e = .returned (.bool true) ∧ Below w.heap.size w w' := by
  have hl := hR.len
  subst hl
  have hbig := hR.big
  unfold maxLen at hbig
  by_cases h : chkR r = 0
  · have H := Lib.hid h
    have HV := Lib.hid (chkR_zero.1 h)
    clear h
    go_enter Tryd.func8, Tryd.ntmps8
    go_wp2_with fail
    refine (knots_below w hT).mono ?_
    rintro e w1 ⟨rfl, hb1⟩
    have hR1 := hR.below hb1
    have hT1 := hT.below hb1
    go_wp2_with fail
    refine (Ring_yes p _ c r H.out w1 hR1 hT1).mono ?_
    rintro e w2 (⟨o, rfl, _, _, hb2⟩ | ⟨o, l, left, q, cq, rfl, _, _, _, hRG, hl64, hlc, hcm, hL, hb2⟩)
    · have hb := below_next hb1 hb2
      clear hb1 hb2 hR hR1
      go_wp2
      go_ret
      exact ⟨rfl, hb⟩
    · have hR2 := hR1.below hb2
      have hb := below_next hb1 hb2
      have h64 := HV.out.1
      have HRG := Lib.hid hRG
      have hne := hRG.ne
      clear hb1 hb2 hR1 hT1 hR hT hRG
      go_wp2_with fail
      go_loop [22] (fun i => ∃ (k : Nat), k ≤ l.length ∧ i = .int .i64 k) (fun i => l.length - (intOf i).toNat)
      case atStart => exact ⟨0, Nat.zero_le _, rfl⟩
      case round =>
        obtain ⟨k, hk, rfl⟩ := hrel
        by_cases hlt : k < l.length
        · obtain ⟨hn, hx, hno, hm⟩ := ring_at HRG.out hlt
          have hml : ((k : Int) + 1) % (l.length : Int) = (((k + 1) % l.length : Nat) : Int) := by simp
          obtain ⟨ad, rfl, _, hc⟩ := hL.int_at hlt
          obtain ⟨ad', had, _, hc2⟩ := hL.int_at hm
          injection had with had
          subst had
          have hT0 := hL.take (k := k) (by omega)
          have hTK : Reads w2 w2.heap.size 1 (some ad) k (ints (l.take k)) := by unfold ints at hT0 ⊢; rw [List.map_take]; exact hT0
          obtain ⟨adr, rfl, _, hcr⟩ := hR2.cell hn
          have hI : Hid (hasI (row r (l.getD k 0)) (l.getD ((k + 1) % l.length) 0 : Int) = true) := by show hasI _ _ = true; unfold hasI; rw [Int.toNat_natCast, hx]; simp
          have HNO := Lib.hid hno
          clear hL hR2 hx hno hT0
          generalize row r (l.getD k 0) = x at *
          generalize l.getD ((k + 1) % l.length) 0 = y at *
          generalize l.getD k 0 = n at *
          generalize (k + 1) % l.length = m at *
          have hn64 : n < 64 := by omega
          go_wp2_with (first | (go_at_call 25; refine (has_ok x y _).mono ?_; rw [hI.out]; rintro e w' ⟨rfl, rfl⟩) | (go_at_call 31; refine (contains_ok (l.take k) n _ _ _ _ _ hTK (by unfold maxLen; omega)).mono ?_; rw [HNO.out]; rintro e w' ⟨rfl, rfl⟩))
          go_round
          case rel => exact ⟨k + 1, by omega, by go_num⟩
          case measure => simp [intOf]; omega
        · obtain rfl : k = l.length := by omega
          clear hL hR2
          go_wp2
          go_ret
          exact ⟨by simp, hb⟩
  · obtain ⟨h1, h2⟩ := int_ne h
    have H := Lib.hid h
    clear h
    go_enter Tryd.func8, Tryd.ntmps8
    go_wp2_with fail
    refine (knots_below w hT).mono ?_
    rintro e w1 ⟨rfl, hb1⟩
    have hR1 := hR.below hb1
    go_wp2_with (go_at_call 30; refine (Ring_no p _ c r H.out w1 hR1).mono ?_; rintro e w' ⟨rfl, rfl⟩)
    go_ret
    exact ⟨by simp, hb1⟩
end Go.Proofs.YtofffdjpnfhakaaDoor
