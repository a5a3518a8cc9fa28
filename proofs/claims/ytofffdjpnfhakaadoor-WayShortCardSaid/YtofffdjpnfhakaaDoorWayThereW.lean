/- The walks through the fact ways and the law WayThere. Conditions: the table reads as listed. -/
import Derived.Test.YtofffdjpnfhakaaDoorWaySomeW
namespace Go.Proofs.YtofffdjpnfhakaaDoor
open Go.RowKit
theorem ways_dist {d : Nat} (h : Dist [2#64, 0#64] 1#64 2#64 d) : d = 1 := by
  have h0 : 1#64 &&& DD [2#64, 0#64] 2#64 0 = 0#64 := by decide +kernel
  have h1 : 1#64 &&& DD [2#64, 0#64] 2#64 1 ≠ 0#64 := by decide +kernel
  rcases Nat.lt_or_ge d 1 with h2 | h2
  · have : d = 0 := by omega
    subst this
    exact absurd h0 h.at_
  · rcases Nat.lt_or_ge 1 d with h3 | h3
    · exact absurd (h.before 1 h3) h1
    · omega
theorem ways_below (w : World) (hT : Tab w) : Calls Tryd.prog 35 #[] w fun e w' => e = .returned (.bool true) ∧ Below w.heap.size w w' := by
  have hb1 : Below w.heap.size w (w.alloc (.cells #[.int .u64 2, .int .u64 0] 22)) := (Below.refl _ _).alloc (Nat.le_refl _) _
  have h0 : chks [2#64, 0#64] [1#64, 2#64] = 0 := by decide +kernel
  have hR := rows_two w 2#64 0#64
  go_enter Tryd.func35, Tryd.ntmps35
  go_wp2_with fail
  refine (Far_yes _ _ _ [2#64, 0#64] 1#64 2#64 h0 _ hR (hT.below hb1)).mono ?_
  rintro e w1 (⟨d, rfl, hd, _, hb⟩ | ⟨rfl, hf, hb⟩)
  · obtain rfl := ways_dist hd
    clear h0 hR hd
    go_wp2
    go_ret
    exact ⟨rfl, below_next hb1 hb⟩
  · exact absurd (hf 1) (by decide +kernel)
theorem wayL_get {r : List B} {b : B} {d : Nat} {a : B} {x : Nat} (h : x ∈ wayL r b (d + 1) a) : ∃ j, j ≤ d ∧ (wayL r b (d + 1) a).getD j 0 = x := by
  obtain ⟨j, hj, he⟩ := List.mem_iff_getElem.1 h
  have hl := wayL_len r b (d + 1) a
  exact ⟨j, by omega, by rw [← he]; simp [hj]⟩
theorem wayL_nodup {r : List B} (hv : Valid r) {a b : B} {d : Nat} (h : Dist r a b d) : (wayL r b (d + 1) a).Nodup := by
  rw [List.nodup_iff_pairwise_ne, List.pairwise_iff_getElem]
  intro i j hi hj hij
  have hl := wayL_len r b (d + 1) a
  have := wayL_ne hv h hij (by omega)
  simpa [hi, hj] using this
theorem cnt_ofL {l : List Nat} (hn : l.Nodup) (h64 : ∀ x ∈ l, x < 64) : cnt (ofL l) = l.length := by
  rw [cnt_lst]
  have hm : ∀ x, x ∈ lst (ofL l) ↔ x ∈ l := by
    intro x
    rw [mem_lst]
    rcases Nat.lt_or_ge x 64 with h1 | h1
    · rw [has_ofL l x h1]; simp
    · rw [has_ge h1]
      exact ⟨(fun h => by cases h), fun h => absurd (h64 x h) (by omega)⟩
  have hd : (lst (ofL l)).Nodup := (lst_sorted _).imp (fun h => by omega)
  have h1 := List.Nodup.length_le_of_subset hd (fun x hx => (hm x).1 hx)
  have h2 := List.Nodup.length_le_of_subset hn (fun x hx => (hm x).2 hx)
  omega
set_option maxRecDepth 100000 in
set_option maxHeartbeats 2000000 in
theorem wayThere_walk (p : Option Addr) (n c : Nat) (r : List B) (a b : B) (w : World) (hR : RowsAt w p n r) (hT : Tab w) :
    Calls Tryd.prog 13 #[.slice p n c, .int .u64 (un a), .int .u64 (un b)] w fun e w' => e = .returned (.bool true) ∧ Below w.heap.size w w' := by
  have hl := hR.len
  subst hl
  by_cases h : chks r [a, b] = 0
  · have H := Lib.hid h
    have HV := Lib.hid (chks_two h).1
    clear h
    go_enter Tryd.func13, Tryd.ntmps13
    go_wp2_with fail
    refine (ways_below w hT).mono ?_
    rintro e w1 ⟨rfl, hb1⟩
    have hR1 := hR.below hb1
    have hT1 := hT.below hb1
    clear hR hT
    go_wp2_with fail
    refine (Some_yes p _ c r a b H.out w1 hR1 hT1).mono ?_
    rintro e w2 (⟨d, g, cg, rfl, hd, hd64, hown, hb2⟩ | ⟨rfl, hf, hb2⟩)
    · have hR2 := hR1.below hb2
      have hT2 := hT1.below hb2
      have hb12 := below_next hb1 hb2
      have HD := Lib.hid hd
      clear hR1 hT1 hb1 hb2 hd
      go_wp2_with fail
      refine (Between_yes p _ c r a b H.out w2 hR2 hT2).mono ?_
      rintro e w3 ⟨rfl, hb3⟩
      have hown3 := own_below hown hb3
      have hL := Reads.of_own hown3
      have hT3 := hT2.below hb3
      have HBB := Lib.hid (below_next hb12 hb3)
      have hlt : ∀ x ∈ wayL r b (d + 1) a, x < 64 := by
        intro x hx
        obtain ⟨j, hj, rfl⟩ := wayL_get hx
        exact has_lt (wayL_betw HV.out HD.out hj)
      have hz : ofL (wayL r b (d + 1) a) &&& ~~~betw r a b = 0#64 := andNot_zero fun k hk => by
        rw [has_ofL _ _ (has_lt hk), decide_eq_true_eq] at hk
        obtain ⟨j, hj, rfl⟩ := wayL_get hk
        exact wayL_betw HV.out HD.out hj
      have hne : ofL (wayL r b (d + 1) a) ≠ 0#64 := by
        intro h0
        have hm : (wayL r b (d + 1) a).getD 0 0 ∈ wayL r b (d + 1) a := by
          have : 0 < (wayL r b (d + 1) a).length := by rw [wayL_len]; omega
          have e : (wayL r b (d + 1) a).getD 0 0 = (wayL r b (d + 1) a)[0] := by rw [List.getD_eq_getElem?_getD, List.getElem?_eq_getElem this]; rfl
          rw [e]; exact List.getElem_mem this
        have := eq_zero_iff.1 h0 ((wayL r b (d + 1) a).getD 0 0)
        rw [has_ofL _ _ (hlt _ hm)] at this
        simp [-List.getD_eq_getElem?_getD] at this
        exact this hm
      have HCN : Hid ((cnt (ofL (wayL r b (d + 1) a)) : Int) = (d : Int) + 1) := by
        show _ = _
        rw [cnt_ofL (wayL_nodup HV.out HD.out) hlt, wayL_len]; rfl
      have e0 : (un (ofL (wayL r b (d + 1) a) &&& ~~~betw r a b) : Int) = 0 := un_zero_int hz
      have e1 := un_ne0 hne
      have e2 := un_ne1 hne
      have HLT := Lib.hid hlt
      clear hz hne hlt hown hown3 hb12 hb3 hR2 hT2
      generalize wayL r b (d + 1) a = l at *
      generalize betw r a b = s at *
      go_wp2_with (first | (go_at_call 21; refine (of_ok l HLT.out _ _ _ _ _ hL (by unfold maxLen; omega)).mono ?_; rintro e w' ⟨rfl, rfl⟩) | (go_at_call 17; refine (count_ok _ _).mono ?_; rw [HCN.out]; rintro e w' ⟨rfl, rfl⟩))
      go_ret
      exact ⟨by simp, HBB.out⟩
    · have hR2 := hR1.below hb2
      have hT2 := hT1.below hb2
      have hb12 := below_next hb1 hb2
      have h0 : (un (betw r a b) : Int) = 0 := un_zero_int ((far_none HV.out).1 hf)
      clear hR1 hT1 hb1 hb2 hf
      go_wp2_with fail
      refine (Between_yes p _ c r a b H.out w2 hR2 hT2).mono ?_
      rintro e w3 ⟨rfl, hb3⟩
      rw [h0]
      have HBB := Lib.hid (below_next hb12 hb3)
      clear hR2 hT2 hb12 hb3
      go_wp2
      go_ret
      exact ⟨rfl, HBB.out⟩
  · obtain ⟨h1, h2⟩ := int_ne h
    have H := Lib.hid h
    clear h
    go_enter Tryd.func13, Tryd.ntmps13
    go_wp2_with fail
    refine (ways_below w hT).mono ?_
    rintro e w1 ⟨rfl, hb1⟩
    have hR1 := hR.below hb1
    have hT1 := hT.below hb1
    clear hR hT
    go_wp2_with fail
    refine (Some_no p _ c r a b H.out w1 hR1 hT1).mono ?_
    rintro e w2 ⟨rfl, hb2⟩
    have hR2 := hR1.below hb2
    have hb12 := below_next hb1 hb2
    clear hR1 hT1 hb1 hb2
    go_wp2_with fail
    refine (Between_no p _ c r a b H.out w2 hR2).mono ?_
    rintro e w3 ⟨rfl, hb3⟩
    have HBB := Lib.hid (below_next hb12 hb3)
    clear hR2 hb12 hb3
    go_wp2
    go_ret
    exact ⟨by simp, HBB.out⟩
end Go.Proofs.YtofffdjpnfhakaaDoor
