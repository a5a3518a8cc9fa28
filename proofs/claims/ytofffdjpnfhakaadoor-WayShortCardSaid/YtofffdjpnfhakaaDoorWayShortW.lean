/- The walk through the law WayShort. Conditions: the table reads as listed. -/
import Derived.Test.YtofffdjpnfhakaaDoorWayWalkW
namespace Go.Proofs.YtofffdjpnfhakaaDoor
open Go.RowKit
theorem way_walk {r : List B} {a b : B} (hc : chks r [a, b] = 0) {d : Nat} (h : Dist r a b d) : walkB r a b ((wayL r b (d + 1) a).map fun x : Nat => (x : Int)) = true := by
  have hv := (chks_two hc).1
  have hl : ((wayL r b (d + 1) a).map fun x : Nat => (x : Int)).length = d + 1 := by rw [List.length_map, wayL_len]
  have hg : ∀ j, ((wayL r b (d + 1) a).map fun x : Nat => (x : Int)).getD j 0 = ((wayL r b (d + 1) a).getD j 0 : Nat) := by
    intro j
    rw [List.getD_eq_getElem?_getD, List.getD_eq_getElem?_getD, List.getElem?_map]
    cases (wayL r b (d + 1) a)[j]? <;> rfl
  have : WalkOk r a b ((wayL r b (d + 1) a).map fun x : Nat => (x : Int)) := by
    refine ⟨fun j hj => ?_, by omega, ?_, ?_⟩
    · rw [hl] at hj
      rw [hg, hg]
      have := wayL_lt hc h (j := j) (by omega)
      refine ⟨by omega, by omega, fun hj0 => ?_⟩
      rw [Int.toNat_natCast, Int.toNat_natCast]
      have := wayL_edge hv h (j := j - 1) (by omega)
      rwa [show j - 1 + 1 = j by omega] at this
    · rw [hg, Int.toNat_natCast]; exact wayL_first h
    · rw [hl, hg, Int.toNat_natCast]; exact wayL_last hv h
  unfold walkB
  exact @decide_eq_true _ (Classical.propDecidable _) this
/-- a right walk is a list of numbers, not shorter than the way, and not before it -/
theorem walk_right {r : List B} {a b : B} (hv : Valid r) {d : Nat} (h : Dist r a b d) {zs : List Int} (hw : walkB r a b zs = true) :
    ∃ ys : List Nat, zs = ys.map (fun x : Nat => (x : Int)) ∧ d + 1 ≤ zs.length ∧ (zs.length = d + 1 → wayL r b (d + 1) a = ys ∨ ∃ k, k < d + 1 ∧ (wayL r b (d + 1) a).take k = ys.take k ∧ (wayL r b (d + 1) a).getD k 0 < ys.getD k 0) := by
  have hW : WalkOk r a b zs := by unfold walkB at hw; exact @of_decide_eq_true _ (Classical.propDecidable _) hw
  obtain ⟨h1, h2, h3, h4⟩ := hW
  have hz : zs = (zs.map Int.toNat).map (fun x : Nat => (x : Int)) := by
    rw [List.map_map]
    apply List.ext_getElem (by simp)
    intro i hi _
    have := (h1 i hi).1
    simp [hi] at this
    simp; omega
  have hg : ∀ j, (zs.map Int.toNat).getD j 0 = (zs.getD j 0).toNat := by
    intro j
    rw [List.getD_eq_getElem?_getD, List.getD_eq_getElem?_getD, List.getElem?_map]
    cases zs[j]? <;> rfl
  have hl : (zs.map Int.toNat).length = zs.length := List.length_map _
  have ha : has a ((zs.map Int.toNat).getD 0 0) = true := by rw [hg]; exact h3
  have hb : has b ((zs.map Int.toNat).getD ((zs.map Int.toNat).length - 1) 0) = true := by rw [hl, hg]; exact h4
  have he : ∀ j, j + 1 < (zs.map Int.toNat).length → has (row r ((zs.map Int.toNat).getD j 0)) ((zs.map Int.toNat).getD (j + 1) 0) = true := by
    intro j hj
    rw [hl] at hj
    rw [hg, hg]
    exact (h1 (j + 1) hj).2.2 (by omega)
  refine ⟨zs.map Int.toNat, hz, ?_, fun hlen => wayL_least hv h _ (by rw [hl]; exact hlen) ha he hb⟩
  have hin := walk_in hv (zs.map Int.toNat) (fun e => by rw [e] at hl; simp at hl; omega) he hb
  rw [hl] at hin
  rcases Nat.lt_or_ge (zs.length - 1) d with h5 | h5
  · have := eq_zero_iff.1 (h.before _ h5) ((zs.map Int.toNat).getD 0 0)
    rw [has_and, ha, hin] at this; cases this
  · omega
set_option maxRecDepth 100000 in
set_option maxHeartbeats 2000000 in
theorem wayShort_walk (p p2 : Option Addr) (n c n2 c2 : Nat) (r : List B) (a b : B) (zs : List Int) (w : World) (hR : RowsAt w p n r) (hZ : IntsAt w p2 n2 zs) (hT : Tab w) :
    Calls Tryd.prog 14 #[.slice p n c, .int .u64 (un a), .int .u64 (un b), .slice p2 n2 c2] w fun e w' => e = .returned (.bool true) ∧ Below w.heap.size w w' := by
  have hl := hR.len
  subst hl
  have hB0 := boxes_new w (.slice p r.length c) (.int .u64 (un a : Int)) (.int .u64 (un b : Int)) 36 22 22
  have hb0 : Below w.heap.size w (((w.alloc (.cells #[.slice p r.length c] 36)).alloc (.cells #[.int .u64 (un a : Int)] 22)).alloc (.cells #[.int .u64 (un b : Int)] 22)) :=
    (((Below.refl _ _).alloc (Nat.le_refl _) _).alloc (by simp) _).alloc (by simp; omega) _
  by_cases h : chks r [a, b] = 0
  · have H := Lib.hid h
    have HV := Lib.hid (chks_two h).1
    clear h
    go_enter Tryd.func14, Tryd.ntmps14
    go_wp2_with fail
    refine (ways_below _ (hT.below hb0)).mono ?_
    rintro e w1 ⟨rfl, hb1⟩
    have hb01 := below_next hb0 hb1
    have hR1 := hR.below hb01
    have hT1 := hT.below hb01
    have hZ1 := hZ.below hb01
    have hB1 := hB0.below hb1
    clear hR hT hZ hB0 hb0 hb1
    have hq1 := hB1.r
    have hq2 := hB1.a
    have hq3 := hB1.b
    go_wp2_with fail
    refine (Some_yes p _ c r a b H.out w1 hR1 hT1).mono ?_
    rintro e w2 (⟨d, g, cg, rfl, hd, hd64, hown, hb2⟩ | ⟨rfl, hf, hb2⟩)
    · have hR2 := hR1.below hb2
      have hT2 := hT1.below hb2
      have hZ2 := hZ1.below hb2
      have hB2 := hB1.below hb2
      have hb02 := below_next hb01 hb2
      have HD := Lib.hid hd
      clear hR1 hT1 hb01 hb2 hZ1 hd hB1 hq1 hq2 hq3
      have hq1 := hB2.r
      have hq2 := hB2.a
      have hq3 := hB2.b
      go_wp2_with fail
      refine (Far_yes p _ c r a b H.out w2 hR2 hT2).mono ?_
      rintro e w3 (⟨d2, rfl, hd2, _, hb3⟩ | ⟨rfl, hf, hb3⟩)
      · obtain rfl := dist_uniq hd2 HD.out
        have hR3 := hR2.below hb3
        have hT3 := hT2.below hb3
        have hZ3 := hZ2.below hb3
        have hB3 := hB2.below hb3
        have hown3 := own_below hown hb3
        have hb03 := below_next hb02 hb3
        clear hR2 hT2 hZ2 hB2 hb02 hb3 hown hq1 hq2 hq3 hd2
        have hq1 := hB3.r
        have hq2 := hB3.a
        have hq3 := hB3.b
        have hL := Reads.of_own hown3
        have hZL : IntsAt w3 g (d2 + 1) ((wayL r b (d2 + 1) a).map fun x : Nat => (x : Int)) :=
          ⟨by rw [List.map_map]; exact hL, by rw [List.length_map, wayL_len], by unfold maxLen; omega⟩
        have HT := Lib.hid (way_walk H.out HD.out)
        have HW2 : Hid (walkB r a b zs = true → d2 + 1 ≤ n2) := by
          show _ → _
          intro h
          obtain ⟨_, _, h2, _⟩ := walk_right HV.out HD.out h
          have := hZ3.len
          omega
        clear hown3
        go_wp2_with fail
        refine (walk_ok p g c (d2 + 1) cg w.heap.size r a b _ w3 hR3 hZL hB3).mono ?_
        rw [HT.out]
        rintro e w4 ⟨rfl, k, rfl⟩
        have hq1' : (w3.drewN k).cell? ⟨w.heap.size, 0, none⟩ = some (.slice p r.length c) := hq1
        go_wp2_with fail
        have hB4 : Boxes (w3.drewN k) w.heap.size (.slice p r.length c) (.int .u64 (un a : Int)) (.int .u64 (un b : Int)) := ⟨hB3.r, hB3.a, hB3.b, hB3.lt⟩
        refine (walk_ok p p2 c n2 c2 w.heap.size r a b zs _ (hR3.drewN k) ⟨hZ3.reads, hZ3.len, hZ3.big⟩ hB4).mono ?_
        rintro e w5 ⟨rfl, k2, rfl⟩
        have HBB := Lib.hid (below_draws hb03 (k + k2))
        cases hwz : walkB r a b zs
        · clear hR3 hT3 hZ3 hB3 hB4 hL hZL hb03 hq1 hq2 hq3 hq1'
          go_wp2
          go_ret
          exact ⟨by simp, HBB.out⟩
        · have hn2 := HW2.out hwz
          rcases Nat.lt_or_ge (d2 + 1) n2 with h5 | h5
          · clear hR3 hT3 hZ3 hB3 hB4 hL hZL hb03 hq1 hq2 hq3 hq1'
            go_wp2
            go_ret
            exact ⟨by simp, HBB.out⟩
          · have hne : n2 = d2 + 1 := by omega
            subst hne
            obtain ⟨ys, rfl, _, hcmp⟩ := walk_right HV.out HD.out hwz
            have hcm := hcmp (by have := hZ3.len; simpa using this)
            have hQ : Reads w3 w3.heap.size 1 p2 (d2 + 1) (ints ys) := by have := hZ3.reads; rw [List.map_map] at this; exact this
            clear hR3 hT3 hZ3 hB3 hB4 hZL hb03 hq1 hq2 hq3 hq1' hcmp hwz
            go_wp2_with fail
            refine (compare_ok _ ys g p2 (d2 + 1) cg c2 _ _ _ (hL.drewN (k + k2)) (hQ.drewN (k + k2)) (by omega) hcm).mono ?_
            rintro e w6 ⟨z, rfl, hz, rfl⟩
            go_wp2
            go_ret
            exact ⟨by simp, HBB.out⟩
      · exact absurd (hf d) HD.out.at_
    · have hR2 := hR1.below hb2
      have hT2 := hT1.below hb2
      have hB2 := hB1.below hb2
      have hb02 := below_next hb01 hb2
      have HF := Lib.hid hf
      clear hR1 hT1 hb01 hb2 hZ1 hB1 hq1 hq2 hq3 hf
      have hq1 := hB2.r
      have hq2 := hB2.a
      have hq3 := hB2.b
      go_wp2_with fail
      refine (Far_yes p _ c r a b H.out w2 hR2 hT2).mono ?_
      rintro e w3 (⟨d2, rfl, hd2, _, hb3⟩ | ⟨rfl, _, hb3⟩)
      · exact absurd (HF.out d2) hd2.at_
      · have hb := below_next hb02 hb3
        clear hR2 hT2 hb02 hb3 hB2
        go_wp2
        go_ret
        exact ⟨rfl, hb⟩
  · obtain ⟨h1, h2⟩ := int_ne h
    have H := Lib.hid h
    clear h
    go_enter Tryd.func14, Tryd.ntmps14
    go_wp2_with fail
    refine (ways_below _ (hT.below hb0)).mono ?_
    rintro e w1 ⟨rfl, hb1⟩
    have hb01 := below_next hb0 hb1
    have hR1 := hR.below hb01
    have hT1 := hT.below hb01
    have hB1 := hB0.below hb1
    clear hR hT hZ hB0 hb0 hb1
    have hq1 := hB1.r
    have hq2 := hB1.a
    have hq3 := hB1.b
    go_wp2_with fail
    refine (Some_no p _ c r a b H.out w1 hR1 hT1).mono ?_
    rintro e w2 ⟨rfl, hb2⟩
    have hR2 := hR1.below hb2
    have hT2 := hT1.below hb2
    have hB2 := hB1.below hb2
    have hb02 := below_next hb01 hb2
    clear hR1 hT1 hb01 hb2 hB1 hq1 hq2 hq3
    have hq1 := hB2.r
    have hq2 := hB2.a
    have hq3 := hB2.b
    go_wp2_with fail
    refine (Far_no p _ c r a b H.out w2 hR2 hT2).mono ?_
    rintro e w3 ⟨rfl, hb3⟩
    have hb := below_next hb02 hb3
    clear hR2 hT2 hb02 hb3 hB2
    go_wp2
    go_ret
    exact ⟨by simp, hb⟩
end Go.Proofs.YtofffdjpnfhakaaDoor
