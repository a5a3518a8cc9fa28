/- The walk of the law GraphTurn. Conditions: the graph reads as listed. -/
import Derived.Test.YtcgimnokdicmcaaGraphLawW
import Derived.Test.YtcgimnokdicmcaaTurnW
import Derived.Test.YtcgimnokdicmcaaSameW
import Derived.Test.YtcgimnokdicmcaaUsersG
namespace Go.Proofs.Ytcgimnokdicmcaa
open Go.RowKit Go.Shelf
set_option maxHeartbeats 4000000 in
set_option maxRecDepth 100000 in
theorem graphTurn_walk (v : Value) (g : GD) (a b : Int) (w : World) (h : GrAt w v g) :
    Calls Try.prog 4 #[v, .int .i64 a, .int .i64 b] w fun e w' => e = .returned (.bool true) ∧ Below w.heap.size w w' := by
  have hGr := h
  obtain ⟨p, n, c, q, m, d, rfl, hN, hE⟩ := h.at_
  have hln := hN.at_.len
  have hlm := hE.len
  subst hln hlm
  have hbm := hE.big
  obtain ⟨W, hW⟩ : ∃ W, W = w.alloc (.cells #[.slice p g.names.length c, .slice q g.edges.length d, .int .u64 (un g.phony : Int), .int .u64 (un g.made : Int)] 26) := ⟨_, rfl⟩
  have hBW : Below w.heap.size w W := by rw [hW]; exact (Below.refl _ _).alloc (Nat.le_refl _) _
  have HS : Hid (w.heap.size < W.heap.size) := by show _ < _; rw [hW]; simp
  have HC : Hid (∀ u : World, Below W.heap.size W u → u.cell? ⟨w.heap.size, 0, none⟩ = some (.slice p g.names.length c) ∧ u.cell? ⟨w.heap.size, 1, none⟩ = some (.slice q g.edges.length d) ∧ u.cell? ⟨w.heap.size, 2, none⟩ = some (.int .u64 (un g.phony : Int)) ∧ u.cell? ⟨w.heap.size, 3, none⟩ = some (.int .u64 (un g.made : Int))) := by
    show ∀ u : World, _ → _
    intro u hu
    rw [hu.cell HS.out, hu.cell HS.out, hu.cell HS.out, hu.cell HS.out, hW]
    refine ⟨?_, ?_, ?_, ?_⟩ <;> (rw [World.cell?_alloc_at _ _ _ _ rfl]; rfl)
  have HGr := Lib.hid (hGr.below hBW)
  have HE := Lib.hid (hE.below hBW)
  have HFIN : Hid (∀ u, Below W.heap.size W u → Below w.heap.size w u) := by show ∀ u, _; exact fun u hu => hBW.trans (hu.mono (Nat.le_of_lt HS.out))
  obtain ⟨k0, k1, k2, k3⟩ := HC.out W (Below.refl _ _)
  rw [hW] at k0 k1 k2 k3
  clear hN hE hBW h hGr
  go_enter Try.func4, Try.ntmps4
  go_wp2_with fail
  rw [← hW]
  clear hW k0 k1 k2 k3
  refine (graphs_below W).mono ?_
  rintro e w1 ⟨rfl, hb1⟩
  have HB1 := Lib.hid hb1
  obtain ⟨k0, k1, k2, k3⟩ := HC.out w1 hb1
  clear hb1
  go_wp2_with fail
  refine (Turn_ok _ g _ (HGr.out.below HB1.out)).mono ?_
  rintro e w2 ⟨hcase, hb2⟩
  have HB2 := Lib.hid (HB1.out.trans (hb2.mono HB1.out.size))
  clear hb2 k0 k1 k2 k3
  rcases hcase with ⟨hG, pt, qt, ct, dt, ts, hts, htl, rfl, hon, hoe⟩ | ⟨_, E, hE0, rfl⟩
  · obtain ⟨X, hX⟩ : ∃ X, X = w2.alloc (.cells #[.slice pt g.names.length ct, .slice qt g.edges.length dt, .int .u64 (un g.phony : Int), .int .u64 (un g.made : Int)] 26) := ⟨_, rfl⟩
    have hGt : GrAt w2 (.agg #[.slice pt g.names.length ct, .slice qt g.edges.length dt, .int .u64 (un g.phony : Int), .int .u64 (un g.made : Int)]) ⟨g.names, ts, g.phony, g.made⟩ := grat_own (g := ⟨g.names, ts, g.phony, g.made⟩) (good_turn hG hts) hbm hon hoe
    have hBX : Below w2.heap.size w2 X := by rw [hX]; exact (Below.refl _ _).alloc (Nat.le_refl _) _
    have HSX : Hid (w2.heap.size < X.heap.size) := by show _ < _; rw [hX]; simp
    have HCX : Hid (∀ u : World, Below X.heap.size X u → u.cell? ⟨w2.heap.size, 0, none⟩ = some (.slice pt g.names.length ct) ∧ u.cell? ⟨w2.heap.size, 1, none⟩ = some (.slice qt g.edges.length dt) ∧ u.cell? ⟨w2.heap.size, 2, none⟩ = some (.int .u64 (un g.phony : Int)) ∧ u.cell? ⟨w2.heap.size, 3, none⟩ = some (.int .u64 (un g.made : Int))) := by
      show ∀ u : World, _ → _
      intro u hu
      rw [hu.cell HSX.out, hu.cell HSX.out, hu.cell HSX.out, hu.cell HSX.out, hX]
      refine ⟨?_, ?_, ?_, ?_⟩ <;> (rw [World.cell?_alloc_at _ _ _ _ rfl]; rfl)
    have HGt := Lib.hid (hGt.below hBX)
    have HTO := Lib.hid hts
    have HG := Lib.hid hG
    have HBX : Hid (Below W.heap.size W X) := by show Below _ _ _; exact HB2.out.trans (hBX.mono HB2.out.size)
    obtain ⟨k0, k1, k2, k3⟩ := HCX.out X (Below.refl _ _)
    rw [hX] at k0 k1 k2 k3
    clear hG hts htl hon hoe hGt hBX
    go_wp2_with fail
    rw [← hX]
    clear hX k0 k1 k2 k3
    refine (Turn_ok _ _ X HGt.out).mono ?_
    rintro e w3 ⟨hcase, hb3⟩
    rcases hcase with ⟨_, pu, qu, cu, du, us, hus, hul, rfl, hon, hoe⟩ | ⟨hno, _⟩
    · obtain rfl : us = g.edges := turn_twice HG.out.erise HTO.out hus
      have htl : ts.length = g.edges.length := hul.symm
      obtain ⟨Y, hY⟩ : ∃ Y, Y = w3.alloc (.cells #[.slice pu g.names.length cu, .slice qu ts.length du, .int .u64 (un g.phony : Int), .int .u64 (un g.made : Int)] 26) := ⟨_, rfl⟩
      have hGu : GrAt w3 (.agg #[.slice pu g.names.length cu, .slice qu ts.length du, .int .u64 (un g.phony : Int), .int .u64 (un g.made : Int)]) g := by
        have hoe2 : w3.ownsRow X.heap.size 36 2 (.slice qu ts.length du) ts.length (cells2 eF eG g.edges) := hoe
        rw [htl] at hoe2 ⊢
        exact grat_own (g := g) HG.out hbm hon hoe2
      have hBY : Below w3.heap.size w3 Y := by rw [hY]; exact (Below.refl _ _).alloc (Nat.le_refl _) _
      have HSY : Hid (w3.heap.size < Y.heap.size) := by show _ < _; rw [hY]; simp
      have HXY : Hid (Below X.heap.size X Y) := by show Below _ _ _; exact hb3.trans (hBY.mono hb3.size)
      have HWY : Hid (Below W.heap.size W Y) := by show Below _ _ _; exact HBX.out.trans (HXY.out.mono HBX.out.size)
      have HCY : Hid (∀ u : World, Below Y.heap.size Y u → u.cell? ⟨w3.heap.size, 0, none⟩ = some (.slice pu g.names.length cu) ∧ u.cell? ⟨w3.heap.size, 1, none⟩ = some (.slice qu ts.length du) ∧ u.cell? ⟨w3.heap.size, 2, none⟩ = some (.int .u64 (un g.phony : Int)) ∧ u.cell? ⟨w3.heap.size, 3, none⟩ = some (.int .u64 (un g.made : Int)) ∧
          u.cell? ⟨w2.heap.size, 0, none⟩ = some (.slice pt g.names.length ct) ∧ u.cell? ⟨w2.heap.size, 1, none⟩ = some (.slice qt g.edges.length dt) ∧ u.cell? ⟨w2.heap.size, 2, none⟩ = some (.int .u64 (un g.phony : Int)) ∧ u.cell? ⟨w2.heap.size, 3, none⟩ = some (.int .u64 (un g.made : Int)) ∧
          u.cell? ⟨w.heap.size, 0, none⟩ = some (.slice p g.names.length c) ∧ u.cell? ⟨w.heap.size, 1, none⟩ = some (.slice q g.edges.length d) ∧ u.cell? ⟨w.heap.size, 2, none⟩ = some (.int .u64 (un g.phony : Int)) ∧ u.cell? ⟨w.heap.size, 3, none⟩ = some (.int .u64 (un g.made : Int))) := by
        show ∀ u : World, _ → _
        intro u hu
        obtain ⟨a0, a1, a2, a3⟩ := HCX.out u (HXY.out.trans (hu.mono HXY.out.size))
        obtain ⟨b0, b1, b2, b3⟩ := HC.out u (HWY.out.trans (hu.mono HWY.out.size))
        refine ⟨?_, ?_, ?_, ?_, a0, a1, a2, a3, b0, b1, b2, b3⟩
        all_goals (rw [hu.cell HSY.out, hY, World.cell?_alloc_at _ _ _ _ rfl]; rfl)
      have HSa : Hid (∀ u : World, Below Y.heap.size Y u → Calls Try.prog 10 #[.agg #[.slice pu g.names.length cu, .slice qu ts.length du, .int .u64 (un g.phony : Int), .int .u64 (un g.made : Int)], .agg #[.slice p g.names.length c, .slice q g.edges.length d, .int .u64 (un g.phony : Int), .int .u64 (un g.made : Int)]] u fun e w' => e = .returned (.bool true) ∧ Hid (Below Y.heap.size Y w')) := by
        show ∀ u : World, _
        intro u hu
        refine (sameG_ok _ _ g u ((hGu.below hBY).below hu) (HGr.out.below (HWY.out.trans (hu.mono HWY.out.size)))).mono ?_
        rintro e w' ⟨he, hb⟩
        exact ⟨he, hu.trans (hb.mono hu.size)⟩
      have HCk : Hid (∀ u : World, Below Y.heap.size Y u → Calls Try.prog 11 #[.agg #[.slice pt g.names.length ct, .slice qt g.edges.length dt, .int .u64 (un g.phony : Int), .int .u64 (un g.made : Int)]] u fun e w' => e = .returned (.int .i64 0) ∧ Hid (Below Y.heap.size Y w')) := by
        show ∀ u : World, _
        intro u hu
        refine (CheckG2_ok _ _ u (HGt.out.below (HXY.out.trans (hu.mono HXY.out.size)))).mono ?_
        rintro e w' ⟨⟨E, he, hcase⟩, hb⟩
        rcases hcase with ⟨rfl, _⟩ | ⟨_, hno⟩
        · exact ⟨he, hu.trans (hb.mono hu.size)⟩
        · exact absurd (good_turn HG.out HTO.out) hno
      have HCg : Hid (∀ u : World, Below Y.heap.size Y u → Calls Try.prog 8 #[.slice q g.edges.length d, .agg #[.int .i64 a, .int .i64 b]] u fun e w' => e = .returned (.bool (decide ((a, b) ∈ g.edges))) ∧ Hid (Below Y.heap.size Y w')) := by
        show ∀ u : World, _
        intro u hu
        refine (containsE_ok q _ d g.edges (a, b) u (HE.out.below (HWY.out.trans (hu.mono HWY.out.size)))).mono ?_
        rintro e w' ⟨he, hb⟩
        exact ⟨he, hu.trans (hb.mono hu.size)⟩
      have HCt : Hid (∀ u : World, Below Y.heap.size Y u → Calls Try.prog 8 #[.slice qt g.edges.length dt, .agg #[.int .i64 b, .int .i64 a]] u fun e w' => e = .returned (.bool (decide ((a, b) ∈ g.edges))) ∧ Hid (Below Y.heap.size Y w')) := by
        show ∀ u : World, _
        intro u hu
        obtain ⟨_, _, _, _, _, _, hv, _, hE2⟩ := (HGt.out.below (HXY.out.trans (hu.mono HXY.out.size))).at_
        injection hv with hv
        simp only [Array.mk.injEq, List.cons.injEq, Value.slice.injEq] at hv
        obtain ⟨_, ⟨e1, e2, e3⟩, _⟩ := hv
        subst e1 e2 e3
        refine (containsE_ok _ _ _ ts (b, a) u hE2).mono ?_
        rintro e w' ⟨he, hb⟩
        refine ⟨?_, hu.trans (hb.mono hu.size)⟩
        rw [he, decide_eq_decide.2 (HTO.out.mem (b, a))]
        rfl
      generalize decide ((a, b) ∈ g.edges) = Bv at *
      obtain ⟨j0, j1, j2, j3, _⟩ := HCY.out Y (Below.refl _ _)
      rw [hY] at j0 j1 j2 j3
      clear hus hul hon hoe hGu hBY hb3 htl
      go_upto_region 7 with fail
      rw [← hY]
      clear hY j0 j1 j2 j3
      have HR : Hid (Below Y.heap.size Y Y) := by show Below _ _ _; exact Below.refl _ _
      go_region_held3 (fun u : World => u.cell? ⟨w3.heap.size, 0, none⟩ = some (.slice pu g.names.length cu) ∧ u.cell? ⟨w3.heap.size, 1, none⟩ = some (.slice qu ts.length du) ∧ u.cell? ⟨w3.heap.size, 2, none⟩ = some (.int .u64 (un g.phony : Int)) ∧ u.cell? ⟨w3.heap.size, 3, none⟩ = some (.int .u64 (un g.made : Int)) ∧
          u.cell? ⟨w2.heap.size, 0, none⟩ = some (.slice pt g.names.length ct) ∧ u.cell? ⟨w2.heap.size, 1, none⟩ = some (.slice qt g.edges.length dt) ∧ u.cell? ⟨w2.heap.size, 2, none⟩ = some (.int .u64 (un g.phony : Int)) ∧ u.cell? ⟨w2.heap.size, 3, none⟩ = some (.int .u64 (un g.made : Int)) ∧
          u.cell? ⟨w.heap.size, 0, none⟩ = some (.slice p g.names.length c) ∧ u.cell? ⟨w.heap.size, 1, none⟩ = some (.slice q g.edges.length d) ∧ u.cell? ⟨w.heap.size, 2, none⟩ = some (.int .u64 (un g.phony : Int)) ∧ u.cell? ⟨w.heap.size, 3, none⟩ = some (.int .u64 (un g.made : Int)))
        (first | exact HCY.out _ HC2.out | exact HCY.out _ HC1.out | exact HCY.out _ HBc.out | exact HCY.out _ HA.out | exact HCY.out _ HR.out.drew)
        (first
          | (go_at_call 10; refine (HSa.out _ HR.out.drew).mono ?_; rintro e w4 ⟨rfl, HA⟩)
          | (go_at_call 11; refine (HCk.out _ HA.out).mono ?_; rintro e w5 ⟨rfl, HBc⟩)
          | (go_at_call 8; (first | refine (HCg.out _ HC1.out).mono ?_ | refine (HCt.out _ HC1.out).mono ?_); rintro e w7 ⟨rfl, HC2⟩)
          | (go_at_call 8; (first | refine (HCg.out _ HBc.out).mono ?_ | refine (HCt.out _ HBc.out).mono ?_); rintro e w6 ⟨rfl, HC1⟩))
      all_goals
        go_wp2
        go_ret
        exact ⟨by cases Bv <;> rfl, HFIN.out _ (HWY.out.trans (HC2.out.mono HWY.out.size))⟩
    · exact absurd (good_turn HG.out HTO.out) hno
  · obtain ⟨i1, i2⟩ := int_ne' hE0
    go_wp2_with fail
    refine (sameG_ok _ _ G00 _ (grat_zero _) (grat_zero _)).mono ?_
    rintro e w4 ⟨rfl, hb4⟩
    have HB4 : Hid (Below W.heap.size W w4) := by
      show Below _ _ _
      exact (HB2.out.alloc HB2.out.size _).trans (hb4.mono (by have := HB2.out.size; simp; omega))
    clear hb4
    go_wp2
    go_ret
    exact ⟨rfl, HFIN.out _ HB4.out⟩
end Go.Proofs.Ytcgimnokdicmcaa
