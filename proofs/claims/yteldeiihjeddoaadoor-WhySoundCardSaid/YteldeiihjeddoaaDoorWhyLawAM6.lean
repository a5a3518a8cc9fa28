/- Texts joined: UsersW, WhyLawW, WhyHoldW, WhyLaws1W, WhyLaws2W. Conditions: theirs. -/
import Derived.Test.YteldeiihjeddoaaDoorWhyLawAM3
import Derived.Test.YteldeiihjeddoaaDoorWhyLawAM5
import Derived.Test.YteldeiihjeddoaaDoorWhyLawAM4
import Derived.Test.YteldeiihjeddoaaDoorGoodW
namespace Go.Proofs.YteldeiihjeddoaaDoor
open Go.RowKit Go.Shelf
theorem box2_heap {w : World} {b : Nat} {t : TypeId} {v0 v1 : Value} (h : w.heap[b]? = some (.cells #[v0, v1] t (0, 0))) :
    w.cell? ⟨b, 0, none⟩ = some v0 ∧ w.cell? ⟨b, 1, none⟩ = some v1 ∧ ∀ o, w.frozen? ⟨b, o, none⟩ = false := by
  refine ⟨?_, ?_, fun o => ?_⟩
  all_goals simp [World.cell?, World.frozen?, h]
theorem box2_set1 {w : World} {b : Nat} {t : TypeId} {v0 v1 : Value} (h : w.heap[b]? = some (.cells #[v0, v1] t (0, 0))) (u : Value) :
    (w.setCell ⟨b, 1, none⟩ u).heap[b]? = some (.cells #[v0, u] t (0, 0)) := by
  rw [Go.Sort.setCell_eq]
  simp [Go.Sort.mapBlock, Go.Sort.onCells, Array.getElem?_modify, h]
/-- the blocks in which a call has laid its graph and what is seen of it -/
theorem args2_heap (w : World) (v0 v1 v2 v3 v4 v5 : Value) (u : World)
    (hu : Below (w.heap.size + 2) ((w.alloc (.cells #[v0, v1, v2, v3] 26)).alloc (.cells #[v4, v5] 29)) u) :
    u.heap[w.heap.size]? = some (.cells #[v0, v1, v2, v3] 26 (0, 0)) ∧ u.heap[w.heap.size + 1]? = some (.cells #[v4, v5] 29 (0, 0)) := by
  rw [hu.block _ (by omega), hu.block _ (by omega)]
  exact ⟨by rw [hao _ _ _ (by simp), han], han2 _ _ _⟩
set_option maxHeartbeats 1000000 in
theorem SCheckE_ok (v u : Value) (g : GD) (x : SD) (w : World) (h : GrAt w v g) (hx : SnAt w u x) (hT : Tab w) :
    Calls Tryd.prog 20 #[v, u] w fun e w' => (∃ E : Int, e = .returned (.int .i64 E) ∧ ((E = 0 ∧ Fit g x) ∨ (E ≠ 0 ∧ ¬ Fit g x))) ∧ Below w.heap.size w w' := by
  have hGr := h
  have hSn := hx
  obtain ⟨p, n, c, q, m, d, rfl, _, _⟩ := h.at_
  obtain ⟨p2, n2, c2, rfl, _, _, _⟩ := hx.at_
  obtain ⟨W, hW, hBW, hS, hC⟩ := args2 w (.slice p n c) (.slice q m d) (.int .u64 (un g.phony : Int)) (.int .u64 (un g.made : Int)) (.slice p2 n2 c2) (.int .u64 (un x.dirty : Int))
  have HC := Lib.hid hC
  have HCH := Lib.hid (scheck_ok _ _ g x W (hGr.below hBW) (hSn.below hBW) (hT.below hBW))
  have HFIN : Hid (∀ u, Below W.heap.size W u → Below w.heap.size w u) := by show ∀ u, _; exact fun u hu => hBW.trans (hu.mono (by omega))
  obtain ⟨k0, k1, k2, k3, k4, k5⟩ := HC.out W (Below.refl _ _)
  rw [hW] at k0 k1 k2 k3 k4 k5
  clear h hx hGr hSn hT hBW hS hC
  go_enter Tryd.func20, Tryd.ntmps20
  go_wp2_with fail
  rw [← hW]
  clear hW k0 k1 k2 k3 k4 k5
  refine HCH.out.mono ?_
  rintro e w2 ⟨hcase, hb2⟩
  have HB2 := Lib.hid hb2
  clear hb2
  rcases hcase with ⟨hR, pr, qo, cr, co, o, hK, rfl, _, _⟩ | ⟨hnf, E, hE0, rfl⟩
  · have HF : Hid (Fit g x) := ⟨hR, o, hK⟩
    clear hR hK
    generalize o.length = ol at *
    go_wp2
    go_ret
    exact ⟨⟨0, rfl, .inl ⟨rfl, HF.out⟩⟩, HFIN.out _ HB2.out⟩
  · have HNF := Lib.hid hnf
    have HE0 := Lib.hid hE0
    clear hnf hE0
    go_wp2
    go_ret
    exact ⟨⟨E, rfl, .inr ⟨HE0.out, HNF.out⟩⟩, HFIN.out _ HB2.out⟩
theorem fit_dirty {g : GD} {x : SD} {n : Nat} (hF : Fit g x) (hn : n < g.names.length) : Fit g ⟨x.at_, x.dirty ||| 1#64 <<< n⟩ := by
  obtain ⟨hR, ho⟩ := hF
  refine ⟨⟨hR.good, hR.len, hR.range, fun k hk => ?_, hR.there⟩, ho⟩
  have hk' : has (x.dirty ||| 1#64 <<< n) k = true := hk
  rw [has_or, Bool.or_eq_true] at hk'
  rcases hk' with hk' | hk'
  · exact hR.dirty k hk'
  · rw [has_one n k (has_lt hk')] at hk'
    have := of_decide_eq_true hk'
    omega
/-- rows of which k are masked -/
def mkTo (l : List B) (m : B) (k : Nat) : List B := (l.take k).map (fun y => y &&& m) ++ l.drop k
theorem mkTo_len (l : List B) (m : B) (k : Nat) : (mkTo l m k).length = l.length := by
  unfold mkTo
  rw [List.length_append, List.length_map, List.length_take, List.length_drop]; omega
theorem mkTo_at {l : List B} {m : B} {k : Nat} (h : k < l.length) : (mkTo l m k).getD k 0#64 = l.getD k 0#64 := by
  unfold mkTo
  rw [List.getD_eq_getElem?_getD, List.getElem?_append_right (by rw [List.length_map, List.length_take]; omega), List.length_map, List.length_take, List.getElem?_drop]
  rw [List.getD_eq_getElem?_getD]
  congr 2
  omega
theorem mkTo_next {l : List B} {m : B} {k : Nat} (h : k < l.length) : (mkTo l m k).set k (l.getD k 0#64 &&& m) = mkTo l m (k + 1) := by
  have hl : ((l.take k).map fun y => y &&& m).length = k := by rw [List.length_map, List.length_take]; omega
  have hd : l.drop k = l[k] :: l.drop (k + 1) := (List.getElem_cons_drop h).symm
  have hg : l.getD k 0#64 = l[k] := by rw [List.getD_eq_getElem?_getD, List.getElem?_eq_getElem h]; rfl
  unfold mkTo
  rw [List.set_append_right _ _ (by omega), hl, Nat.sub_self, hd, List.set_cons_zero, hg, List.take_succ_eq_append_getElem h, List.map_append, List.append_assoc]
  rfl
theorem mkTo_all (l : List B) (m : B) : mkTo l m l.length = l.map fun y => y &&& m := by
  unfold mkTo
  rw [List.take_length, List.drop_length, List.append_nil]
set_option maxHeartbeats 4000000 in
set_option maxRecDepth 100000 in
theorem staleUsers_walk (v u : Value) (g : GD) (x : SD) (n : Int) (w : World) (h : GrAt w v g) (hx : SnAt w u x) (hT : Tab w) :
    Calls Tryd.prog 5 #[v, u, .int .i64 n] w fun e w' => e = .returned (.bool true) ∧ Below w.heap.size w w' := by
  have hGr := h
  have hSn := hx
  obtain ⟨p, nn, c, q, m, d, rfl, hN, hE⟩ := h.at_
  obtain ⟨p2, n2, c2, rfl, hx1, hx2, hx3⟩ := hx.at_
  have hln := hN.at_.len
  have hlm := hE.len
  subst hln hlm
  have hbn := hN.at_.big
  have hbm := hE.big
  obtain ⟨W, hW, hBW, hS, hC⟩ := args2 w (.slice p g.names.length c) (.slice q g.edges.length d) (.int .u64 (un g.phony : Int)) (.int .u64 (un g.made : Int)) (.slice p2 n2 c2) (.int .u64 (un x.dirty : Int))
  have HC := Lib.hid hC
  have HSZ : Hid (W.heap.size = w.heap.size + 2) := hS
  have HHP : Hid (∀ u : World, Below W.heap.size W u → u.heap[w.heap.size]? = some (.cells #[.slice p g.names.length c, .slice q g.edges.length d, .int .u64 (un g.phony : Int), .int .u64 (un g.made : Int)] 26 (0, 0)) ∧ u.heap[w.heap.size + 1]? = some (.cells #[.slice p2 n2 c2, .int .u64 (un x.dirty : Int)] 29 (0, 0))) := by
    show ∀ u : World, _
    intro u hu
    rw [hS, hW] at hu
    exact args2_heap w _ _ _ _ _ _ u hu
  have HGw := Lib.hid hGr
  have HTw := Lib.hid hT
  have HGr := Lib.hid (hGr.below hBW)
  have HSn := Lib.hid (hSn.below hBW)
  have HT := Lib.hid (hT.below hBW)
  have HX := Lib.hid (And.intro hx1 (And.intro hx2 hx3))
  have HBW := Lib.hid hBW
  have HFIN : Hid (∀ u, Below W.heap.size W u → Below w.heap.size w u) := by show ∀ u, _; exact fun u hu => hBW.trans (hu.mono (by omega))
  obtain ⟨k0, k1, k2, k3, k4, k5⟩ := HC.out W (Below.refl _ _)
  rw [hW] at k0 k1 k2 k3 k4 k5
  clear h hx hGr hSn hT hBW hS hC hx1 hx2 hx3 hN hE
  go_enter Tryd.func5, Tryd.ntmps5
  go_wp2_with fail
  rw [← hW]
  clear hW k0 k1 k2 k3 k4 k5
  refine (stales_below W HT.out).mono ?_
  rintro e w1 ⟨rfl, hb1⟩
  have HB1 := Lib.hid hb1
  obtain ⟨k0, k1, k2, k3, k4, k5⟩ := HC.out w1 hb1
  clear hb1
  go_wp2_with fail
  refine (SCheckE_ok _ _ g x w1 (HGr.out.below HB1.out) (HSn.out.below HB1.out) (HT.out.belowB (Tab.lt HT.out) HB1.out)).mono ?_
  rintro e w2 ⟨⟨E, rfl, hcase⟩, hb2⟩
  have HB2 := Lib.hid (HB1.out.trans (hb2.mono HB1.out.size))
  clear hb2 k0 k1 k2 k3 k4 k5
  obtain ⟨k0, k1, k2, k3, k4, k5⟩ := HC.out w2 HB2.out
  rcases hcase with ⟨rfl, hF⟩ | ⟨hE0, _⟩
  · have HF := Lib.hid hF
    have h64 := hF.1.good.names
    have HG := Lib.hid hF.1.good
    clear hF
    by_cases n0 : n < 0
    · go_wp2
      go_ret
      exact ⟨rfl, HFIN.out _ HB2.out⟩
    by_cases n1 : (g.names.length : Int) ≤ n
    · go_wp2
      go_ret
      exact ⟨rfl, HFIN.out _ HB2.out⟩
    obtain ⟨j, rfl⟩ := Int.eq_ofNat_of_zero_le (show 0 ≤ n by omega)
    have hj : j < g.names.length := by omega
    have HH2 := Lib.hid (HHP.out w2 HB2.out).2
    go_upto_region 5 with fail
    refine wp_region_still_tail 6 (by kernel_rfl) (by kernel_rfl) ?_
    simp only [List.take_succ_cons, List.take_zero, List.drop_succ_cons, List.drop_zero]
    obtain ⟨Z, hZ⟩ : ∃ Z : World, Z = { heap := w2.heap, tape := w2.tape, drawn := w2.drawn + 1, os := w2.os, output := w2.output } := ⟨_, rfl⟩
    have hZb : Below W.heap.size W Z := by rw [hZ]; exact HB2.out.drew
    have HZH : Hid (Z.heap[w.heap.size + 1]? = some (.cells #[.slice p2 n2 c2, .int .u64 (un x.dirty : Int)] 29 (0, 0))) := by show _ = _; rw [hZ]; exact HH2.out
    obtain ⟨d0, d1, d2⟩ := box2_heap HZH.out
    have d3 := d2 1
    rw [← hZ]
    clear hZ d2 k0 k1 k2 k3 k4 k5
    repeat still_step
    refine wpStill_nil ?_
    go_upto_region 6 with fail
    obtain ⟨W5, hW5⟩ : ∃ W5 : World, W5 = Z.setCell ⟨w.heap.size + 1, 1, none⟩ (.int .u64 (un (x.dirty ||| 1#64 <<< j) : Int)) := ⟨_, rfl⟩
    have hBw5 : Below w.heap.size w W5 := by rw [hW5]; exact (HFIN.out _ hZb).setCell (by simp) _
    have HS5 : Hid (w.heap.size + 2 ≤ W5.heap.size) := by
      show _ ≤ _
      have h1 := hZb.size
      have h2 := HSZ.out
      rw [hW5]; simp; omega
    have HH5 : Hid (∀ u : World, Below W5.heap.size W5 u → u.heap[w.heap.size]? = some (.cells #[.slice p g.names.length c, .slice q g.edges.length d, .int .u64 (un g.phony : Int), .int .u64 (un g.made : Int)] 26 (0, 0)) ∧ u.heap[w.heap.size + 1]? = some (.cells #[.slice p2 n2 c2, .int .u64 (un (x.dirty ||| 1#64 <<< j) : Int)] 29 (0, 0))) := by
      show ∀ u : World, _ → _
      intro u hu
      have h2 := HS5.out
      rw [hu.block _ (by omega), hu.block _ (by omega), hW5]
      refine ⟨?_, box2_set1 HZH.out _⟩
      rw [heap_setCell_other _ _ _ _ (by simp)]
      exact (HHP.out Z hZb).1
    have HG5 := Lib.hid (HGw.out.below hBw5)
    have HT5 := Lib.hid (HTw.out.below hBw5)
    have HSn5 : Hid (SnAt W5 (.agg #[.slice p2 n2 c2, .int .u64 (un (x.dirty ||| 1#64 <<< j) : Int)]) ⟨x.at_, x.dirty ||| 1#64 <<< j⟩) := ⟨p2, n2, c2, rfl, HX.out.1, (HX.out.2.1.below hBw5).more hBw5.size, HX.out.2.2⟩
    have HB5 := Lib.hid hBw5
    have HDJ : Hid (has (x.dirty ||| 1#64 <<< j) j = true) := by show _ = _; rw [has_or, has_one j j (by omega), decide_eq_true rfl, Bool.or_true]
    have HF5 := Lib.hid (fit_dirty HF.out hj)
    obtain ⟨hg5, hx5⟩ := HH5.out W5 (Below.refl _ _)
    rw [← hW5]
    clear hW5 hZb d0 d1 d3 hBw5 HHP HB2 HH2 HZH
    generalize x.dirty ||| 1#64 <<< j = dd at *
    obtain ⟨k0, k1, k2, k3, _⟩ := box4 hg5
    obtain ⟨k4, k5, _⟩ := box2_heap hx5
    clear hg5 hx5
    go_wp2_with fail
    refine (Set_ok _ _ g ⟨x.at_, dd⟩ W5 HG5.out HSn5.out HT5.out).mono ?_
    rintro e w6 ⟨hcase, hb6⟩
    have HB6 := Lib.hid hb6
    clear hb6 k0 k1 k2 k3 k4 k5
    rcases hcase with ⟨_, s, o, _, hS, rfl⟩ | ⟨hnf, _⟩
    · have HSt := Lib.hid hS
      clear hS
      obtain ⟨k0, k1, k2, k3, _⟩ := box4 (HH5.out w6 HB6.out).1
      go_wp2_with fail
      refine (Turn_ok _ g w6 (HG5.out.below HB6.out)).mono ?_
      rintro e w7 ⟨hcase, hb7⟩
      have HB7 := Lib.hid (HB6.out.trans (hb7.mono HB6.out.size))
      clear hb7 k0 k1 k2 k3
      rcases hcase with ⟨_, pt, qt, ct, dt, ts, hts, _, rfl, hon, hoe⟩ | ⟨hno, _⟩
      · have hGt : GrAt w7 (.agg #[.slice pt g.names.length ct, .slice qt g.edges.length dt, .int .u64 (un g.phony : Int), .int .u64 (un g.made : Int)]) ⟨g.names, ts, g.phony, g.made⟩ := grat_own (g := ⟨g.names, ts, g.phony, g.made⟩) (good_turn HG.out hts) hbm hon hoe
        have HTO := Lib.hid hts
        obtain ⟨X, hX⟩ : ∃ X, X = w7.alloc (.cells #[.slice pt g.names.length ct, .slice qt g.edges.length dt, .int .u64 (un g.phony : Int), .int .u64 (un g.made : Int)] 26) := ⟨_, rfl⟩
        have hBX : Below w7.heap.size w7 X := by rw [hX]; exact (Below.refl _ _).alloc (Nat.le_refl _) _
        have HGt := Lib.hid (hGt.below hBX)
        have HBX : Hid (Below W5.heap.size W5 X) := by show Below _ _ _; exact HB7.out.trans (hBX.mono HB7.out.size)
        have hxc := box4 (w := X) (b := w7.heap.size) (by rw [hX]; exact han _ _)
        obtain ⟨k0, k1, k2, k3, _⟩ := hxc
        rw [hX] at k0 k1 k2 k3
        clear hts hon hoe hGt hBX
        go_wp2_with fail
        rw [← hX]
        clear hX k0 k1 k2 k3
        refine (Rows2_ok _ _ X HGt.out).mono ?_
        rintro e w8 ⟨hcase, hb8⟩
        have HB8 := Lib.hid (HBX.out.trans (hb8.mono HBX.out.size))
        clear hb8
        rcases hcase with ⟨_, pr, cr, rfl, hown⟩ | ⟨hno, _⟩
        · have hown2 : w8.ownsRow X.heap.size 24 1 (.slice pr g.names.length cr) g.names.length (u64sG (rowsE g.names.length ts)) := hown
          clear hown
          have HOK : Hid (allOk [0, 0, 0] = true) := by show _ = _; rfl
          obtain ⟨b, cap, hv, _, _⟩ := hown2.form (by omega)
          injection hv with e1 _ e3
          subst e1 e3
          have hbX := (hown2.lt b rfl).1
          have HOW := Lib.hid hown2
          clear hown2
          go_wp2_with (go_at_call 18; refine (good3 _ _ _ w8).mono ?_; rw [HOK.out]; rintro e w' ⟨rfl, rfl⟩)
          obtain ⟨w9, hw9⟩ : ∃ w9, w9 = w8.alloc (.cells #[.int .i64 0, .int .i64 0, .int .i64 0] 31) := ⟨_, rfl⟩
          have HO9 : Hid (w9.ownsRow X.heap.size 24 1 (.slice (some ⟨b, 0, none⟩) g.names.length cr) g.names.length (u64sG (mkTo (rowsE g.names.length ts) (g.made ||| g.phony) 0))) := by
            show World.ownsRow _ _ _ _ _ _ _
            rw [hw9]
            have e0 : mkTo (rowsE g.names.length ts) (g.made ||| g.phony) 0 = rowsE g.names.length ts := by unfold mkTo; simp
            rw [e0]
            exact HOW.out.alloc _
          have HB9 : Hid (Below W5.heap.size W5 w9) := by show Below _ _ _; rw [hw9]; exact HB8.out.alloc HB8.out.size _
          rw [← hw9]
          clear hw9 HOW
          go_loopg [63] g.names.length (fun k i wr => ∃ jj : Nat, k + jj = g.names.length ∧ i = .int .i64 jj ∧ Hid (wr.ownsRow X.heap.size 24 1 (.slice (some ⟨b, 0, none⟩) g.names.length cr) g.names.length (u64sG (mkTo (rowsE g.names.length ts) (g.made ||| g.phony) jj))) ∧ Hid (Below W5.heap.size W5 wr))
          case atStart => exact ⟨0, by omega, rfl, HO9, HB9⟩
          case round =>
            obtain ⟨jj, hjj, rfl, HO, HBr⟩ := hrel
            obtain ⟨k0, k1, k2, k3, _⟩ := box4 (HH5.out wr HBr.out).1
            have hrl := rowsE_len g.names.length ts
            by_cases hlt : jj < g.names.length
            · have HSN := Lib.hid (mkTo_next (l := rowsE g.names.length ts) (m := g.made ||| g.phony) (k := jj) (by omega))
              have hat := mkTo_at (l := rowsE g.names.length ts) (m := g.made ||| g.phony) (k := jj) (by omega)
              obtain ⟨cur, hcur⟩ : ∃ cur, cur = mkTo (rowsE g.names.length ts) (g.made ||| g.phony) jj := ⟨_, rfl⟩
              rw [← hcur] at HSN HO hat
              obtain ⟨y, hy⟩ : ∃ y, y = (rowsE g.names.length ts).getD jj 0#64 := ⟨_, rfl⟩
              rw [← hy] at HSN hat
              clear hcur hy hrl
              go_upto_region 14 with fail
              refine wp_region_still_tail 11 (by kernel_rfl) (by kernel_rfl) ?_
              simp only [List.take_succ_cons, List.take_zero, List.drop_succ_cons, List.drop_zero]
              obtain ⟨Z, hZ⟩ : ∃ Z : World, Z = { heap := wr.heap, tape := wr.tape, drawn := wr.drawn + 1, os := wr.os, output := wr.output } := ⟨_, rfl⟩
              have hZo : Z.ownsRow X.heap.size 24 1 (.slice (some ⟨b, 0, none⟩) g.names.length cr) g.names.length (u64sG cur) := by rw [hZ]; exact HO.out
              have hZb : Below W5.heap.size W5 Z := by rw [hZ]; exact HBr.out.drew
              have d2 : Z.cell? ⟨w.heap.size, 2, none⟩ = some (.int .u64 (un g.phony : Int)) := by rw [hZ]; exact k2
              have d3 : Z.cell? ⟨w.heap.size, 3, none⟩ = some (.int .u64 (un g.made : Int)) := by rw [hZ]; exact k3
              have d4 := ownG_at hZo hlt
              rw [hat] at d4
              have hfr := hZo.frozenAt jj
              have hst := hZo.stored jj (.int .u64 (un (y &&& (g.made ||| g.phony)) : Int))
              rw [u64sG_set, HSN.out] at hst
              have HST := Lib.hid hst
              have HZB := Lib.hid hZb
              rw [← hZ]
              clear hZ hZo hZb hst k0 k1 k2 k3 hat
              have hj1 : (jj : Int) < (g.names.length : Int) := by omega
              repeat still_step
              refine wpStill_nil ?_
              go_wp2
              go_roundg (g.names.length - (jj + 1))
              case measure => omega
              case rel => exact ⟨jj + 1, by omega, by go_num, HST.out.1, HZB.out.grown HST.out.2 HZB.out.size (fun q hq => by cases hq; exact Nat.le_trans HBX.out.size hbX)⟩
            · obtain rfl : jj = g.names.length := by omega
              have ho := HO.out
              have e0 : mkTo (rowsE g.names.length ts) (g.made ||| g.phony) g.names.length = upR g ts := by
                unfold upR
                rw [← mkTo_all, rowsE_len]
              rw [e0] at ho
              have hRU := rows_at ho h64
              have hcj : wr.cell? ⟨b, j, none⟩ = some (.int .u64 (un (row (upR g ts) j) : Int)) := ownG_at ho hj
              have HRU := Lib.hid hRU
              have HCK : Hid (chks (upR g ts) [row (upR g ts) j] = 0) := by
                show _ = _
                refine chks_bits (valid_upR HG.out HTO.out) fun u hu q hq => ?_
                have : u = row (upR g ts) j := by simpa using hu
                subst this
                exact (valid_upR HG.out HTO.out).2 j q hq
              have HUS := Lib.hid (users_stale HG.out HTO.out HSt.out HDJ.out)
              have hTr := HT5.out.belowB (Tab.lt HT5.out) HBr.out
              have HTr := Lib.hid hTr
              generalize row (upR g ts) j = y at *
              clear ho e0 hRU hTr k0 k1 k2 k3
              go_wp2_with (go_at_call 23; refine (From_yes _ g.names.length cr (upR g ts) y HCK.out wr HRU.out HTr.out).mono ?_; rintro e w10 ⟨rfl, hb10⟩; have HB10 := Lib.hid (HBr.out.trans (hb10.mono HBr.out.size)); have hzz : ((un (cls (upR g ts) y &&& ~~~s) : Int) == 0) = true := (by rw [HUS.out]; rfl); clear hb10)
              go_ret
              exact ⟨by simp, HB5.out.trans (HB10.out.mono HB5.out.size)⟩
        · exact absurd (good_turn HG.out HTO.out) hno
      · exact absurd HG.out hno
    · exact absurd HF5.out hnf
  · obtain ⟨i1, i2⟩ := int_ne' hE0
    go_wp2
    go_ret
    exact ⟨rfl, HFIN.out _ HB2.out⟩
end Go.Proofs.YteldeiihjeddoaaDoor
namespace Go.Proofs.YteldeiihjeddoaaDoor
open Go.RowKit Go.Shelf
/-- a told reason -/
structure Told (w : World) (g : GD) (x : SD) (n : Int) (a : WE) (t : List WE) : Prop where
  fit : Fit g x
  range : 0 ≤ n ∧ n < g.names.length
  stale : ∀ s, Stale g x s → has s n.toNat = true
  links : WLinks w (a :: t)
  holds : HoldsC g x (a :: t)
  num : a.num = n
  in_ : ∀ b ∈ a :: t, 0 ≤ b.num ∧ b.num < g.names.length
  nodup : (nums (a :: t)).Nodup
/-- what Tell answers -/
def TellWPost (w : World) (g : GD) (x : SD) (n : Int) (e : Ending) (w' : World) : Prop :=
  ((∃ a t, e = .returned (.tuple #[a.v, .int .i64 0]) ∧ Told w' g x n a t) ∨
    (∃ E : Int, E ≠ 0 ∧ e = .returned (.tuple #[.agg #[.int .i64 0, .int .i64 0, .int .i64 0, .slice none 0 0], .int .i64 E]) ∧ (Fit g x → 0 ≤ n → n < g.names.length → E = 5 ∧ ∀ s, Stale g x s → has s n.toNat = false))) ∧ Below w.heap.size w w'
theorem WLinks.mono {w w' : World} {m : Nat} (hb : Below m w w') : ∀ {l : List WE}, WLinks w l → (∀ b ∈ l, ∀ ad, b.p = some ad → ad.block < m) → WLinks w' l
  | [], h, _ => h
  | [_], h, _ => h
  | a :: b :: t, ⟨h1, ⟨k, o, h2, h3, h4⟩, h5⟩, hm => by
    have hk : k < m := hm a List.mem_cons_self ⟨k, o, none⟩ h2
    exact ⟨h1, ⟨k, o, h2, Nat.lt_of_lt_of_le h3 hb.size, ⟨(hb.cell hk).trans h4.1, (hb.cell hk).trans h4.2.1, (hb.cell hk).trans h4.2.2.1, (hb.cell hk).trans h4.2.2.2⟩⟩, WLinks.mono hb h5 fun c hc => hm c (List.mem_cons_of_mem _ hc)⟩
theorem told_of {w6 w' : World} {g : GD} {x : SD} {s : B} {o : List Nat} {i n rb : Nat} (hR : Right g x) (hK : KOrd (rws g) o 0#64) (hS : Stale g x s) (hn : has s n = true) (hnl : n < g.names.length)
    {a : WE} {t : List WE} (hw : WLinks w6 (a :: t)) (hh : HoldsC g x (a :: t)) (ha : a.num = (n : Int)) (hm : ∀ b ∈ a :: t, 0 ≤ b.num ∧ b.num.toNat ∈ o.take (i + 1)) (hnd : (nums (a :: t)).Nodup)
    (hp : ∀ b ∈ a :: t, ∀ ad, b.p = some ad → ad.block ≠ rb) (hg : w6.grownBy w' (some rb)) : Told w' g x (n : Int) a t := by
  refine ⟨⟨hR, o, hK⟩, ⟨by omega, by omega⟩, fun s2 h2 => ?_, links_set hg hw hp, hh, ha, fun b hb => ?_, hnd⟩
  · rw [stale_one hK h2 hS]; simpa using hn
  · have h1 := hm b hb
    have h2 : b.num.toNat ∈ o := List.mem_of_mem_take h1.2
    have h3 := hK.lt _ h2
    rw [rws_len] at h3
    exact ⟨h1.1, by omega⟩
set_option maxHeartbeats 8000000 in
set_option maxRecDepth 100000 in
theorem Tell_ok (gv xv : Value) (g : GD) (x : SD) (n : Int) (w : World) (h : GrAt w gv g) (hx : SnAt w xv x) (hT : Tab w) :
    Calls Tryd.prog 25 #[gv, xv, .int .i64 n] w (TellWPost w g x n) := by
  have hGr := h
  have hSn := hx
  obtain ⟨p, nn, c, q, m, d, rfl, hN, _⟩ := h.at_
  obtain ⟨p2, n2, c2, rfl, _, _, _⟩ := hx.at_
  have hln := hN.at_.len
  subst hln
  obtain ⟨W, hW, hBW, hS, hC⟩ := args3 w (.slice p g.names.length c) (.slice q m d) (.int .u64 (un g.phony : Int)) (.int .u64 (un g.made : Int)) (.slice p2 n2 c2) (.int .u64 (un x.dirty : Int)) (.int .i64 0) (.int .i64 0) (.int .i64 0) (.slice none 0 0)
  have HC := Lib.hid hC
  have HGr := Lib.hid (hGr.below hBW)
  have HSn := Lib.hid (hSn.below hBW)
  have HT := Lib.hid (hT.below hBW)
  have HSZ : Hid (W.heap.size = w.heap.size + 3) := hS
  have HFIN : Hid (∀ u, Below W.heap.size W u → Below w.heap.size w u) := by show ∀ u, _; exact fun u hu => hBW.trans (hu.mono (by omega))
  have HHP : Hid (∀ u : World, Below W.heap.size W u → u.heap[w.heap.size + 1 + 1]? = some (.cells #[.int .i64 0, .int .i64 0, .int .i64 0, .slice none 0 0] 52 (0, 0))) := by
    show ∀ u : World, _
    intro u hu
    rw [hu.block (w.heap.size + 1 + 1) (by omega), hW]
    have e : ((w.alloc (.cells #[.slice p g.names.length c, .slice q m d, .int .u64 (un g.phony : Int), .int .u64 (un g.made : Int)] 26)).alloc (.cells #[.slice p2 n2 c2, .int .u64 (un x.dirty : Int)] 29)).heap.size = w.heap.size + 1 + 1 := by simp
    rw [← e]
    exact han _ _
  obtain ⟨k0, k1, k2, k3, k4, k5, _, _, _, _⟩ := HC.out W (Below.refl _ _)
  rw [hW] at k0 k1 k2 k3 k4 k5
  clear h hx hGr hSn hT hBW hS hC hN
  go_enter Tryd.func25, Tryd.ntmps25
  go_wp2_with fail
  rw [← hW]
  clear hW k0 k1 k2 k3 k4 k5
  refine (Set_ok _ _ g x W HGr.out HSn.out HT.out).mono ?_
  rintro e w2 ⟨hcase, hb2⟩
  have HB2 := Lib.hid hb2
  have HZ2 := Lib.hid (HHP.out w2 hb2)
  obtain ⟨k0, k1, k2, k3, k4, k5, _, _, _, _⟩ := HC.out w2 hb2
  clear hb2
  obtain ⟨z0, z1, z2, z3, z4⟩ := box4 HZ2.out
  have z5 := z4 0
  have z6 := z4 1
  have z7 := z4 2
  have z8 := z4 3
  clear z4
  have HBO : Hid (∀ v0 v1 v2 v3, Below w.heap.size w ((((w2.setCell ⟨w.heap.size + 1 + 1, 0, none⟩ v0).setCell ⟨w.heap.size + 1 + 1, 1, none⟩ v1).setCell ⟨w.heap.size + 1 + 1, 2, none⟩ v2).setCell ⟨w.heap.size + 1 + 1, 3, none⟩ v3)) := by
    show ∀ v0 v1 v2 v3, _
    exact fun v0 v1 v2 v3 => below_set4 (HFIN.out _ HB2.out) (by omega) _ _ _ _
  rcases hcase with ⟨hR, s, o, hK, hs, rfl⟩ | ⟨hno, E, hE0, rfl⟩
  · have HR := Lib.hid hR
    have HK := Lib.hid hK
    have HSt := Lib.hid hs
    have h64 := hR.good.names
    clear hR hK hs
    by_cases n0 : n < 0
    · go_wp2
      refine bodyPost_ret (v := .tuple #[.agg #[.int .i64 0, .int .i64 0, .int .i64 0, .slice none 0 0], .int .i64 4]) (results_ct Tryd.results25 _ _ (w.heap.size + 1 + 1) 52 _ (0, 0) _ _ rfl rfl (box4_all HZ2.out _ _ _ _) Tryd.underlying52 rfl (by kernel_rfl)) rfl ⟨.inr ⟨4, by decide, rfl, fun _ h _ => by omega⟩, HBO.out _ _ _ _⟩
    by_cases n1 : (g.names.length : Int) ≤ n
    · go_wp2
      refine bodyPost_ret (v := .tuple #[.agg #[.int .i64 0, .int .i64 0, .int .i64 0, .slice none 0 0], .int .i64 4]) (results_ct Tryd.results25 _ _ (w.heap.size + 1 + 1) 52 _ (0, 0) _ _ rfl rfl (box4_all HZ2.out _ _ _ _) Tryd.underlying52 rfl (by kernel_rfl)) rfl ⟨.inr ⟨4, by decide, rfl, fun _ _ h => by omega⟩, HBO.out _ _ _ _⟩
    obtain ⟨j, rfl⟩ := Int.eq_ofNat_of_zero_le (show 0 ≤ n by omega)
    have hj : j < g.names.length := by omega
    have hj64 : j < 64 := by omega
    have hmin : min j 64 = j := by omega
    have hbit := bit_zero s j
    cases hh : has s j
    · rw [hh] at hbit
      have HH := Lib.hid hh
      clear hh
      go_wp2
      refine bodyPost_ret (v := .tuple #[.agg #[.int .i64 0, .int .i64 0, .int .i64 0, .slice none 0 0], .int .i64 5]) (results_ct Tryd.results25 _ _ (w.heap.size + 1 + 1) 52 _ (0, 0) _ _ rfl rfl (box4_all HZ2.out _ _ _ _) Tryd.underlying52 rfl (by kernel_rfl)) rfl ⟨.inr ⟨5, by decide, rfl, fun _ _ _ => ⟨rfl, fun s2 h2 => ?_⟩⟩, HBO.out _ _ _ _⟩
      rw [stale_one HK.out h2 HSt.out]
      exact HH.out
    · rw [hh] at hbit
      have HH := Lib.hid hh
      clear hh z0 z1 z2 z3 z5 z6 z7 z8 HBO
      go_wp2_with fail
      refine (Rows2_ok _ g w2 (HGr.out.below HB2.out)).mono ?_
      rintro e w3 ⟨hcase, hb3⟩
      have HB3 := Lib.hid (HB2.out.trans (hb3.mono HB2.out.size))
      clear hb3 k0 k1 k2 k3 k4 k5
      obtain ⟨k0, k1, k2, k3, k4, k5, _, _, _, _⟩ := HC.out w3 HB3.out
      rcases hcase with ⟨_, pr, cr, rfl, hown⟩ | ⟨hno, _⟩
      · have HRA : Hid (RowsAt w3 pr g.names.length (rws g)) := rows_at hown h64
        clear hown hbit
        have hjo : j ∈ o := by
          refine Classical.byContradiction fun hc => ?_
          have := (HK.out.left_iff j).2 ⟨by rw [rws_len]; exact hj, hc⟩
          rw [has_zero] at this
          cases this
        obtain ⟨i, hi, ei⟩ := List.mem_iff_getElem.1 hjo
        have HI : Hid (o[i]? = some j) := by show _ = _; rw [List.getElem?_eq_getElem hi, ei]
        clear hjo hi ei
        have HTl := Lib.hid (tell_ok g x HR.out o HK.out s HSt.out i j HI.out HH.out (.agg #[.slice p g.names.length c, .slice q m d, .int .u64 (un g.phony : Int), .int .u64 (un g.made : Int)]) (.agg #[.slice p2 n2 c2, .int .u64 (un x.dirty : Int)]) pr cr w3 (HGr.out.below HB3.out) (HSn.out.below HB3.out) HRA.out (HT.out.belowB (Tab.lt HT.out) HB3.out))
        go_wp2_with fail
        refine HTl.out.mono ?_
        rintro e w6 ⟨⟨ra, rt, rfl, hrw, hrh, hra, hrm, hrnd, hrp⟩, hb6⟩
        have HRW := Lib.hid (And.intro hrw (And.intro hrh (And.intro hra (And.intro hrm (And.intro hrnd hrp)))))
        have hw6 : Below W.heap.size W w6 := HB3.out.trans (hb6.mono HB3.out.size)
        have HW6 := Lib.hid hw6
        have HZ6 := Lib.hid (HHP.out w6 hw6)
        have HS3 : Hid (W.heap.size ≤ w3.heap.size) := HB3.out.size
        obtain ⟨z0, z1, z2, z3, z4⟩ := box4 HZ6.out
        have z5 := z4 0
        have z6 := z4 1
        have z7 := z4 2
        have z8 := z4 3
        clear z4 hrw hrh hra hrm hrnd hrp hb6 hw6 k0 k1 k2 k3 k4 k5
        unfold WE.v
        go_wp2
        refine bodyPost_ret (v := .tuple #[ra.v, .int .i64 0]) (results_ct Tryd.results25 _ _ (w.heap.size + 1 + 1) 52 _ (0, 0) _ _ rfl rfl (box4_all HZ6.out _ _ _ _) Tryd.underlying52 rfl (by kernel_rfl)) rfl ⟨.inl ⟨ra, rt, rfl, ?_⟩, below_set4 (HFIN.out _ HW6.out) (by omega) _ _ _ _⟩
        obtain ⟨hrw, hrh, hra, hrm, hrnd, hrp⟩ := HRW.out
        exact told_of (rb := w.heap.size + 1 + 1) HR.out HK.out HSt.out HH.out hj hrw hrh hra hrm hrnd (fun b hb ad had => by have := hrp b hb ad had; have := HSZ.out; have := HS3.out; omega) (grown_set4 _ _ _ _ _ _)
      · exact absurd HR.out.good hno
  · obtain ⟨i1, i2⟩ := int_ne' hE0
    have HNF := Lib.hid hno
    have HE0 := Lib.hid hE0
    clear hno hE0
    go_wp2
    refine bodyPost_ret (v := .tuple #[.agg #[.int .i64 0, .int .i64 0, .int .i64 0, .slice none 0 0], .int .i64 E]) (results_ct Tryd.results25 _ _ (w.heap.size + 1 + 1) 52 _ (0, 0) _ _ rfl rfl (box4_all HZ2.out _ _ _ _) Tryd.underlying52 rfl (by kernel_rfl)) rfl ⟨.inr ⟨E, HE0.out, rfl, fun h _ _ => absurd h HNF.out⟩, HBO.out _ _ _ _⟩
end Go.Proofs.YteldeiihjeddoaaDoor
namespace Go.Proofs.YteldeiihjeddoaaDoor
open Go.RowKit Go.Shelf
/-- what Holds answers -/
def HoldsWPost (w : World) (g : GD) (x : SD) (l : List WE) (e : Ending) (w' : World) : Prop :=
  ((Fit g x ∧ ((e = .returned (.tuple #[.bool true, .int .i64 0]) ∧ HoldsC g x l) ∨ (e = .returned (.tuple #[.bool false, .int .i64 0]) ∧ (64 < l.length ∨ ¬ HoldsC g x l)))) ∨
    (¬ Fit g x ∧ ∃ E : Int, E ≠ 0 ∧ e = .returned (.tuple #[.bool false, .int .i64 E]))) ∧ Below w.heap.size w w'
theorem holdsC_ok {g : GD} {x : SD} : ∀ {l : List WE}, HoldsC g x l → l.all WE.ok = true
  | [], _ => rfl
  | a :: t, ⟨h1, _, h3⟩ => by rw [List.all_cons, h1, holdsC_ok h3]; rfl
theorem links_drop {w : World} : ∀ {ds : List WE} {a : WE} {t : List WE}, WLinks w (ds ++ a :: t) → WLinks w (a :: t)
  | [], _, _, h => h
  | [_], _, _, h => h.2.2
  | _ :: c :: ds, _, _, h => links_drop (ds := c :: ds) h.2.2
/-- the link of a reason that leans on another one -/
theorem link_next {w : World} {a : WE} {t : List WE} (h : WLinks w (a :: t)) (hok : a.ok = true) (h5 : a.cause = 5) : ∃ k o, a.p = some ⟨k, o, none⟩ ∧ 0 < a.many ∧ k < w.heap.size ∧ w.cell? ⟨k, o, none⟩ = some (.int .i64 (nextN t)) := by
  obtain ⟨_, _, h3⟩ := ok_cause hok
  rw [if_pos h5] at h3
  cases t with
  | nil =>
    have h0 : a.many = 0 := h
    omega
  | cons b t =>
    obtain ⟨h1, ⟨k, o, h2, h4, hc⟩, _⟩ := h
    exact ⟨k, o, h2, h1, h4, hc.1⟩
set_option maxHeartbeats 8000000 in
set_option maxRecDepth 100000 in
theorem Holds_ok (gv xv : Value) (g : GD) (x : SD) (a : WE) (t : List WE) (w : World) (h : GrAt w gv g) (hx : SnAt w xv x) (hT : Tab w) (hl : WLinks w (a :: t)) :
    Calls Tryd.prog 26 #[gv, xv, a.v] w (HoldsWPost w g x (a :: t)) := by
  have hGr := h
  have hSn := hx
  obtain ⟨p, n, c, q, m, d, rfl, _, _⟩ := h.at_
  obtain ⟨p2, n2, c2, rfl, _, _, _⟩ := hx.at_
  obtain ⟨W, hW, hBW, hS, hC⟩ := args3 w (.slice p n c) (.slice q m d) (.int .u64 (un g.phony : Int)) (.int .u64 (un g.made : Int)) (.slice p2 n2 c2) (.int .u64 (un x.dirty : Int)) (.int .i64 a.num) (.int .i64 a.cause) (.int .i64 a.need) (.slice a.p a.many a.cap)
  have HC := Lib.hid hC
  have HGr := Lib.hid (hGr.below hBW)
  have HSn := Lib.hid (hSn.below hBW)
  have HT := Lib.hid (hT.below hBW)
  have HLk := Lib.hid (hl.below hBW)
  have HFIN : Hid (∀ u, Below W.heap.size W u → Below w.heap.size w u) := by show ∀ u, _; exact fun u hu => hBW.trans (hu.mono (by omega))
  obtain ⟨k0, k1, k2, k3, k4, k5, a0, a1, a2, a3⟩ := HC.out W (Below.refl _ _)
  rw [hW] at k0 k1 k2 k3 k4 k5 a0 a1 a2 a3
  clear h hx hGr hSn hT hBW hS hC hl
  unfold WE.v
  go_enter Tryd.func26, Tryd.ntmps26
  go_wp2_with fail
  rw [← hW]
  clear hW k0 k1 k2 k3 k4 k5 a0 a1 a2 a3
  refine (SCheckE_ok _ _ g x W HGr.out HSn.out HT.out).mono ?_
  rintro e w2 ⟨⟨E, rfl, hcase⟩, hb2⟩
  have HB2 := Lib.hid hb2
  clear hb2
  obtain ⟨k0, k1, k2, k3, k4, k5, a0, a1, a2, a3⟩ := HC.out w2 HB2.out
  rcases hcase with ⟨rfl, hF⟩ | ⟨hE0, hF⟩
  · have HF := Lib.hid hF
    have h64 : g.names.length ≤ 64 := hF.1.good.names
    clear hF
    go_wp2_with fail
    refine (Rows2_ok _ g w2 (HGr.out.below HB2.out)).mono ?_
    rintro e w3 ⟨hcase, hb3⟩
    have HB3 := Lib.hid (HB2.out.trans (hb3.mono HB2.out.size))
    clear hb3 k0 k1 k2 k3 k4 k5 a0 a1 a2 a3
    obtain ⟨k0, k1, k2, k3, k4, k5, a0, a1, a2, a3⟩ := HC.out w3 HB3.out
    rcases hcase with ⟨_, pr, cr, rfl, hown⟩ | ⟨hno, _⟩
    · have HRA : Hid (RowsAt w3 pr g.names.length (rws g)) := rows_at hown h64
      clear hown
      go_wp2_with fail
      refine (row_okW a t w3 (HLk.out.below HB3.out)).mono ?_
      rintro e w4 ⟨hcase, hb4⟩
      have HB34 := Lib.hid hb4
      have HB4 := Lib.hid (HB3.out.trans (hb4.mono HB3.out.size))
      have HRA4 := Lib.hid (HRA.out.below hb4)
      have HL4 := Lib.hid (HLk.out.below HB4.out)
      clear hb4 k0 k1 k2 k3 k4 k5 a0 a1 a2 a3
      rcases hcase with ⟨hlen, pl, cl, rfl, hown⟩ | ⟨hlen, rfl⟩
      · obtain ⟨l, hll⟩ : ∃ l, l = a :: t := ⟨_, rfl⟩
        rw [← hll] at hlen hown HL4 ⊢
        have hlpos : 0 < l.length := by rw [hll]; simp
        have HLL : Hid (a :: t = l) := hll.symm
        clear hll
        cases hall : l.all WE.ok
        · have HNO : Hid (¬ HoldsC g x l) := by show ¬ _; intro hh; rw [holdsC_ok hh] at hall; cases hall
          clear hall hown
          go_wp2
          go_ret2
          exact ⟨.inl ⟨HF.out, .inr ⟨rfl, .inr (by rw [HLL.out]; exact HNO.out)⟩⟩, HFIN.out _ HB4.out⟩
        · have HALL : Hid (∀ b ∈ l, WE.ok b = true) := by show ∀ b ∈ l, _; exact fun b hb => List.all_eq_true.1 hall b hb
          obtain ⟨bl, cap, hv, _, _⟩ := hown.form hlpos
          injection hv with e1 _ e3
          subst e1 e3
          have hbl := (hown.lt bl rfl).2
          have HOW := Lib.hid hown
          clear hall hown
          go_wp2
          go_loopg [37] l.length (fun k i wr => ∃ (ds s : List WE), l = ds ++ s ∧ k = s.length ∧ i = .int .i64 (ds.length : Int) ∧ Hid (HoldsC g x l ↔ HoldsC g x s) ∧ Hid (Below w4.heap.size w4 wr))
          case atStart => exact ⟨[], l, rfl, rfl, rfl, show HoldsC g x l ↔ HoldsC g x l from Iff.rfl, show Below _ _ _ from Below.refl _ _⟩
          case round =>
            obtain ⟨ds, s, hds, hk, rfl, HI, HBr⟩ := hrel
            have HDS := Lib.hid hds
            have HWr : Hid (Below W.heap.size W wr) := by show Below _ _ _; exact HB4.out.trans (HBr.out.mono HB4.out.size)
            obtain ⟨k0, k1, k2, k3, k4, k5, a0, a1, a2, a3⟩ := HC.out wr HWr.out
            cases s with
            | nil =>
              have hln : (l.length : Int) ≤ (ds.length : Int) := by rw [hds]; simp
              clear hds
              go_wp2
              go_ret2
              exact ⟨.inl ⟨HF.out, .inl ⟨rfl, by rw [HLL.out]; exact HI.out.2 trivial⟩⟩, HFIN.out _ HWr.out⟩
            | cons b s =>
              have hln : (ds.length : Int) < (l.length : Int) := by rw [hds]; simp; omega
              have hat : l[ds.length]? = some b := by rw [hds]; simp
              obtain ⟨c0, c1, c2', c3⟩ := cellsW_at hat
              have hcell : ∀ j u, (cellsW l)[j]? = some u → wr.cell? ⟨bl, j, none⟩ = some u := by
                intro j u hu
                have h1 := HOW.out.cells (g := bl) rfl j u hu
                rw [add_plain4, Nat.zero_add] at h1
                exact (HBr.out.cell hbl).trans h1
              have d0 := hcell _ _ c0
              have d1 := hcell _ _ c1
              have d2 := hcell _ _ c2'
              have d3 := hcell _ _ c3
              have hbok : b.ok = true := HALL.out b (by rw [hds]; simp)
              obtain ⟨q1, q5, _⟩ := ok_cause hbok
              have HLb : Hid (WLinks wr (b :: s)) := by
                show WLinks _ _
                have h1 := HL4.out
                rw [hds] at h1
                exact (links_drop h1).below HBr.out
              have HBO := Lib.hid hbok
              clear hds hat c0 c1 c2' c3 hcell hbok
              obtain ⟨X, hX⟩ : ∃ X, X = wr.alloc (.cells #[.int .i64 b.num, .int .i64 b.cause, .int .i64 b.need, .slice b.p b.many b.cap] 52) := ⟨_, rfl⟩
              have HBX : Hid (Below w4.heap.size w4 X) := by show Below _ _ _; rw [hX]; exact HBr.out.alloc HBr.out.size _
              have HWX : Hid (Below W.heap.size W X) := by show Below _ _ _; exact HB4.out.trans (HBX.out.mono HB4.out.size)
              have HLX : Hid (WLinks X (b :: s)) := by show WLinks _ _; rw [hX]; exact HLb.out.below ((Below.refl _ _).alloc (Nat.le_refl _) _)
              obtain ⟨x0, x1, x2, x3, _⟩ := box4 (w := X) (b := wr.heap.size) (by rw [hX]; exact han _ _)
              go_upto_region 11 with fail
              rw [← hX]
              clear hX k0 k1 k2 k3 k4 k5 a0 a1 a2 a3 d0 d1 d2 d3
              obtain ⟨k0, k1, k2, k3, k4, k5, a0, a1, a2, a3⟩ := HC.out X HWX.out
              have HHo := Lib.hid (holds_ok (.agg #[.slice p n c, .slice q m d, .int .u64 (un g.phony : Int), .int .u64 (un g.made : Int)]) (.agg #[.slice p2 n2 c2, .int .u64 (un x.dirty : Int)]) g x HF.out.1 b q1 q5 (nextN s) pr cr X (fun h5 => link_next HLX.out HBO.out h5) (HGr.out.below HWX.out) (HSn.out.below HWX.out) (HRA4.out.below HBX.out))
              go_wp2_with fail
              refine HHo.out.mono ?_
              rintro e w6 ⟨hcase, hb6⟩
              have HB6 := Lib.hid (HBX.out.trans (hb6.mono HBX.out.size))
              clear hb6 k0 k1 k2 k3 k4 k5 a0 a1 a2 a3 x0 x1 x2 x3
              rcases hcase with ⟨rfl, hh⟩ | ⟨rfl, hh⟩
              · have HH := Lib.hid hh
                clear hh
                go_wp2
                go_roundg s.length
                case measure => simp at hk; omega
                case rel => exact ⟨ds ++ [b], s, by have := HDS.out; rw [this]; simp, rfl, by simp, show HoldsC g x l ↔ HoldsC g x s from HI.out.trans ⟨fun h => h.2.2, fun h => ⟨HBO.out, HH.out, h⟩⟩, HB6⟩
              · have HH := Lib.hid hh
                clear hh
                go_wp2
                go_ret2
                exact ⟨.inl ⟨HF.out, .inr ⟨rfl, .inr (by rw [HLL.out]; exact fun h => HH.out (HI.out.1 h).2.1)⟩⟩, HFIN.out _ (HB4.out.trans (HB6.out.mono HB4.out.size))⟩
      · have HLEN := Lib.hid hlen
        clear hlen
        go_wp2
        go_ret2
        exact ⟨.inl ⟨HF.out, .inr ⟨rfl, .inl HLEN.out⟩⟩, HFIN.out _ HB4.out⟩
    · exact absurd HF.out.1.good hno
  · obtain ⟨i1, i2⟩ := int_ne' hE0
    have HNF := Lib.hid hF
    have HE0 := Lib.hid hE0
    clear hF hE0
    go_wp2
    go_ret2
    exact ⟨.inr ⟨HNF.out, E, HE0.out, rfl⟩, HFIN.out _ HB2.out⟩
end Go.Proofs.YteldeiihjeddoaaDoor
namespace Go.Proofs.YteldeiihjeddoaaDoor
open Go.RowKit Go.Shelf
theorem stale_ex0 : Stale G0 X0 1#64 := by
  intro n
  by_cases h2 : n = 0
  · subst h2
    rw [show has 1#64 0 = true by decide]
    exact iff_of_true rfl ⟨by decide, by decide, .inr (.inr ⟨1, by rw [rws0]; decide, .inr (.inr (by decide))⟩)⟩
  · have h1 : has 1#64 n = false := by
      rw [Bool.eq_false_iff]
      intro h3
      have : n < 64 := has_lt h3
      have h4 : ∀ k : Fin 64, has 1#64 k.1 = true → k.1 = 0 := by decide
      exact h2 (h4 ⟨n, this⟩ h3)
    rw [h1]
    refine iff_of_false (by decide) fun h => ?_
    have h4 := h.2.1
    rw [show G0.made ||| G0.phony = 1#64 from by decide, h1] at h4
    cases h4
theorem has_is {s : B} {n : Int} {v : Bool} {w : World} (h : hasI s n = v) : Calls Tryd.prog 16 #[.int .u64 (un s), .int .i64 n] w fun e w' => e = .returned (.bool v) ∧ w = w' :=
  (has_ok s n _).mono fun _ _ ⟨h1, h2⟩ => ⟨by rw [h1, h], h2⟩
theorem hasI_of (s : B) (j : Nat) : hasI s (j : Int) = has s j := by simp [hasI]
/-- a reason that lies in a cell of its own -/
theorem laid_why (w : World) (v0 v1 v2 v3 : Value) : ∃ X, X = w.alloc (.cells #[v0, v1, v2, v3] 52) ∧
    X.heap[w.heap.size]? = some (.cells #[v0, v1, v2, v3] 52 (0, 0)) ∧ Below w.heap.size w X ∧ X.heap.size = w.heap.size + 1 :=
  ⟨_, rfl, han _ _, (Below.refl _ _).alloc (Nat.le_refl _) _, by simp⟩
set_option maxHeartbeats 4000000 in
set_option maxRecDepth 100000 in
theorem whys_below (w : World) (hT : Tab w) : Calls Tryd.prog 24 #[] w fun e w' => e = .returned (.bool true) ∧ Below w.heap.size w w' := by
  go_enter Tryd.func24, Tryd.ntmps24
  go_wp2_with fail
  refine (mill_ok w).mono ?_
  rintro e w1 ⟨⟨v, rfl, hv⟩, hb1⟩
  have HV := Lib.hid hv
  have HB1 := Lib.hid hb1
  have HT1 := Lib.hid (hT.belowB (Tab.lt hT) hb1)
  clear hv hb1 hT
  go_wp2_with fail
  have hba : Below w1.heap.size w1 (w1.alloc (.cells #[.int .i64 1, .int .i64 2] 2)) := (Below.refl _ _).alloc (Nat.le_refl _) _
  have hsn : SnAt (w1.alloc (.cells #[.int .i64 1, .int .i64 2] 2)) (.agg #[.slice (some ⟨w1.heap.size, 0, none⟩) 2 2, .int .u64 (un X0.dirty : Int)]) X0 :=
    ⟨_, _, _, rfl, rfl, (iv_two w1 1 2).more (by simp), by omega⟩
  refine (Tell_ok _ _ G0 X0 0 _ (HV.out.below hba) hsn (HT1.out.below hba)).mono ?_
  rintro e w2 ⟨hcase, hb2⟩
  have HB2 := Lib.hid (HB1.out.trans ((hba.trans (hb2.mono (by simp))).mono HB1.out.size))
  clear hba hsn hb2
  rcases hcase with ⟨a, t, rfl, hTo⟩ | ⟨E, hE0, rfl, hF⟩
  · obtain ⟨h4, h1⟩ := why_fact hTo.links hTo.holds hTo.num
    clear hTo
    unfold WE.v
    rw [h4, h1]
    clear h4 h1
    obtain ⟨X, hX, hXH, hXB, hXS⟩ := laid_why w2 (.int .i64 a.num) (.int .i64 4) (.int .i64 1) (.slice a.p a.many a.cap)
    have HB3 := Lib.hid (HB2.out.trans (hXB.mono HB2.out.size))
    obtain ⟨z0, z1, z2, z3, _⟩ := box4 hXH
    clear hXB hXS
    go_upto_region 2 with fail
    rw [← hX]
    clear hX hXH
    go_wp2
    go_ret
    exact ⟨rfl, HB3.out⟩
  · exfalso
    have := (hF ⟨right0, _, ord0⟩ (by decide) (by decide)).2 1#64 stale_ex0
    exact absurd this (by decide)
set_option maxHeartbeats 8000000 in
set_option maxRecDepth 100000 in
theorem whyTold_walk (v u : Value) (g : GD) (x : SD) (n : Int) (w : World) (h : GrAt w v g) (hx : SnAt w u x) (hT : Tab w) :
    Calls Tryd.prog 7 #[v, u, .int .i64 n] w fun e w' => e = .returned (.bool true) ∧ Below w.heap.size w w' := by
  have hGr := h
  have hSn := hx
  obtain ⟨p, nn, c, q, m, d, rfl, hN, _⟩ := h.at_
  obtain ⟨p2, n2, c2, rfl, _, _, _⟩ := hx.at_
  have hln := hN.at_.len
  subst hln
  obtain ⟨W, hW, hBW, hS, hC⟩ := args2 w (.slice p g.names.length c) (.slice q m d) (.int .u64 (un g.phony : Int)) (.int .u64 (un g.made : Int)) (.slice p2 n2 c2) (.int .u64 (un x.dirty : Int))
  have HC := Lib.hid hC
  have HGr := Lib.hid (hGr.below hBW)
  have HSn := Lib.hid (hSn.below hBW)
  have HT := Lib.hid (hT.below hBW)
  have HFIN : Hid (∀ u, Below W.heap.size W u → Below w.heap.size w u) := by show ∀ u, _; exact fun u hu => hBW.trans (hu.mono (by omega))
  obtain ⟨k0, k1, k2, k3, k4, k5⟩ := HC.out W (Below.refl _ _)
  rw [hW] at k0 k1 k2 k3 k4 k5
  clear h hx hGr hSn hT hBW hS hC hN
  go_enter Tryd.func7, Tryd.ntmps7
  go_wp2_with fail
  rw [← hW]
  clear hW k0 k1 k2 k3 k4 k5
  refine (whys_below W HT.out).mono ?_
  rintro e w1 ⟨rfl, hb1⟩
  have HB1 := Lib.hid hb1
  obtain ⟨k0, k1, k2, k3, k4, k5⟩ := HC.out w1 hb1
  clear hb1
  go_wp2_with fail
  refine (Tell_ok _ _ g x n w1 (HGr.out.below HB1.out) (HSn.out.below HB1.out) (HT.out.belowB (Tab.lt HT.out) HB1.out)).mono ?_
  rintro e w2 ⟨hcase, hb2⟩
  have HB2 := Lib.hid (HB1.out.trans (hb2.mono HB1.out.size))
  clear hb2 k0 k1 k2 k3 k4 k5
  rcases hcase with ⟨a, t, rfl, hTo⟩ | ⟨E, hE0, rfl, hF⟩
  · have HTo := Lib.hid hTo
    clear hTo
    unfold WE.v
    obtain ⟨X, hX, hXH, hXB, hXS⟩ := laid_why w2 (.int .i64 a.num) (.int .i64 a.cause) (.int .i64 a.need) (.slice a.p a.many a.cap)
    have HBX := Lib.hid (HB2.out.trans (hXB.mono HB2.out.size))
    have HLX := Lib.hid (HTo.out.links.below hXB)
    have HXH := Lib.hid hXH
    have HXS : Hid (w2.heap.size < X.heap.size) := by show _ < _; omega
    clear hXB hXH hXS
    go_upto_region 4 with fail
    rw [← hX]
    clear hX
    obtain ⟨k0, k1, k2, k3, k4, k5⟩ := HC.out X HBX.out
    go_wp2_with fail
    refine (Set_ok _ _ g x X (HGr.out.below HBX.out) (HSn.out.below HBX.out) (HT.out.belowB (Tab.lt HT.out) HBX.out)).mono ?_
    rintro e w3 ⟨hcase, hb3⟩
    have HB3 := Lib.hid (HBX.out.trans (hb3.mono HBX.out.size))
    have HL3 := Lib.hid (HLX.out.below hb3)
    have HX3 : Hid (w3.heap[w2.heap.size]? = some (.cells #[.int .i64 a.num, .int .i64 a.cause, .int .i64 a.need, .slice a.p a.many a.cap] 52 (0, 0))) := by show _ = _; rw [hb3.block _ HXS.out]; exact HXH.out
    have HS3 : Hid (w2.heap.size < w3.heap.size) := by show _ < _; have := HXS.out; have := hb3.size; omega
    clear hb3 k0 k1 k2 k3 k4 k5
    rcases hcase with ⟨_, s, o, _, hs, rfl⟩ | ⟨hno, _⟩
    · have HH : Hid (hasI s n = true) := by
        show _ = _
        have h1 := HTo.out.stale s hs
        obtain ⟨j, rfl⟩ := Int.eq_ofNat_of_zero_le HTo.out.range.1
        rw [hasI_of]
        simpa using h1
      clear hs
      have hn0 : 0 ≤ n := HTo.out.range.1
      have hn1 : n < (g.names.length : Int) := HTo.out.range.2
      obtain ⟨k0, k1, k2, k3, k4, k5⟩ := HC.out w3 HB3.out
      obtain ⟨z0, z1, z2, z3, _⟩ := box4 HX3.out
      go_wp2_with fail
      refine (Holds_ok _ _ g x a t w3 (HGr.out.below HB3.out) (HSn.out.below HB3.out) (HT.out.belowB (Tab.lt HT.out) HB3.out) HL3.out).mono ?_
      rintro e w4 ⟨hcase, hb4⟩
      have HB4 := Lib.hid (HB3.out.trans (hb4.mono HB3.out.size))
      have HX4 : Hid (w4.heap[w2.heap.size]? = some (.cells #[.int .i64 a.num, .int .i64 a.cause, .int .i64 a.need, .slice a.p a.many a.cap] 52 (0, 0))) := by show _ = _; rw [hb4.block _ HS3.out]; exact HX3.out
      clear hb4 k0 k1 k2 k3 k4 k5 z0 z1 z2 z3
      obtain ⟨z0, z1, z2, z3, _⟩ := box4 HX4.out
      have he : e = .returned (.tuple #[.bool true, .int .i64 0]) := by
        rcases hcase with ⟨_, hc⟩ | ⟨hno, _⟩
        · rcases hc with ⟨h, _⟩ | ⟨_, h⟩
          · exact h
          · rcases h with h | h
            · exfalso
              have h1 : (nums (a :: t)).length ≤ g.names.length := by
                have h2 := List.Nodup.length_le_of_subset HTo.out.nodup (l₂ := List.range g.names.length) fun k hk => by
                  obtain ⟨b, hb, rfl⟩ := List.mem_map.1 hk
                  have := HTo.out.in_ b hb
                  rw [List.mem_range]; omega
                simpa using h2
              have h3 : (nums (a :: t)).length = (a :: t).length := by unfold nums; rw [List.length_map]
              have h64 := HTo.out.fit.1.good.names
              omega
            · exact absurd HTo.out.holds h
        · exact absurd HTo.out.fit hno
      subst he
      clear hcase
      have hnn : a.num = n := HTo.out.num
      rw [hnn] at z0
      clear hnn
      go_wp2_with (go_at_call 16; refine (has_is HH.out).mono ?_; rintro e w' ⟨rfl, rfl⟩)
      go_ret
      exact ⟨rfl, HFIN.out _ HB4.out⟩
    · exact absurd HTo.out.fit hno
  · have HF := Lib.hid hF
    obtain ⟨i1, i2⟩ := int_ne' hE0
    clear hF hE0
    obtain ⟨X, hX, hXH, hXB, hXS⟩ := laid_why w2 (.int .i64 0) (.int .i64 0) (.int .i64 0) (.slice none 0 0)
    have HBX := Lib.hid (HB2.out.trans (hXB.mono HB2.out.size))
    clear hXB hXH hXS
    go_upto_region 4 with fail
    rw [← hX]
    clear hX
    obtain ⟨k0, k1, k2, k3, k4, k5⟩ := HC.out X HBX.out
    go_wp2_with fail
    refine (Set_ok _ _ g x X (HGr.out.below HBX.out) (HSn.out.below HBX.out) (HT.out.belowB (Tab.lt HT.out) HBX.out)).mono ?_
    rintro e w3 ⟨hcase, hb3⟩
    have HB3 := Lib.hid (HBX.out.trans (hb3.mono HBX.out.size))
    clear hb3 k0 k1 k2 k3 k4 k5
    obtain ⟨k0, k1, k2, k3, k4, k5⟩ := HC.out w3 HB3.out
    rcases hcase with ⟨hR, s, o, hK, hs, rfl⟩ | ⟨hno, F, hF0, rfl⟩
    · have HSt := Lib.hid hs
      have HFt : Hid (Fit g x) := ⟨hR, o, hK⟩
      clear hs hR hK
      by_cases n0 : n < 0
      · go_wp2
        go_ret
        exact ⟨rfl, HFIN.out _ HB3.out⟩
      by_cases n1 : (g.names.length : Int) ≤ n
      · go_wp2
        go_ret
        exact ⟨rfl, HFIN.out _ HB3.out⟩
      obtain ⟨rfl, hh⟩ := HF.out HFt.out (by omega) (by omega)
      have HH : Hid (hasI s n = false) := by
        show _ = _
        have h1 := hh s HSt.out
        obtain ⟨j, rfl⟩ := Int.eq_ofNat_of_zero_le (show 0 ≤ n by omega)
        rw [hasI_of]
        simpa using h1
      clear hh
      go_wp2_with (go_at_call 16; refine (has_is HH.out).mono ?_; rintro e w' ⟨rfl, rfl⟩)
      go_ret
      exact ⟨rfl, HFIN.out _ HB3.out⟩
    · obtain ⟨i3, i4⟩ := int_ne' hF0
      clear hF0
      go_wp2
      go_ret
      exact ⟨rfl, HFIN.out _ HB3.out⟩
end Go.Proofs.YteldeiihjeddoaaDoor
namespace Go.Proofs.YteldeiihjeddoaaDoor
open Go.RowKit Go.Shelf
theorem holds_drop {g : GD} {x : SD} : ∀ {ds : List WE} {l : List WE}, HoldsC g x (ds ++ l) → HoldsC g x l
  | [], _, h => h
  | _ :: ds, _, h => holds_drop (ds := ds) h.2.2
theorem nums_no {a : WE} {t ds s : List WE} {b : WE} (hd : a :: t = ds ++ b :: s) (h : (nums (a :: t)).Nodup) : b.num.toNat ∉ nums ds := by
  intro hm
  rw [hd] at h
  unfold nums at h hm
  rw [List.map_append, List.map_cons, List.nodup_append] at h
  exact h.2.2 _ hm _ List.mem_cons_self rfl
theorem nums_snoc {S : B} {ds : List WE} {b : WE} {j : Nat} (h : ∀ n, has S n = true → n ∈ nums ds) (hj : b.num = (j : Int)) : ∀ n, has (S ||| 1#64 <<< j) n = true → n ∈ nums (ds ++ [b]) := by
  intro n hn
  unfold nums
  rw [List.map_append, List.mem_append]
  rw [has_or, Bool.or_eq_true] at hn
  rcases hn with hn | hn
  · exact .inl (h n hn)
  · refine .inr ?_
    have hn64 : n < 64 := has_lt hn
    rw [has_one _ _ hn64] at hn
    simp at hn
    simp [hn, hj]
set_option maxHeartbeats 8000000 in
set_option maxRecDepth 100000 in
theorem whyDeep_walk (v u : Value) (g : GD) (x : SD) (n : Int) (w : World) (h : GrAt w v g) (hx : SnAt w u x) (hT : Tab w) :
    Calls Tryd.prog 6 #[v, u, .int .i64 n] w fun e w' => e = .returned (.bool true) ∧ Below w.heap.size w w' := by
  have hGr := h
  have hSn := hx
  obtain ⟨p, nn, c, q, m, d, rfl, hN, _⟩ := h.at_
  obtain ⟨p2, n2, c2, rfl, _, _, _⟩ := hx.at_
  have hln := hN.at_.len
  subst hln
  obtain ⟨W, hW, hBW, hS, hC⟩ := args2 w (.slice p g.names.length c) (.slice q m d) (.int .u64 (un g.phony : Int)) (.int .u64 (un g.made : Int)) (.slice p2 n2 c2) (.int .u64 (un x.dirty : Int))
  have HC := Lib.hid hC
  have HGr := Lib.hid (hGr.below hBW)
  have HSn := Lib.hid (hSn.below hBW)
  have HT := Lib.hid (hT.below hBW)
  have HFIN : Hid (∀ u, Below W.heap.size W u → Below w.heap.size w u) := by show ∀ u, _; exact fun u hu => hBW.trans (hu.mono (by omega))
  obtain ⟨k0, k1, k2, k3, k4, k5⟩ := HC.out W (Below.refl _ _)
  rw [hW] at k0 k1 k2 k3 k4 k5
  clear h hx hGr hSn hT hBW hS hC hN
  go_enter Tryd.func6, Tryd.ntmps6
  go_wp2_with fail
  rw [← hW]
  clear hW k0 k1 k2 k3 k4 k5
  refine (whys_below W HT.out).mono ?_
  rintro e w1 ⟨rfl, hb1⟩
  have HB1 := Lib.hid hb1
  obtain ⟨k0, k1, k2, k3, k4, k5⟩ := HC.out w1 hb1
  clear hb1
  go_wp2_with fail
  refine (Tell_ok _ _ g x n w1 (HGr.out.below HB1.out) (HSn.out.below HB1.out) (HT.out.belowB (Tab.lt HT.out) HB1.out)).mono ?_
  rintro e w2 ⟨hcase, hb2⟩
  have HB2 := Lib.hid (HB1.out.trans (hb2.mono HB1.out.size))
  clear hb2 k0 k1 k2 k3 k4 k5
  rcases hcase with ⟨a, t, rfl, hTo⟩ | ⟨E, hE0, rfl, _⟩
  · have HTo := Lib.hid hTo
    clear hTo
    have h64 := HTo.out.fit.1.good.names
    unfold WE.v
    obtain ⟨X, hX, hXH, hXB, hXS⟩ := laid_why w2 (.int .i64 a.num) (.int .i64 a.cause) (.int .i64 a.need) (.slice a.p a.many a.cap)
    have HXB := Lib.hid hXB
    have HXH := Lib.hid hXH
    clear hXB hXH hXS
    go_upto_region 4 with fail
    rw [← hX]
    clear hX
    go_wp2
    go_loopg [9] t.length (fun k sv wr => ∃ (ds : List WE) (b : WE) (s : List WE) (S : B), a :: t = ds ++ b :: s ∧ k = s.length ∧ sv = .int .u64 (un S : Int) ∧ Hid (∀ n, has S n = true → n ∈ nums ds) ∧
      Hid (wr.heap[w2.heap.size]? = some (.cells #[.int .i64 b.num, .int .i64 b.cause, .int .i64 b.need, .slice b.p b.many b.cap] 52 (0, 0))) ∧ Hid (Below w2.heap.size w2 wr))
    case atStart => exact ⟨[], a, t, 0#64, rfl, rfl, rfl, (show ∀ n, has 0#64 n = true → n ∈ nums [] from fun n h => (by rw [has_zero] at h; cases h)), HXH, HXB⟩
    case round =>
      obtain ⟨ds, b, s, S, hds, hk, rfl, HSe, HBk, HBr⟩ := hrel
      have HDS := Lib.hid hds
      have hw : Below W.heap.size W wr := HB2.out.trans (HBr.out.mono HB2.out.size)
      have HWr := Lib.hid hw
      have hmem : b ∈ a :: t := by rw [hds]; simp
      obtain ⟨q0, q1⟩ := HTo.out.in_ b hmem
      obtain ⟨j, hj⟩ := Int.eq_ofNat_of_zero_le q0
      have hjl : (j : Int) < (g.names.length : Int) := by omega
      have hj64 : j < 64 := by omega
      have hmin : min j 64 = j := by omega
      have HNT : Hid (hasI S (j : Int) = false) := by
        show _ = _
        rw [hasI_of, Bool.eq_false_iff]
        intro hh
        exact nums_no hds HTo.out.nodup (by rw [hj]; exact HSe.out j hh)
      have hhold : HoldsC g x (b :: s) := holds_drop (ds := ds) (by rw [← hds]; exact HTo.out.holds)
      obtain ⟨hok, hh1, _⟩ := hhold
      obtain ⟨_, _, cm⟩ := ok_cause hok
      have hlk : WLinks w2 (b :: s) := links_drop (ds := ds) (by rw [← hds]; exact HTo.out.links)
      have hlk := hlk.below HBr.out
      have HSN := Lib.hid (nums_snoc HSe.out hj)
      have z0 := (box4 HBk.out).1
      have z1 := (box4 HBk.out).2.1
      have z2 := (box4 HBk.out).2.2.1
      have z3 := (box4 HBk.out).2.2.2.1
      have z4 := (box4 HBk.out).2.2.2.2
      have z5 := z4 0
      have z6 := z4 1
      have z7 := z4 2
      have z8 := z4 3
      rw [hj] at z0
      obtain ⟨k0, k1, k2, k3, k4, k5⟩ := HC.out wr hw
      have HJ := Lib.hid hj
      clear z4 hds hmem q0 q1 hw hj hok
      cases s with
      | nil =>
        have hm : b.many = 0 := hlk
        have h5 : b.cause ≠ 5 := by intro e; rw [if_pos e, hm] at cm; simp at cm
        obtain ⟨i1, i2⟩ : (b.cause == 5) = false ∧ (b.cause != 5) = true := ⟨by simpa using h5, by simpa using h5⟩
        rw [hm] at z3
        clear hm h5 cm hh1 hlk z5 z6 z7 z8
        go_wp2_with (go_at_call 16; refine (has_is HNT.out).mono ?_; rintro e w' ⟨rfl, rfl⟩)
        go_ret
        exact ⟨rfl, HFIN.out _ HWr.out⟩
      | cons c s =>
        obtain ⟨hmp, ⟨kk, oo, hbp, _, hwc⟩, _⟩ := hlk
        have h5 : b.cause = 5 := by
          refine Classical.byContradiction fun e => ?_
          rw [if_neg e] at cm; omega
        have hm : b.many = 1 := by rw [if_pos h5] at cm; omega
        have hnd : b.need = c.num := (hh1.anew h5).symm
        obtain ⟨y0, y1, y2, y3⟩ := hwc
        rw [hbp, hm] at z3
        rw [h5] at z1
        rw [hnd] at z2
        clear hmp hbp h5 hm hnd cm hh1
        go_upto_region 12 with (go_at_call 16; refine (has_is HNT.out).mono ?_; rintro e w' ⟨rfl, rfl⟩)
        go_quiet (fail)
        go_wp2
        go_roundg s.length
        case measure => simp at hk; omega
        case rel => exact ⟨ds ++ [b], c, s, S ||| 1#64 <<< j, by have := HDS.out; rw [this]; simp, rfl, rfl, HSN, box4_all (show (wr.drewN _).heap[w2.heap.size]? = _ from HBk.out) _ _ _ _, below_set4 (below_drawsP HBr.out _) (Nat.le_refl _) _ _ _ _⟩
  · obtain ⟨i1, i2⟩ := int_ne' hE0
    clear hE0
    obtain ⟨X, hX, hXH, hXB, hXS⟩ := laid_why w2 (.int .i64 0) (.int .i64 0) (.int .i64 0) (.slice none 0 0)
    have HBX := Lib.hid (HB2.out.trans (hXB.mono HB2.out.size))
    obtain ⟨z0, z1, z2, z3, _⟩ := box4 hXH
    clear hXB hXH hXS
    go_upto_region 4 with fail
    rw [← hX]
    clear hX
    go_wp2
    go_ret
    exact ⟨rfl, HFIN.out _ HBX.out⟩
end Go.Proofs.YteldeiihjeddoaaDoor
