/- Texts joined: UsersW, NLArg, GraphArg, GenArg, SeenArg. Conditions: theirs. -/
import Derived.Test.YteldeiihjeddoaaDoorUsersLawM3
import Derived.Test.YteldeiihjeddoaaDoorUsersLawM4
import Derived.Test.YteldeiihjeddoaaDoorGoodW
import Derived.Test.YteldeiihjeddoaaDoorNamesW
import Derived.WideShapes
import Derived.Test.YteldeiihjeddoaaDoorGraphW
import Derived.Test.YteldeiihjeddoaaDoorGraphCheckW
import Derived.ChangeArms
import Derived.Test.YteldeiihjeddoaaDoorMem
import Derived.ChangeSlices
import Derived.SizedLaws
import Derived.Test.YteldeiihjeddoaaDoorUsersLawM2
namespace Go.Proofs.YteldeiihjeddoaaDoor
open Go.RowKit Go.Shelf
theorem box2_heap {w : World} {b : Nat} {t : TypeId} {v0 v1 : Value} (h : w.heap[b]? = some (.cells #[v0, v1] t (0, 0))) :
    w.cell? ⟨b, 0, none⟩ = some v0 ∧ w.cell? ⟨b, 1, none⟩ = some v1 ∧ ∀ o, w.frozen? ⟨b, o, none⟩ = false := by
  refine ⟨?_, ?_, fun o => ?_⟩
  all_goals simp [World.cell?, World.frozen?, h]
theorem box2_set1 {w : World} {b : Nat} {t : TypeId} {v0 v1 : Value} (h : w.heap[b]? = some (.cells #[v0, v1] t (0, 0))) (u : Value) :
    (w.setCell ⟨b, 1, none⟩ u).heap[b]? = some (.cells #[v0, u] t (0, 0)) := by
  rw [Go.Sort.setCell_eq]
  simp [Go.Sort.mapBlock, Go.Sort.onCells, Array.getElem?_modify, h]
/-- the blocks in which a call has laid its graph and what is seen of it -/
theorem args2_heap (w : World) (v0 v1 v2 v3 v4 v5 : Value) (u : World)
    (hu : Below (w.heap.size + 2) ((w.alloc (.cells #[v0, v1, v2, v3] 26)).alloc (.cells #[v4, v5] 29)) u) :
    u.heap[w.heap.size]? = some (.cells #[v0, v1, v2, v3] 26 (0, 0)) ∧ u.heap[w.heap.size + 1]? = some (.cells #[v4, v5] 29 (0, 0)) := by
  rw [hu.block _ (by omega), hu.block _ (by omega)]
  exact ⟨by rw [hao _ _ _ (by simp), han], han2 _ _ _⟩
set_option maxHeartbeats 1000000 in
theorem SCheckE_ok (v u : Value) (g : GD) (x : SD) (w : World) (h : GrAt w v g) (hx : SnAt w u x) (hT : Tab w) :
    Calls Tryd.prog 20 #[v, u] w fun e w' => (∃ E : Int, e = .returned (.int .i64 E) ∧ ((E = 0 ∧ Fit g x) ∨ (E ≠ 0 ∧ ¬ Fit g x))) ∧ Below w.heap.size w w' := by
  have hGr := h
  have hSn := hx
  obtain ⟨p, n, c, q, m, d, rfl, _, _⟩ := h.at_
  obtain ⟨p2, n2, c2, rfl, _, _, _⟩ := hx.at_
  obtain ⟨W, hW, hBW, hS, hC⟩ := args2 w (.slice p n c) (.slice q m d) (.int .u64 (un g.phony : Int)) (.int .u64 (un g.made : Int)) (.slice p2 n2 c2) (.int .u64 (un x.dirty : Int))
  have HC := Lib.hid hC
  have HCH := Lib.hid (scheck_ok _ _ g x W (hGr.below hBW) (hSn.below hBW) (hT.below hBW))
  have HFIN : Hid (∀ u, Below W.heap.size W u → Below w.heap.size w u) := by show ∀ u, _; exact fun u hu => hBW.trans (hu.mono (by omega))
  obtain ⟨k0, k1, k2, k3, k4, k5⟩ := HC.out W (Below.refl _ _)
  rw [hW] at k0 k1 k2 k3 k4 k5
  clear h hx hGr hSn hT hBW hS hC
  go_enter Tryd.func20, Tryd.ntmps20
  go_wp2_with fail
  rw [← hW]
  clear hW k0 k1 k2 k3 k4 k5
  refine HCH.out.mono ?_
  rintro e w2 ⟨hcase, hb2⟩
  have HB2 := Lib.hid hb2
  clear hb2
  rcases hcase with ⟨hR, pr, qo, cr, co, o, hK, rfl, _, _⟩ | ⟨hnf, E, hE0, rfl⟩
  · have HF : Hid (Fit g x) := ⟨hR, o, hK⟩
    clear hR hK
    generalize o.length = ol at *
    go_wp2
    go_ret
    exact ⟨⟨0, rfl, .inl ⟨rfl, HF.out⟩⟩, HFIN.out _ HB2.out⟩
  · have HNF := Lib.hid hnf
    have HE0 := Lib.hid hE0
    clear hnf hE0
    go_wp2
    go_ret
    exact ⟨⟨E, rfl, .inr ⟨HE0.out, HNF.out⟩⟩, HFIN.out _ HB2.out⟩
theorem fit_dirty {g : GD} {x : SD} {n : Nat} (hF : Fit g x) (hn : n < g.names.length) : Fit g ⟨x.at_, x.dirty ||| 1#64 <<< n⟩ := by
  obtain ⟨hR, ho⟩ := hF
  refine ⟨⟨hR.good, hR.len, hR.range, fun k hk => ?_, hR.there⟩, ho⟩
  have hk' : has (x.dirty ||| 1#64 <<< n) k = true := hk
  rw [has_or, Bool.or_eq_true] at hk'
  rcases hk' with hk' | hk'
  · exact hR.dirty k hk'
  · rw [has_one n k (has_lt hk')] at hk'
    have := of_decide_eq_true hk'
    omega
/-- rows of which k are masked -/
def mkTo (l : List B) (m : B) (k : Nat) : List B := (l.take k).map (fun y => y &&& m) ++ l.drop k
theorem mkTo_len (l : List B) (m : B) (k : Nat) : (mkTo l m k).length = l.length := by
  unfold mkTo
  rw [List.length_append, List.length_map, List.length_take, List.length_drop]; omega
theorem mkTo_at {l : List B} {m : B} {k : Nat} (h : k < l.length) : (mkTo l m k).getD k 0#64 = l.getD k 0#64 := by
  unfold mkTo
  rw [List.getD_eq_getElem?_getD, List.getElem?_append_right (by rw [List.length_map, List.length_take]; omega), List.length_map, List.length_take, List.getElem?_drop]
  rw [List.getD_eq_getElem?_getD]
  congr 2
  omega
theorem mkTo_next {l : List B} {m : B} {k : Nat} (h : k < l.length) : (mkTo l m k).set k (l.getD k 0#64 &&& m) = mkTo l m (k + 1) := by
  have hl : ((l.take k).map fun y => y &&& m).length = k := by rw [List.length_map, List.length_take]; omega
  have hd : l.drop k = l[k] :: l.drop (k + 1) := (List.getElem_cons_drop h).symm
  have hg : l.getD k 0#64 = l[k] := by rw [List.getD_eq_getElem?_getD, List.getElem?_eq_getElem h]; rfl
  unfold mkTo
  rw [List.set_append_right _ _ (by omega), hl, Nat.sub_self, hd, List.set_cons_zero, hg, List.take_succ_eq_append_getElem h, List.map_append, List.append_assoc]
  rfl
theorem mkTo_all (l : List B) (m : B) : mkTo l m l.length = l.map fun y => y &&& m := by
  unfold mkTo
  rw [List.take_length, List.drop_length, List.append_nil]
set_option maxHeartbeats 4000000 in
set_option maxRecDepth 100000 in
theorem staleUsers_walk (v u : Value) (g : GD) (x : SD) (n : Int) (w : World) (h : GrAt w v g) (hx : SnAt w u x) (hT : Tab w) :
    Calls Tryd.prog 5 #[v, u, .int .i64 n] w fun e w' => e = .returned (.bool true) ∧ Below w.heap.size w w' := by
  have hGr := h
  have hSn := hx
  obtain ⟨p, nn, c, q, m, d, rfl, hN, hE⟩ := h.at_
  obtain ⟨p2, n2, c2, rfl, hx1, hx2, hx3⟩ := hx.at_
  have hln := hN.at_.len
  have hlm := hE.len
  subst hln hlm
  have hbn := hN.at_.big
  have hbm := hE.big
  obtain ⟨W, hW, hBW, hS, hC⟩ := args2 w (.slice p g.names.length c) (.slice q g.edges.length d) (.int .u64 (un g.phony : Int)) (.int .u64 (un g.made : Int)) (.slice p2 n2 c2) (.int .u64 (un x.dirty : Int))
  have HC := Lib.hid hC
  have HSZ : Hid (W.heap.size = w.heap.size + 2) := hS
  have HHP : Hid (∀ u : World, Below W.heap.size W u → u.heap[w.heap.size]? = some (.cells #[.slice p g.names.length c, .slice q g.edges.length d, .int .u64 (un g.phony : Int), .int .u64 (un g.made : Int)] 26 (0, 0)) ∧ u.heap[w.heap.size + 1]? = some (.cells #[.slice p2 n2 c2, .int .u64 (un x.dirty : Int)] 29 (0, 0))) := by
    show ∀ u : World, _
    intro u hu
    rw [hS, hW] at hu
    exact args2_heap w _ _ _ _ _ _ u hu
  have HGw := Lib.hid hGr
  have HTw := Lib.hid hT
  have HGr := Lib.hid (hGr.below hBW)
  have HSn := Lib.hid (hSn.below hBW)
  have HT := Lib.hid (hT.below hBW)
  have HX := Lib.hid (And.intro hx1 (And.intro hx2 hx3))
  have HBW := Lib.hid hBW
  have HFIN : Hid (∀ u, Below W.heap.size W u → Below w.heap.size w u) := by show ∀ u, _; exact fun u hu => hBW.trans (hu.mono (by omega))
  obtain ⟨k0, k1, k2, k3, k4, k5⟩ := HC.out W (Below.refl _ _)
  rw [hW] at k0 k1 k2 k3 k4 k5
  clear h hx hGr hSn hT hBW hS hC hx1 hx2 hx3 hN hE
  go_enter Tryd.func5, Tryd.ntmps5
  go_wp2_with fail
  rw [← hW]
  clear hW k0 k1 k2 k3 k4 k5
  refine (stales_below W HT.out).mono ?_
  rintro e w1 ⟨rfl, hb1⟩
  have HB1 := Lib.hid hb1
  obtain ⟨k0, k1, k2, k3, k4, k5⟩ := HC.out w1 hb1
  clear hb1
  go_wp2_with fail
  refine (SCheckE_ok _ _ g x w1 (HGr.out.below HB1.out) (HSn.out.below HB1.out) (HT.out.belowB (Tab.lt HT.out) HB1.out)).mono ?_
  rintro e w2 ⟨⟨E, rfl, hcase⟩, hb2⟩
  have HB2 := Lib.hid (HB1.out.trans (hb2.mono HB1.out.size))
  clear hb2 k0 k1 k2 k3 k4 k5
  obtain ⟨k0, k1, k2, k3, k4, k5⟩ := HC.out w2 HB2.out
  rcases hcase with ⟨rfl, hF⟩ | ⟨hE0, _⟩
  · have HF := Lib.hid hF
    have h64 := hF.1.good.names
    have HG := Lib.hid hF.1.good
    clear hF
    by_cases n0 : n < 0
    · go_wp2
      go_ret
      exact ⟨rfl, HFIN.out _ HB2.out⟩
    by_cases n1 : (g.names.length : Int) ≤ n
    · go_wp2
      go_ret
      exact ⟨rfl, HFIN.out _ HB2.out⟩
    obtain ⟨j, rfl⟩ := Int.eq_ofNat_of_zero_le (show 0 ≤ n by omega)
    have hj : j < g.names.length := by omega
    have HH2 := Lib.hid (HHP.out w2 HB2.out).2
    go_upto_region 5 with fail
    refine wp_region_still_tail 6 (by kernel_rfl) (by kernel_rfl) ?_
    simp only [List.take_succ_cons, List.take_zero, List.drop_succ_cons, List.drop_zero]
    obtain ⟨Z, hZ⟩ : ∃ Z : World, Z = { heap := w2.heap, tape := w2.tape, drawn := w2.drawn + 1, os := w2.os, output := w2.output } := ⟨_, rfl⟩
    have hZb : Below W.heap.size W Z := by rw [hZ]; exact HB2.out.drew
    have HZH : Hid (Z.heap[w.heap.size + 1]? = some (.cells #[.slice p2 n2 c2, .int .u64 (un x.dirty : Int)] 29 (0, 0))) := by show _ = _; rw [hZ]; exact HH2.out
    obtain ⟨d0, d1, d2⟩ := box2_heap HZH.out
    have d3 := d2 1
    rw [← hZ]
    clear hZ d2 k0 k1 k2 k3 k4 k5
    repeat still_step
    refine wpStill_nil ?_
    go_upto_region 6 with fail
    obtain ⟨W5, hW5⟩ : ∃ W5 : World, W5 = Z.setCell ⟨w.heap.size + 1, 1, none⟩ (.int .u64 (un (x.dirty ||| 1#64 <<< j) : Int)) := ⟨_, rfl⟩
    have hBw5 : Below w.heap.size w W5 := by rw [hW5]; exact (HFIN.out _ hZb).setCell (by simp) _
    have HS5 : Hid (w.heap.size + 2 ≤ W5.heap.size) := by
      show _ ≤ _
      have h1 := hZb.size
      have h2 := HSZ.out
      rw [hW5]; simp; omega
    have HH5 : Hid (∀ u : World, Below W5.heap.size W5 u → u.heap[w.heap.size]? = some (.cells #[.slice p g.names.length c, .slice q g.edges.length d, .int .u64 (un g.phony : Int), .int .u64 (un g.made : Int)] 26 (0, 0)) ∧ u.heap[w.heap.size + 1]? = some (.cells #[.slice p2 n2 c2, .int .u64 (un (x.dirty ||| 1#64 <<< j) : Int)] 29 (0, 0))) := by
      show ∀ u : World, _ → _
      intro u hu
      have h2 := HS5.out
      rw [hu.block _ (by omega), hu.block _ (by omega), hW5]
      refine ⟨?_, box2_set1 HZH.out _⟩
      rw [heap_setCell_other _ _ _ _ (by simp)]
      exact (HHP.out Z hZb).1
    have HG5 := Lib.hid (HGw.out.below hBw5)
    have HT5 := Lib.hid (HTw.out.below hBw5)
    have HSn5 : Hid (SnAt W5 (.agg #[.slice p2 n2 c2, .int .u64 (un (x.dirty ||| 1#64 <<< j) : Int)]) ⟨x.at_, x.dirty ||| 1#64 <<< j⟩) := ⟨p2, n2, c2, rfl, HX.out.1, (HX.out.2.1.below hBw5).more hBw5.size, HX.out.2.2⟩
    have HB5 := Lib.hid hBw5
    have HDJ : Hid (has (x.dirty ||| 1#64 <<< j) j = true) := by show _ = _; rw [has_or, has_one j j (by omega), decide_eq_true rfl, Bool.or_true]
    have HF5 := Lib.hid (fit_dirty HF.out hj)
    obtain ⟨hg5, hx5⟩ := HH5.out W5 (Below.refl _ _)
    rw [← hW5]
    clear hW5 hZb d0 d1 d3 hBw5 HHP HB2 HH2 HZH
    generalize x.dirty ||| 1#64 <<< j = dd at *
    obtain ⟨k0, k1, k2, k3, _⟩ := box4 hg5
    obtain ⟨k4, k5, _⟩ := box2_heap hx5
    clear hg5 hx5
    go_wp2_with fail
    refine (Set_ok _ _ g ⟨x.at_, dd⟩ W5 HG5.out HSn5.out HT5.out).mono ?_
    rintro e w6 ⟨hcase, hb6⟩
    have HB6 := Lib.hid hb6
    clear hb6 k0 k1 k2 k3 k4 k5
    rcases hcase with ⟨_, s, o, _, hS, rfl⟩ | ⟨hnf, _⟩
    · have HSt := Lib.hid hS
      clear hS
      obtain ⟨k0, k1, k2, k3, _⟩ := box4 (HH5.out w6 HB6.out).1
      go_wp2_with fail
      refine (Turn_ok _ g w6 (HG5.out.below HB6.out)).mono ?_
      rintro e w7 ⟨hcase, hb7⟩
      have HB7 := Lib.hid (HB6.out.trans (hb7.mono HB6.out.size))
      clear hb7 k0 k1 k2 k3
      rcases hcase with ⟨_, pt, qt, ct, dt, ts, hts, _, rfl, hon, hoe⟩ | ⟨hno, _⟩
      · have hGt : GrAt w7 (.agg #[.slice pt g.names.length ct, .slice qt g.edges.length dt, .int .u64 (un g.phony : Int), .int .u64 (un g.made : Int)]) ⟨g.names, ts, g.phony, g.made⟩ := grat_own (g := ⟨g.names, ts, g.phony, g.made⟩) (good_turn HG.out hts) hbm hon hoe
        have HTO := Lib.hid hts
        obtain ⟨X, hX⟩ : ∃ X, X = w7.alloc (.cells #[.slice pt g.names.length ct, .slice qt g.edges.length dt, .int .u64 (un g.phony : Int), .int .u64 (un g.made : Int)] 26) := ⟨_, rfl⟩
        have hBX : Below w7.heap.size w7 X := by rw [hX]; exact (Below.refl _ _).alloc (Nat.le_refl _) _
        have HGt := Lib.hid (hGt.below hBX)
        have HBX : Hid (Below W5.heap.size W5 X) := by show Below _ _ _; exact HB7.out.trans (hBX.mono HB7.out.size)
        have hxc := box4 (w := X) (b := w7.heap.size) (by rw [hX]; exact han _ _)
        obtain ⟨k0, k1, k2, k3, _⟩ := hxc
        rw [hX] at k0 k1 k2 k3
        clear hts hon hoe hGt hBX
        go_wp2_with fail
        rw [← hX]
        clear hX k0 k1 k2 k3
        refine (Rows2_ok _ _ X HGt.out).mono ?_
        rintro e w8 ⟨hcase, hb8⟩
        have HB8 := Lib.hid (HBX.out.trans (hb8.mono HBX.out.size))
        clear hb8
        rcases hcase with ⟨_, pr, cr, rfl, hown⟩ | ⟨hno, _⟩
        · have hown2 : w8.ownsRow X.heap.size 24 1 (.slice pr g.names.length cr) g.names.length (u64sG (rowsE g.names.length ts)) := hown
          clear hown
          have HOK : Hid (allOk [0, 0, 0] = true) := by show _ = _; rfl
          obtain ⟨b, cap, hv, _, _⟩ := hown2.form (by omega)
          injection hv with e1 _ e3
          subst e1 e3
          have hbX := (hown2.lt b rfl).1
          have HOW := Lib.hid hown2
          clear hown2
          go_wp2_with (go_at_call 18; refine (good3 _ _ _ w8).mono ?_; rw [HOK.out]; rintro e w' ⟨rfl, rfl⟩)
          obtain ⟨w9, hw9⟩ : ∃ w9, w9 = w8.alloc (.cells #[.int .i64 0, .int .i64 0, .int .i64 0] 31) := ⟨_, rfl⟩
          have HO9 : Hid (w9.ownsRow X.heap.size 24 1 (.slice (some ⟨b, 0, none⟩) g.names.length cr) g.names.length (u64sG (mkTo (rowsE g.names.length ts) (g.made ||| g.phony) 0))) := by
            show World.ownsRow _ _ _ _ _ _ _
            rw [hw9]
            have e0 : mkTo (rowsE g.names.length ts) (g.made ||| g.phony) 0 = rowsE g.names.length ts := by unfold mkTo; simp
            rw [e0]
            exact HOW.out.alloc _
          have HB9 : Hid (Below W5.heap.size W5 w9) := by show Below _ _ _; rw [hw9]; exact HB8.out.alloc HB8.out.size _
          rw [← hw9]
          clear hw9 HOW
          go_loopg [63] g.names.length (fun k i wr => ∃ jj : Nat, k + jj = g.names.length ∧ i = .int .i64 jj ∧ Hid (wr.ownsRow X.heap.size 24 1 (.slice (some ⟨b, 0, none⟩) g.names.length cr) g.names.length (u64sG (mkTo (rowsE g.names.length ts) (g.made ||| g.phony) jj))) ∧ Hid (Below W5.heap.size W5 wr))
          case atStart => exact ⟨0, by omega, rfl, HO9, HB9⟩
          case round =>
            obtain ⟨jj, hjj, rfl, HO, HBr⟩ := hrel
            obtain ⟨k0, k1, k2, k3, _⟩ := box4 (HH5.out wr HBr.out).1
            have hrl := rowsE_len g.names.length ts
            by_cases hlt : jj < g.names.length
            · have HSN := Lib.hid (mkTo_next (l := rowsE g.names.length ts) (m := g.made ||| g.phony) (k := jj) (by omega))
              have hat := mkTo_at (l := rowsE g.names.length ts) (m := g.made ||| g.phony) (k := jj) (by omega)
              obtain ⟨cur, hcur⟩ : ∃ cur, cur = mkTo (rowsE g.names.length ts) (g.made ||| g.phony) jj := ⟨_, rfl⟩
              rw [← hcur] at HSN HO hat
              obtain ⟨y, hy⟩ : ∃ y, y = (rowsE g.names.length ts).getD jj 0#64 := ⟨_, rfl⟩
              rw [← hy] at HSN hat
              clear hcur hy hrl
              go_upto_region 14 with fail
              refine wp_region_still_tail 11 (by kernel_rfl) (by kernel_rfl) ?_
              simp only [List.take_succ_cons, List.take_zero, List.drop_succ_cons, List.drop_zero]
              obtain ⟨Z, hZ⟩ : ∃ Z : World, Z = { heap := wr.heap, tape := wr.tape, drawn := wr.drawn + 1, os := wr.os, output := wr.output } := ⟨_, rfl⟩
              have hZo : Z.ownsRow X.heap.size 24 1 (.slice (some ⟨b, 0, none⟩) g.names.length cr) g.names.length (u64sG cur) := by rw [hZ]; exact HO.out
              have hZb : Below W5.heap.size W5 Z := by rw [hZ]; exact HBr.out.drew
              have d2 : Z.cell? ⟨w.heap.size, 2, none⟩ = some (.int .u64 (un g.phony : Int)) := by rw [hZ]; exact k2
              have d3 : Z.cell? ⟨w.heap.size, 3, none⟩ = some (.int .u64 (un g.made : Int)) := by rw [hZ]; exact k3
              have d4 := ownG_at hZo hlt
              rw [hat] at d4
              have hfr := hZo.frozenAt jj
              have hst := hZo.stored jj (.int .u64 (un (y &&& (g.made ||| g.phony)) : Int))
              rw [u64sG_set, HSN.out] at hst
              have HST := Lib.hid hst
              have HZB := Lib.hid hZb
              rw [← hZ]
              clear hZ hZo hZb hst k0 k1 k2 k3 hat
              have hj1 : (jj : Int) < (g.names.length : Int) := by omega
              repeat still_step
              refine wpStill_nil ?_
              go_wp2
              go_roundg (g.names.length - (jj + 1))
              case measure => omega
              case rel => exact ⟨jj + 1, by omega, by go_num, HST.out.1, HZB.out.grown HST.out.2 HZB.out.size (fun q hq => by cases hq; exact Nat.le_trans HBX.out.size hbX)⟩
            · obtain rfl : jj = g.names.length := by omega
              have ho := HO.out
              have e0 : mkTo (rowsE g.names.length ts) (g.made ||| g.phony) g.names.length = upR g ts := by
                unfold upR
                rw [← mkTo_all, rowsE_len]
              rw [e0] at ho
              have hRU := rows_at ho h64
              have hcj : wr.cell? ⟨b, j, none⟩ = some (.int .u64 (un (row (upR g ts) j) : Int)) := ownG_at ho hj
              have HRU := Lib.hid hRU
              have HCK : Hid (chks (upR g ts) [row (upR g ts) j] = 0) := by
                show _ = _
                refine chks_bits (valid_upR HG.out HTO.out) fun u hu q hq => ?_
                have : u = row (upR g ts) j := by simpa using hu
                subst this
                exact (valid_upR HG.out HTO.out).2 j q hq
              have HUS := Lib.hid (users_stale HG.out HTO.out HSt.out HDJ.out)
              have hTr := HT5.out.belowB (Tab.lt HT5.out) HBr.out
              have HTr := Lib.hid hTr
              generalize row (upR g ts) j = y at *
              clear ho e0 hRU hTr k0 k1 k2 k3
              go_wp2_with (go_at_call 23; refine (From_yes _ g.names.length cr (upR g ts) y HCK.out wr HRU.out HTr.out).mono ?_; rintro e w10 ⟨rfl, hb10⟩; have HB10 := Lib.hid (HBr.out.trans (hb10.mono HBr.out.size)); have hzz : ((un (cls (upR g ts) y &&& ~~~s) : Int) == 0) = true := (by rw [HUS.out]; rfl); clear hb10)
              go_ret
              exact ⟨by simp, HB5.out.trans (HB10.out.mono HB5.out.size)⟩
        · exact absurd (good_turn HG.out HTO.out) hno
      · exact absurd HG.out hno
    · exact absurd HF5.out hnf
  · obtain ⟨i1, i2⟩ := int_ne' hE0
    go_wp2
    go_ret
    exact ⟨rfl, HFIN.out _ HB2.out⟩
end Go.Proofs.YteldeiihjeddoaaDoor
namespace Go.Proofs.YteldeiihjeddoaaDoor
open Go.RowKit Go.ChangeShapes
theorem shape_lt {w : World} {b : Nat} {r : TypeId × Nat} (h : w.shape? b = some r) : b < w.heap.size := by
  unfold World.shape? at h
  rcases Nat.lt_or_ge b w.heap.size with hb | hb
  · exact hb
  · rw [Array.getElem?_eq_none hb] at h; cases h
theorem slice_plain {P : Program} {W : World} {b0 : Nat} {r : Reach} {a : Option Addr} {len cap : Nat} {t e : TypeId} (ht : P.underlying t = some (.slice e)) (h : Value.okWide P W r b0 t (.slice a len cap)) :
    (a = none → cap = 0) ∧ ∀ ad, a = some ad → ∃ b off, ad = ⟨b, off, none⟩ ∧ b < W.heap.size := by
  simp only [Value.okWide, ht, Cell.okWide] at h
  unfold Cell.ok at h
  rw [ht] at h
  cases a with
  | none =>
    refine ⟨fun _ => ?_, fun ad h => by cases h⟩
    revert h
    cases len <;> cases cap <;> simp
  | some ad =>
    refine ⟨fun h => (by cases h), fun ad' h' => ?_⟩
    injection h' with h'
    subst h'
    obtain ⟨_, _, _, hs, row, cells, hsh, _⟩ := h
    obtain ⟨b, o, s⟩ := ad
    simp only at hs
    subst hs
    exact ⟨b, o, rfl, shape_lt hsh⟩
def NLArg (w : World) (p : Option Addr) (n c : Nat) : Prop := ∃ zs, NL w p n c zs
set_option maxRecDepth 100000 in
theorem nl_arg {H : Type} {enc : TypeId × Value → H} {W : World} {r : Reach} {b0 fuel len cap : Nat} {a : Option Addr} {d : DataW H} {p : List MemPlace}
    (hok : Value.okWide Tryd.prog W r b0 22 (.slice a len cap))
    (ht : Tryd.prog.underlying 22 = some (.slice 9)) (he : Tryd.prog.underlying 9 = some .string) (hc : Tryd.prog.cellsOf 9 = 1)
    (hf : DataW.trod enc Tryd.prog W 0 (fun _ => true) true fuel 22 [.slice a len cap] = some (d, p))
    (hsz : ∀ n, n ∈ d.weights Tryd.prog 22 → n ≤ reachBytes) : NLArg W a len cap := by
  obtain ⟨ss, hS⟩ := str_arg ht he hc hf hsz
  obtain ⟨h1, h2⟩ := slice_plain ht hok
  refine ⟨ss, hS, h1, h2, ?_⟩
  rcases open_strings ht he hc hf with ⟨h1, h2⟩ | ⟨ad, ln, cp, zs, h1, h2, h3, h4, h5, h6, h7, h8⟩
  · injection h1 with h1 _
    injection h1 with e1 e2 e3
    subst e1 e2 e3
    omega
  · injection h1 with h1 _
    injection h1 with e1 e2 e3
    subst e1 e2 e3
    injection h6 with h6 h6'
    have hw : d.weights Tryd.prog 22 = ((strs (H := H) (zs.take len)).length + (strs (H := H) (zs.drop len)).length) * Tryd.prog.bytesOf 9 :: (DataW.weightsAll Tryd.prog 9 (strs (H := H) (zs.take len)) ++ DataW.weightsAll Tryd.prog 9 (strs (H := H) (zs.drop len))) := by
      rw [h6, DataW.weights, ht]
    have hb := hsz _ (by rw [hw]; exact List.mem_cons_self)
    have hby : Tryd.prog.bytesOf 9 = 16 := by kernel_rfl
    rw [hby] at hb
    unfold reachBytes at hb
    simp only [if_true] at h5
    have hl1 : (strs (H := H) (zs.take len)).length = len := by unfold strs; rw [List.length_map, List.length_take]; omega
    rw [hl1] at hb
    omega
end Go.Proofs.YteldeiihjeddoaaDoor
namespace Go.Proofs.YteldeiihjeddoaaDoor
open Go.RowKit Go.ChangeShapes Go.WideShapes
set_option maxRecDepth 100000 in
theorem graph_arg {H : Type} {enc : TypeId × Value → H} {W : World} {r : Reach} {b0 : Nat} {v : Value} {d : DataW H} {p : List MemPlace}
    (hok : Value.okWide Tryd.prog W r b0 26 v) (hf : DataW.Trod enc Tryd.prog W 0 (fun _ => true) true 26 v d p)
    (hsz : ∀ n, n ∈ d.weights Tryd.prog 26 → n ≤ reachBytes) : ∃ g, GrAt W v g := by
  have ht := Tryd.underlying26
  have hok2 := hok
  simp only [Value.okWide, ht] at hok2
  obtain ⟨cs, rfl, hcs, ts, hts, _, hcell⟩ := hok2
  have hc4 : cs.size = 4 := by rw [hcs]; kernel_rfl
  have hts4 : Tryd.prog.cellTypes Tryd.prog.depth 26 = some [22, 23, 24, 24] := by kernel_rfl
  rw [hts] at hts4
  injection hts4 with hts4
  subst hts4
  obtain ⟨fuel, hf⟩ := hf
  obtain ⟨xs, k, _, hxy, hlen, hxl, hff⟩ := DataW.trod_struct ht hf
  obtain ⟨l, rfl⟩ : ∃ l : List Value, cs = l.toArray := ⟨cs.toList, by simp⟩
  have hl4 : l.length = 4 := by simpa using hc4
  match l, hl4, xs, hxl with
  | [v0, v1, v2, v3], _, [y0, y1, y2, y3], _ =>
    have s0 : Tryd.prog.cellsOf 22 = 1 := by kernel_rfl
    have s1 : Tryd.prog.cellsOf 23 = 1 := by kernel_rfl
    have s2 : Tryd.prog.cellsOf 24 = 1 := by kernel_rfl
    have g0 := hff 0 _ rfl
    have g1 := hff 1 _ rfl
    have g2 := hff 2 _ rfl
    have g3 := hff 3 _ rfl
    simp [s0, s1, s2, Value.cells] at g0 g1 g2 g3
    obtain ⟨u0, hu0, o0⟩ := hcell 0 v0 rfl
    obtain ⟨u1, hu1, o1⟩ := hcell 1 v1 rfl
    injection hu0 with hu0
    injection hu1 with hu1
    subst hu0 hu1
    obtain ⟨z2, e2, _, w2⟩ := DataW.trod_int Tryd.underlying24 g2
    obtain ⟨z3, e3, _, w3⟩ := DataW.trod_int Tryd.underlying24 g3
    injection e2 with e2 _
    injection e3 with e3 _
    subst e2 e3
    obtain ⟨m2, rfl⟩ := un_of w2
    obtain ⟨m3, rfl⟩ := un_of w3
    injection hxy with hd _
    have hwt : ∀ n, (n ∈ y0.1.weights Tryd.prog 22 ∨ n ∈ y1.1.weights Tryd.prog 23) → n ≤ reachBytes := by
      intro n hn
      refine hsz n ?_
      rw [hd]
      simp only [DataW.weights, ht, List.map_cons, List.map_nil, DataW.weightsEach, List.mem_append]
      rcases hn with hn | hn
      · exact .inl hn
      · exact .inr (.inl hn)
    obtain ⟨d0, p0⟩ := y0
    obtain ⟨d1, p1⟩ := y1
    have ok0 : Value.okWide Tryd.prog W r b0 22 v0 := by
      simp only [Value.okWide, Tryd.underlying22]; exact o0
    have ok1 : Value.okWide Tryd.prog W r b0 23 v1 := by
      simp only [Value.okWide, Tryd.underlying23]; exact o1
    obtain ⟨a0, n0, c0, rfl⟩ := okWide_slice Tryd.underlying22 ok0
    obtain ⟨a1, n1, c1, rfl⟩ := okWide_slice Tryd.underlying23 ok1
    obtain ⟨zs, hN⟩ := nl_arg ok0 Tryd.underlying22 Tryd.underlying9 (by kernel_rfl) g0 (fun n hn => hwt n (.inl hn))
    have hI : ∀ n v x, DataW.trod enc Tryd.prog W 0 (fun _ => true) true n 3 [v] = some x → ∃ a : Int, v = Value.int .i64 a := by
      intro n v x h
      obtain ⟨z, e, _⟩ := DataW.trod_int Tryd.underlying3 h
      injection e with e _
      exact ⟨z, e⟩
    obtain ⟨es, hE⟩ := p2_arg (Value.int .i64) (Value.int .i64) Tryd.underlying23 Tryd.underlying35 (by kernel_rfl) rfl rfl (by kernel_rfl) (by kernel_rfl) hI hI (by decide +kernel) g1 (fun n hn => hwt n (.inr hn))
    exact ⟨⟨zs, es, m2, m3⟩, ⟨a0, n0, c0, a1, n1, c1, rfl, hN, hE⟩⟩
end Go.Proofs.YteldeiihjeddoaaDoor
namespace Go.Proofs.YteldeiihjeddoaaDoor
open Go.RowKit Go.ChangeShapes
/-- a slice whose elements are one cell each: its cells -/
theorem gen_arg {H : Type} {enc : TypeId × Value → H} {P : Program} {W : World} {t e : TypeId} {fuel len cap : Nat} {a : Option Addr} {x : DataW H × List MemPlace} {R : Value → Prop}
    (ht : P.underlying t = some (.slice e)) (hc : P.cellsOf e = 1)
    (hel : ∀ n cs y, DataW.trod enc P W 0 (fun _ => true) true n e cs = some y → ∃ u, cs = [u] ∧ R u)
    (hf : DataW.trod enc P W 0 (fun _ => true) true fuel t [.slice a len cap] = some x) :
    len ≤ cap ∧ cap ≤ maxLen ∧ (cap = 0 ∨ ∃ els rest, x.1 = .slice els rest ∧ els.length + rest.length = cap) ∧ ∃ vs : List Value, vs.length = len ∧ Reads W W.heap.size 1 a len vs ∧ ∀ v ∈ vs, R v := by
  rcases DataW.trod_slice ht hf with ⟨h1, h2⟩ | ⟨ad, ln, cp, elems, rest, n, _, h1, rfl, hb, hl, hm, hlen, hel', hsp, _⟩
  · injection h1 with h1 _
    injection h1 with e1 e2 e3
    subst e1 e2 e3
    exact ⟨Nat.le_refl _, Nat.zero_le _, .inl rfl, [], rfl, Reads.none_, fun v hv => by cases hv⟩
  · injection h1 with h1 _
    injection h1 with e1 e2 e3
    subst e1 e2 e3
    have cell : ∀ i, i < len → ∃ u, W.cell? (ad.add i) = some u ∧ R u := fun i hi => by
      have h3 := hel' i hi
      have hi' : i < elems.length := by omega
      rw [List.getElem?_eq_getElem hi', hc, Nat.mul_one, Option.bind_eq_some_iff] at h3
      obtain ⟨cs, h4, h5⟩ := h3
      obtain ⟨u, rfl, hr⟩ := hel _ _ _ h5
      exact ⟨u, cell_of_cells?_one h4, hr⟩
    refine ⟨hl, hm, .inr ⟨_, _, rfl, ?_⟩, (List.range len).map (fun i => (W.cell? (ad.add i)).getD undef), by simp, ⟨by simp, fun hn => ⟨ad, rfl, ?_, fun j u hj => ?_⟩⟩, fun v hv => ?_⟩
    · rw [List.length_map, List.length_map, hlen, (hsp rfl).1]; omega
    · obtain ⟨u, h4, _⟩ := cell 0 hn
      have := World.block_lt_of_cell? W _ h4
      rwa [block_of_add] at this
    · rw [List.getElem?_map, Option.map_eq_some_iff] at hj
      obtain ⟨i, hi, rfl⟩ := hj
      obtain ⟨hi1, hi2⟩ := List.getElem?_eq_some_iff.1 hi
      rw [List.getElem_range] at hi2
      subst hi2
      obtain ⟨u, h4, _⟩ := cell j (by simpa using hi1)
      rw [h4]; rfl
    · rw [List.mem_map] at hv
      obtain ⟨i, hi, rfl⟩ := hv
      obtain ⟨u, h4, hr⟩ := cell i (by simpa using hi)
      rw [h4]; exact hr
end Go.Proofs.YteldeiihjeddoaaDoor
namespace Go.Proofs.YteldeiihjeddoaaDoor
open Go.RowKit Go.ChangeShapes Go.WideShapes
theorem iv_of (vs : List Value) (h : ∀ v ∈ vs, ∃ x : Int, v = Value.int .i64 x) : ∃ l : List Int, vs = iv l := by
  induction vs with
  | nil => exact ⟨[], rfl⟩
  | cons v vs ih =>
    obtain ⟨l, hl⟩ := ih (fun v hv => h v (List.mem_cons_of_mem _ hv))
    obtain ⟨x, hx⟩ := h v List.mem_cons_self
    exact ⟨x :: l, by rw [hl, hx]; rfl⟩
theorem i64_arg {H : Type} {enc : TypeId × Value → H} {W : World} {fuel len cap : Nat} {a : Option Addr} {d : DataW H} {p : List MemPlace}
    (hf : DataW.trod enc Tryd.prog W 0 (fun _ => true) true fuel 27 [.slice a len cap] = some (d, p))
    (hsz : ∀ n, n ∈ d.weights Tryd.prog 27 → n ≤ reachBytes) : ∃ l : List Int, l.length = len ∧ Reads W W.heap.size 1 a len (iv l) ∧ len ≤ 17592186044416 := by
  obtain ⟨h1, h2, h3, vs, h4, h5, h6⟩ := gen_arg (R := fun u => ∃ x : Int, u = .int .i64 x) Tryd.underlying27 (by kernel_rfl) (fun n cs y h => by
    obtain ⟨z, rfl, _, _⟩ := DataW.trod_int Tryd.underlying2 h
    exact ⟨_, rfl, z, rfl⟩) hf
  obtain ⟨l, rfl⟩ := iv_of vs h6
  refine ⟨l, by simpa [iv] using h4, h5, ?_⟩
  rcases h3 with h3 | ⟨els, rest, h3, h7⟩
  · omega
  · have h3' : d = .slice els rest := h3
    have hw : d.weights Tryd.prog 27 = (els.length + rest.length) * Tryd.prog.bytesOf 2 :: (DataW.weightsAll Tryd.prog 2 els ++ DataW.weightsAll Tryd.prog 2 rest) := by
      rw [h3', DataW.weights, Tryd.underlying27]
    have hb : Tryd.prog.bytesOf 2 = 8 := by kernel_rfl
    have := hsz ((els.length + rest.length) * Tryd.prog.bytesOf 2) (by rw [hw]; exact List.mem_cons_self)
    rw [hb] at this
    unfold reachBytes at this
    omega
set_option maxRecDepth 100000 in
theorem seen_arg {H : Type} {enc : TypeId × Value → H} {W : World} {r : Reach} {b0 : Nat} {v : Value} {d : DataW H} {p : List MemPlace}
    (hok : Value.okWide Tryd.prog W r b0 29 v) (hf : DataW.Trod enc Tryd.prog W 0 (fun _ => true) true 29 v d p)
    (hsz : ∀ n, n ∈ d.weights Tryd.prog 29 → n ≤ reachBytes) : ∃ x, SnAt W v x := by
  have ht := Tryd.underlying29
  have hok2 := hok
  simp only [Value.okWide, ht] at hok2
  obtain ⟨cs, rfl, hcs, ts, hts, _, hcell⟩ := hok2
  have hc4 : cs.size = 2 := by rw [hcs]; kernel_rfl
  have hts4 : Tryd.prog.cellTypes Tryd.prog.depth 29 = some [27, 24] := by kernel_rfl
  rw [hts] at hts4
  injection hts4 with hts4
  subst hts4
  obtain ⟨fuel, hf⟩ := hf
  obtain ⟨xs, k, _, hxy, hlen, hxl, hff⟩ := DataW.trod_struct ht hf
  obtain ⟨l, rfl⟩ : ∃ l : List Value, cs = l.toArray := ⟨cs.toList, by simp⟩
  have hl4 : l.length = 2 := by simpa using hc4
  match l, hl4, xs, hxl with
  | [v0, v1], _, [y0, y1], _ =>
    have s0 : Tryd.prog.cellsOf 27 = 1 := by kernel_rfl
    have s1 : Tryd.prog.cellsOf 24 = 1 := by kernel_rfl
    have g0 := hff 0 _ rfl
    have g1 := hff 1 _ rfl
    simp [s0, s1, Value.cells] at g0 g1
    obtain ⟨u0, hu0, o0⟩ := hcell 0 v0 rfl
    injection hu0 with hu0
    subst hu0
    obtain ⟨z2, e2, _, w2⟩ := DataW.trod_int Tryd.underlying24 g1
    injection e2 with e2 _
    subst e2
    obtain ⟨m2, rfl⟩ := un_of w2
    injection hxy with hd _
    have hwt : ∀ n, n ∈ y0.1.weights Tryd.prog 27 → n ≤ reachBytes := by
      intro n hn
      refine hsz n ?_
      rw [hd]
      simp only [DataW.weights, ht, List.map_cons, List.map_nil, DataW.weightsEach, List.mem_append]
      exact .inl hn
    obtain ⟨d0, p0⟩ := y0
    have ok0 : Value.okWide Tryd.prog W r b0 27 v0 := by
      simp only [Value.okWide, Tryd.underlying27]; exact o0
    obtain ⟨a0, n0, c0, rfl⟩ := okWide_slice Tryd.underlying27 ok0
    obtain ⟨zs, h1, h2, h3⟩ := i64_arg g0 hwt
    exact ⟨⟨zs, m2⟩, ⟨a0, n0, c0, rfl, h1, h2, h3⟩⟩
end Go.Proofs.YteldeiihjeddoaaDoor
