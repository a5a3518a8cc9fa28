/- The law RuleJoin. Conditions: the rules read as listed. -/
import Derived.Test.YtmeenhfclnkjhaaDoorRuleAskW
import Derived.Test.YtmeenhfclnkjhaaDoorRuleBackW
import Derived.Deep.QuietTactic
import Derived.BigQuiet
namespace Go.Proofs.YtmeenhfclnkjhaaDoor
open Go.RowKit Go.Shelf
theorem run_geq_str {x y : ByteArray} (h : Op.bytesLess x.toList y.toList = true) (w : World) : (binOp .geq 9 (.string x) (.string y)).run Tryd.prog w = .ok (.bool false) w := by
  simp [binOp, Op.stringOp, h]
set_option maxHeartbeats 8000000 in
set_option maxRecDepth 100000 in
theorem ruleJoin_walk (p : Option Addr) (n c : Nat) (l : List (Hd × Hd)) (t s : ByteArray) (w : World) (h : RulesIn w p n c l) :
    Calls Tryd.prog 5 #[.slice p n c, .string t, .string s] w fun e w' => e = .returned (.bool true) ∧ Below w.heap.size w w' := by
  obtain ⟨W0, hW0⟩ : ∃ W0, W0 = (w.alloc (.cells #[.string t] 9)).alloc (.cells #[.string s] 9) := ⟨_, rfl⟩
  have hb0 : Below w.heap.size w W0 := by rw [hW0]; exact (rb1 w _).trans ((rb1 _ _).mono (by simp))
  have c1 : W0.cell? ⟨w.heap.size, 0, none⟩ = some (.string t) := by rw [hW0, (rb1 (w.alloc (.cells #[.string t] 9)) _).cell (by show w.heap.size < _; simp)]; simp
  have c2 : W0.cell? ⟨w.heap.size + 1, 0, none⟩ = some (.string s) := by
    rw [hW0]
    have hs : (w.alloc (.cells #[.string t] 9)).heap.size = w.heap.size + 1 := by simp
    rw [← hs]; simp
  have HB0 := Lib.hid hb0
  have hz0 : W0.heap.size = w.heap.size + 2 := by rw [hW0]; simp
  have HC1 := Lib.hid c1
  have HC2 := Lib.hid c2
  have HN := Lib.hid (fun u (hu : Below W0.heap.size W0 u) => h.below (hb0.trans (hu.mono hb0.size)))
  have HL := Lib.hid (rules_below W0)
  clear hb0 c1 c2 h
  go_enter Tryd.func5, Tryd.ntmps5
  go_upto_region 1 with fail
  rw [← hW0]
  clear hW0
  go_wp2_with fail
  refine HL.out.mono ?_
  rintro e w1 ⟨rfl, hb⟩
  have HB1 := Lib.hid hb
  clear hb HL
  go_wp2_with fail
  refine (JoinR_ok p n c l w1 (HN.out _ HB1.out)).mono ?_
  rintro e w2 ⟨v, E, rfl, -, hE1, hb, hE2⟩
  have HB2 := Lib.hid (HB1.out.trans (hb.mono HB1.out.size))
  clear hb
  by_cases hE : E = 0
  · obtain ⟨pr, cr, lo, lo2, us, h, rs, rfl, hu1, hu2, hu3, hlo, hlo2, ho, hz, ht1, ht2, ho2, hd1, hd2⟩ := hE2 hE
    subst hE
    have hln : rs.length = us.length := by have := congrArg List.length hz; simpa using this
    have hh : ∀ u, (hdOf (h u) (grpR (l.map rl) (fun _ => []) u)).zs = grpR (l.map rl) (fun _ => []) u := fun u => by
      obtain ⟨q, cq, _, e⟩ := hdOf_v (ho2 u) (grpR (l.map rl) (fun _ => []) u)
      rw [e]
    obtain ⟨j1, j2⟩ := join_has hu2 hz hh t s
    have HJ1 := Lib.hid j1
    have HJ2 := Lib.hid j2
    have HA : Hid (AskR w2 pr us.length cr rs) := by
      refine ⟨P2At.own (f := rF) (g := rG) ho (by omega), fun x hx => ⟨con_own (ht1 x hx) ?_, ?_⟩⟩
      · have : (x.1.zs, x.2) ∈ us.map fun u => ([txt u], hdOf (h u) (grpR (l.map rl) (fun _ => []) u)) := by rw [← hz]; exact List.mem_map_of_mem hx
        obtain ⟨u, _, e⟩ := List.mem_map.1 this
        injection e with e1 e2
        rw [← e1]; simp
      · have : (x.1.zs, x.2) ∈ us.map fun u => ([txt u], hdOf (h u) (grpR (l.map rl) (fun _ => []) u)) := by rw [← hz]; exact List.mem_map_of_mem hx
        obtain ⟨u, _, e⟩ := List.mem_map.1 this
        injection e with e1 e2
        obtain ⟨q, cq, e3, e4⟩ := hdOf_v (ho2 u) (grpR (l.map rl) (fun _ => []) u)
        have hv : x.2.v = h u := by rw [← e2, e4, e3]; rfl
        have hzz : x.2.zs = grpR (l.map rl) (fun _ => []) u := by rw [← e2]; exact hh u
        have ho3 := ho2 u
        rw [← hv, ← hzz] at ho3
        refine con_own ho3 ?_
        rcases ho3.2 with ⟨_, h0⟩ | ⟨_, _, _, _, _, _, h1, h2, _⟩
        · omega
        · unfold maxLen at h2; omega
    have HA2 : Hid (AskR w2 p n c l) := (HN.out _ HB2.out).ask
    have HTG : Hid (∀ (k : Nat) (u : Bs), us[k]? = some u → ∃ (b cc : Nat) (x : Hd × Hd), rs[k]? = some x ∧ x.1.p = some ⟨b, 0, none⟩ ∧ x.1.n = 1 ∧ x.1.c = cc ∧ w2.cell? ⟨b, 0, none⟩ = some (.string (txt u))) := by
      show ∀ (k : Nat) (u : Bs), _
      intro k u hk
      have hkl := (List.getElem?_eq_some_iff.1 hk).1
      have hxr := List.getElem?_eq_getElem (show k < rs.length by omega)
      obtain ⟨x, hx⟩ : ∃ x, x = rs[k] := ⟨_, rfl⟩
      rw [← hx] at hxr
      have h1 : (rs.map (fun x => (x.1.zs, x.2)))[k]? = some (x.1.zs, x.2) := by rw [List.getElem?_map, hxr]; rfl
      rw [hz, List.getElem?_map, hk] at h1
      have h2 : [txt u] = x.1.zs := by
        have := Option.some.inj h1
        injection this
      have ho3 := ht1 x (List.mem_of_getElem? hxr)
      rw [← h2] at ho3
      rcases ho3.2 with ⟨_, h0⟩ | ⟨b, cap, cur, e, _, _, _, _, _, _⟩
      · simp at h0
      · unfold Hd.v at e
        injection e with e1 e2 e3
        have hc := ho3.cells (g := b) (by unfold Hd.v; rw [e1]; rfl) 0 (.string (txt u)) rfl
        rw [Addr.add_lit] at hc
        exact ⟨b, x.1.c, x, hxr, e1, by rw [e2]; rfl, rfl, hc⟩
    clear ho hz ht1 ht2 ho2 hd1 hd2 hh hu2 hE2
    have HU := Lib.hid hu1
    clear hu1 j1 j2
    go_wp2
    go_loopw [29] (fun i wr => ∃ k : Nat, k ≤ us.length ∧ i = .int .i64 k ∧ Hid (Below w2.heap.size w2 wr)) (fun i _ => us.length - (intOf i).toNat)
    case atStart => exact ⟨0, Nat.zero_le _, rfl, Below.refl _ _⟩
    case round =>
      obtain ⟨k, hk, rfl, HW⟩ := hrel
      by_cases hlt : k < us.length
      · have hel := List.getElem?_eq_getElem hlt
        obtain ⟨b, cc, x, hx, xp, xn, xc, hcell⟩ := HTG.out k _ hel
        obtain ⟨b0, o0, rfl, hb0, e1, e2⟩ := (HA.out.below HW.out).at_.cell hx
        have hct := (HW.out.cell (World.block_lt_of_cell? w2 _ hcell)).trans hcell
        generalize hu : us[k] = u at *
        obtain ⟨⟨p1, n1, cc1, T⟩, ⟨p2, n2, cc2, N⟩⟩ := x
        simp only at xp xn xc
        subst xp xn xc
        rw [← Nat.add_assoc] at e2
        simp only [rF, rG, Hd.v] at e1 e2
        have hk1 : (k : Int) < (us.length : Int) := by omega
        by_cases hk0 : k = 0
        · subst hk0
          simp only [Nat.zero_mul, Nat.add_zero] at e1 e2
          obtain ⟨W9, hW9⟩ : ∃ W9, W9 = wr.alloc (.cells #[.slice (some ⟨b, 0, none⟩) 1 cc1, .slice p2 n2 cc2] 37) := ⟨_, rfl⟩
          have HB9 : Hid (Below wr.heap.size wr W9) := by rw [hW9]; exact rb1 wr _
          have d1 : W9.cell? ⟨wr.heap.size, 0, none⟩ = some (.slice (some ⟨b, 0, none⟩) 1 cc1) := by rw [hW9]; simp
          go_upto_region 11 with fail
          rw [← hW9]
          clear hW9
          go_quiet (fail)
          go_wp2
          go_roundw
          case rel => exact ⟨0 + 1, by omega, by go_num, HW.out.trans ((below_drawsP HB9.out _).mono HW.out.size)⟩
          case measure => simp [intOf]; omega
        · have hkd : decide ((0 : Int) < (k : Int)) = true := decide_eq_true (by omega)
          have hkn : decide (0 < k) = true := decide_eq_true (by omega)
          obtain ⟨k', rfl⟩ : ∃ k', k = k' + 1 := ⟨k - 1, by omega⟩
          have hel' := List.getElem?_eq_getElem (show k' < us.length by omega)
          obtain ⟨b', cc', x', hx', xp', xn', xc', hcell'⟩ := HTG.out k' _ hel'
          obtain ⟨b0', o0', hee, _, e1', e2'⟩ := (HA.out.below HW.out).at_.cell hx'
          injection hee with hee
          injection hee with hee1 hee2
          subst hee1 hee2
          have hct' := (HW.out.cell (World.block_lt_of_cell? w2 _ hcell')).trans hcell'
          have HLT : Hid (us[k']'(by omega) < u) := by
            show _ < _
            rw [← hu]
            exact List.pairwise_iff_getElem.1 HU.out k' (k' + 1) (by omega) hlt (by omega)
          generalize us[k']'(by omega) = u' at *
          obtain ⟨⟨p1', n1', cc1', T'⟩, ⟨p2', n2', cc2', N'⟩⟩ := x'
          simp only at xp' xn' xc'
          subst xp' xn' xc'
          simp only [rF, Hd.v] at e1'
          obtain ⟨W9, hW9⟩ : ∃ W9, W9 = wr.alloc (.cells #[.slice (some ⟨b, 0, none⟩) 1 cc1, .slice p2 n2 cc2] 37) := ⟨_, rfl⟩
          have HB9 : Hid (Below wr.heap.size wr W9) := by rw [hW9]; exact rb1 wr _
          have d1 : W9.cell? ⟨wr.heap.size, 0, none⟩ = some (.slice (some ⟨b, 0, none⟩) 1 cc1) := by rw [hW9]; simp
          have f1 : W9.cell? ⟨b0, o0 + k' * 2, none⟩ = some (.slice (some ⟨b', 0, none⟩) 1 cc1') := (HB9.out.cell hb0).trans e1'
          have f2 : W9.cell? ⟨b, 0, none⟩ = some (.string (txt u)) := (HB9.out.cell (World.block_lt_of_cell? wr _ hct)).trans hct
          have f3 : W9.cell? ⟨b', 0, none⟩ = some (.string (txt u')) := (HB9.out.cell (World.block_lt_of_cell? wr _ hct')).trans hct'
          have hbl : Op.bytesLess (txt u').toList (txt u).toList = true := by
            rw [Proofs.bytesLess_eq, Lib.toList_data, Lib.toList_data, txt_list, txt_list]; exact decide_eq_true HLT.out
          have hge : ∀ w, (binOp .geq 9 (.string (txt u')) (.string (txt u))).run Tryd.prog w = .ok (.bool false) w := run_geq_str hbl
          clear hbl
          have hkp : 0 < k' + 1 := by omega
          have s1 : IntKind.i64.wrap (k' : Int) = (k' : Int) := IntWalk.i64_in _ (by omega)
          have s3 : (0 : Int) ≤ (k' : Int) := by omega
          have s4 : (k' : Int) < (us.length : Int) := by omega
          go_upto_region 11 with fail
          rw [← hW9]
          clear hW9
          go_quiet (fail)
          go_wp2
          go_roundw
          case rel => exact ⟨k' + 1 + 1, by omega, by go_num, HW.out.trans ((below_drawsP HB9.out _).mono HW.out.size)⟩
          case measure => simp [intOf]; omega
      · obtain rfl : k = us.length := by omega
        have hb2s := HB2.out.size
        have m1 : w2.cell? ⟨w.heap.size, 0, none⟩ = some (.string t) := (HB2.out.cell (by rw [hz0]; show w.heap.size < _; omega)).trans HC1.out
        have m2 : w2.cell? ⟨w.heap.size + 1, 0, none⟩ = some (.string s) := (HB2.out.cell (by rw [hz0]; show w.heap.size + 1 < _; omega)).trans HC2.out
        have hcc : ∀ (u : World), Below w2.heap.size w2 u → u.cell? ⟨w.heap.size, 0, none⟩ = some (.string t) ∧ u.cell? ⟨w.heap.size + 1, 0, none⟩ = some (.string s) := fun u hu => ⟨(hu.cell (by show w.heap.size < _; omega)).trans m1, (hu.cell (by show w.heap.size + 1 < _; omega)).trans m2⟩
        have HCC := Lib.hid hcc
        have HS1 : Hid (∀ u, Below w2.heap.size w2 u → Calls Tryd.prog 21 #[.slice p n c, .pointer (some ⟨w.heap.size, 0, none⟩), .pointer (some ⟨w.heap.size + 1, 0, none⟩)] u fun e w' => e = .returned (.bool (l.any (hasB t s))) ∧ Below w2.heap.size w2 w') := by
          show ∀ u, _ → _
          intro u hu
          refine (lawHas_ok _ _ t s p n c l u (HA2.out.below hu) (HCC.out u hu).1 (HCC.out u hu).2).mono ?_
          rintro e w' ⟨h1, h2⟩
          exact ⟨h1, hu.trans (h2.mono hu.size)⟩
        have HS2 : Hid (∀ u, Below w2.heap.size w2 u → Calls Tryd.prog 21 #[.slice pr us.length cr, .pointer (some ⟨w.heap.size, 0, none⟩), .pointer (some ⟨w.heap.size + 1, 0, none⟩)] u fun e w' => e = .returned (.bool (l.any (hasB t s))) ∧ Below w2.heap.size w2 w') := by
          show ∀ u, _ → _
          intro u hu
          refine (lawHas_ok _ _ t s _ _ _ rs u (HA.out.below hu) (HCC.out u hu).1 (HCC.out u hu).2).mono ?_
          rintro e w' ⟨h1, h2⟩
          exact ⟨by rw [h1, HJ1.out], hu.trans (h2.mono hu.size)⟩
        have HS3 : Hid (∀ u, Below w2.heap.size w2 u → Calls Tryd.prog 25 #[.slice p n c, .pointer (some ⟨w.heap.size, 0, none⟩)] u fun e w' => e = .returned (.bool (l.any (isB2 t))) ∧ Below w2.heap.size w2 w') := by
          show ∀ u, _ → _
          intro u hu
          refine (lawIs_ok _ t p n c l u (HA2.out.below hu) (HCC.out u hu).1).mono ?_
          rintro e w' ⟨h1, h2⟩
          exact ⟨h1, hu.trans (h2.mono hu.size)⟩
        have HS4 : Hid (∀ u, Below w2.heap.size w2 u → Calls Tryd.prog 25 #[.slice pr us.length cr, .pointer (some ⟨w.heap.size, 0, none⟩)] u fun e w' => e = .returned (.bool (l.any (isB2 t))) ∧ Below w2.heap.size w2 w') := by
          show ∀ u, _ → _
          intro u hu
          refine (lawIs_ok _ t _ _ _ rs u (HA.out.below hu) (HCC.out u hu).1).mono ?_
          rintro e w' ⟨h1, h2⟩
          exact ⟨by rw [h1, HJ2.out], hu.trans (h2.mono hu.size)⟩
        clear hcc m1 m2
        generalize l.any (hasB t s) = v1 at *
        generalize l.any (isB2 t) = v2 at *
        have hv1 : (v1 == v1) = true := by simp
        have hv2 : (v2 == v2) = true := by simp
        go_wp2_with (first
          | (go_at_call 21; have hh := HS1.out; clear HS1; refine (hh _ HW.out).mono ?_; clear hh; rintro e x1 ⟨rfl, hb⟩; have HX1 := Lib.hid hb; clear hb)
          | (go_at_call 21; refine (HS2.out _ HX1.out).mono ?_; rintro e x2 ⟨rfl, hb⟩; have HX2 := Lib.hid hb; clear hb)
          | (go_at_call 25; have hh := HS3.out; clear HS3; refine (hh _ HX2.out).mono ?_; clear hh; rintro e x3 ⟨rfl, hb⟩; have HX3 := Lib.hid hb; clear hb)
          | (go_at_call 25; refine (HS4.out _ HX3.out).mono ?_; rintro e x4 ⟨rfl, hb⟩; have HX4 := Lib.hid hb; clear hb))
        go_ret
        exact ⟨by simp, HB0.out.trans ((HB2.out.trans (HX4.out.mono HB2.out.size)).mono HB0.out.size)⟩
  · have hv := hE1 hE
    subst hv
    obtain ⟨e1, e2⟩ := int_ne' hE
    unfold nilS
    go_wp2
    go_ret
    exact ⟨rfl, HB0.out.trans (HB2.out.mono HB0.out.size)⟩
end Go.Proofs.YtmeenhfclnkjhaaDoor
