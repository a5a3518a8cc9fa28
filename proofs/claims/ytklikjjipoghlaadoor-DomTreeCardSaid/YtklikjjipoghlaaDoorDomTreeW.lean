/- The walk through the law DomTree. Conditions: the table reads as listed. -/
import Derived.Test.YtklikjjipoghlaaDoorDomTreeP
import Derived.Test.YtklikjjipoghlaaDoorDomLawsW
import Derived.Deep.QuietTactic
import Derived.BigQuiet
namespace Go.Proofs.YtklikjjipoghlaaDoor
open Go.RowKit
theorem drewN_below {b : Nat} {w w1 : World} (h : Below b w w1) (k : Nat) : Below b w (w1.drewN k) := ⟨h.os, h.tape, h.output, h.size, h.block⟩
set_option maxRecDepth 100000 in
set_option maxHeartbeats 4000000 in
theorem domTree_yes (p : Option Addr) (n c : Nat) (r : List B) (root m : Nat) (h : chkD r [(root : Int), (m : Int)] = 0) (w : World) (hR : RowsAt w p n r) (hT : Tab w) :
    Calls Tryd.prog 10 #[.slice p n c, .int .i64 (root : Int), .int .i64 (m : Int)] w fun e w' => e = .returned (.bool true) ∧ Below w.heap.size w w' := by
  have hl := hR.len
  subst hl
  have hbig := hR.big
  obtain ⟨hv, hin⟩ := chkD_in h
  have hr : root < r.length := by have := hin (root : Int) (by simp); omega
  have hm : m < r.length := by have := hin (m : Int) (by simp); omega
  have h64 := hv.1
  have h1 : chkD r [(root : Int)] = 0 := chkD_zero.2 ⟨chkR_zero.2 hv, fun x hx => hin x (by simp at hx; simp [hx])⟩
  have H := Lib.hid h
  have H1 := Lib.hid h1
  have HV := Lib.hid hv
  unfold maxLen at hbig
  clear h hv hin h1
  go_enter Tryd.func10, Tryd.ntmps10
  go_wp2_with fail
  refine (doms_below w hT).mono ?_
  rintro e w1 ⟨rfl, hb1⟩
  have hR1 := hR.below hb1
  have hT1 := hT.below hb1
  clear hR hT
  go_wp2_with fail
  refine (Doms_yes p _ c r root H1.out w1 hR1 hT1).mono ?_
  rintro e w2 ⟨D, ds, gd, cd, rfl, hD, hL, hownd, hb2⟩
  have hR2 := hR1.below hb2
  have hT2 := hT1.below hb2
  have hb12 := below_next hb1 hb2
  have HD := Lib.hid hD
  have HL := Lib.hid hL
  clear hR1 hT1 hb1 hb2 hD hL
  go_wp2_with fail
  refine (Over_yes p _ c r root m H.out w2 hR2 hT2).mono ?_
  rintro e w3 ⟨D', xs, gx, cx, rfl, hD', hS', hownx, hb3⟩
  have hownd3 := own_below hownd hb3
  have hR3 := hR2.below hb3
  have hT3 := hT2.below hb3
  have hb13 := below_next hb12 hb3
  have hS := sortD_other HV.out hr HD.out hD' hS'
  have hxl := sortD_le HV.out hr HD.out hS
  have HS := Lib.hid hS
  have hd0 := doms_root HV.out hr HD.out HL.out
  have hdl := Reads.of_own hownd3
  obtain ⟨ad, rfl, hadb, hc0⟩ := hdl.izs_at hr
  rw [hd0] at hc0
  have HDL := Lib.hid hdl
  clear hR2 hT2 hb12 hb3 hD' hS' hS hd0 hdl hownd
  have i1 : (0 : Int) ≤ (root : Int) := by omega
  have i2 : (root : Int) < (r.length : Int) := by omega
  have hsz3 := hb13.size
  by_cases hrch : Rch r root m
  · obtain ⟨hpos, hlast⟩ := HS.out.last HV.out hr HD.out hrch
    have hfirst := HS.out.first HV.out hr HD.out hrch
    have HLA : Hid (xs.getD (xs.length - 1) 0 = m) := hlast
    have HFI : Hid (xs.getD 0 0 = root) := hfirst
    have e0 : ((xs.length : Int) == 0) = false := beq_eq_false_iff_ne.2 (by omega)
    have HOX := Lib.hid hownx
    have HOD := Lib.hid hownd3
    clear hlast hfirst hrch hR3 hT3 hownx hownd3
    go_wp2_with fail
    go_loopw [13, 14] (fun v i wr => ∃ k : Nat, k ≤ xs.length ∧ i = .int .i64 (atOf xs k) ∧ wr.ownsRow w3.heap.size 3 1 v k (izs (upto xs k)) ∧ Below w3.heap.size w3 wr) (fun v _ _ => xs.length - rowLen v)
    case atStart =>
      refine ⟨0, Nat.zero_le _, ?_, World.ownsRow_nil _ _ _ _, Below.refl _ _⟩
      rw [← HLA.out]
      unfold atOf
      rw [if_pos hpos]; rfl
    case round =>
      obtain ⟨k, hk, rfl, hown, hbr⟩ := hrel
      obtain ⟨wo, rfl⟩ : ∃ wo : World, wo = wr := ⟨_, rfl⟩
      obtain ⟨gr, cr, rfl, hfb⟩ := own_form hown
      have hszr := hbr.size
      by_cases hlt : k < xs.length
      · have ha : atOf xs k = (xs.getD (xs.length - 1 - k) 0 : Int) := by unfold atOf; rw [if_pos hlt]
        obtain ⟨hy, hsy⟩ := at_step HV.out hr HD.out HL.out HS.out hlt
        have HUS := Lib.hid (upto_step xs k hlt)
        rw [ha]
        generalize xs.getD (xs.length - 1 - k) 0 = y at *
        have HSY := Lib.hid hsy
        have HOW := Lib.hid hown
        have HBR := Lib.hid hbr
        have HFB := Lib.hid hfb
        have i3 : (0 : Int) ≤ (y : Int) := by omega
        have i4 : (y : Int) < (r.length : Int) := by omega
        have HA : Hid (∀ w', Below w3.heap.size w3 w' → w'.cell? (ad.add y) = some (.int .i64 (atOf xs (k + 1)))) := by
          show ∀ w', _ → _
          intro w' hb
          have hq := own_below HOD.out hb
          obtain ⟨ad', had, _, hc⟩ := (Reads.of_own hq).izs_at hy
          injection had with had
          subst had
          rw [hc, HSY.out]
        clear ha hsy hown hbr hfb hc0
        go_wp2_with (at_builtin; refine app_int _ rfl _ _ rfl w3.heap.size _ k _ rfl (HOW.out.alloc _) wo.heap.size (.int .i64 (y : Int)) rfl rfl ?c1 (by omega) ?c2 ?_; rotate_right; intro v' w4 hown4 hgrow4; rw [← izs_snoc, HUS.out] at hown4; have hb4 : Below w3.heap.size w3 w4 := (HBR.out.alloc hszr _).grown hgrow4 (by simp; omega) (fun k hk => (HFB.out k hk).1); have hc4 := HA.out w4 hb4; clear hgrow4)
        case c1 => simp
        case c2 => simp; omega
        obtain ⟨gv, cv, rfl, _⟩ := own_form hown4
        go_roundw
        case rel => exact ⟨k + 1, by omega, rfl, hown4, hb4⟩
        case measure => simp [rowLen]; omega
      · obtain rfl : k = xs.length := by omega
        have ha : atOf xs xs.length = -1 := by unfold atOf; rw [if_neg (by omega)]
        rw [ha]
        rw [upto_all] at hown
        have HOW := Lib.hid hown
        have HBR := Lib.hid hbr
        have HFB := Lib.hid hfb
        clear ha hown hbr hfb hc0
        go_wp2_with fail
        refine (reverse_own hpos HOW.out).mono ?_
        rintro e w5 ⟨rfl, hown5, hg5⟩
        rw [List.reverse_reverse] at hown5
        have hb5 : Below w3.heap.size w3 w5 := HBR.out.grown hg5 (by omega) (fun k hk => (HFB.out k hk).1)
        have hownx5 := own_below HOX.out hb5
        rw [← izs_cast] at hownx5
        have hrd := (Reads.of_own hown5).izs_at hpos
        obtain ⟨ar, rfl, _, hcr⟩ := hrd
        have hv0 : (xs.map fun x : Nat => (x : Int)).getD 0 0 = (root : Int) := by
          rw [← HFI.out, List.getD_eq_getElem?_getD, List.getD_eq_getElem?_getD, List.getElem?_map, List.getElem?_eq_getElem hpos]; rfl
        rw [hv0] at hcr
        have hcr0 : w5.cell? ar = some (.int .i64 (root : Int)) := by simpa [Addr.add] using hcr
        have HB15 := Lib.hid (below_next hb13 hb5)
        have HX5 := Lib.hid hownx5
        have HO5 := Lib.hid hown5
        clear hcr hv0 hown5 hownx5 hb5 hg5
        go_wp2_with fail
        refine (equal_own hpos HO5.out HX5.out).mono ?_
        rintro e w6 ⟨rfl, q, rfl⟩
        have hcr1 : (w5.drewN q).cell? ar = some (.int .i64 (root : Int)) := hcr0
        clear hcr0
        go_wp2
        go_ret
        exact ⟨by simp, drewN_below HB15.out _⟩
  · have hx := HS.out.none_ HV.out hr HD.out hrch
    have hdm := doms_none HV.out hr HD.out HL.out hm hrch
    obtain ⟨ad', had, _, hc1⟩ := HDL.out.izs_at hm
    injection had with had
    subst had
    rw [hdm] at hc1
    have i3 : (0 : Int) ≤ (m : Int) := by omega
    have i4 : (m : Int) < (r.length : Int) := by omega
    have r64 : root < 64 := by omega
    have HH : Hid (hasI (cls r (1#64 <<< root)) (m : Int) = false) := by
      show hasI _ _ = false
      unfold hasI
      cases hc : has (cls r (1#64 <<< root)) m
      · simp [hc]
      · exact absurd ((has_cls_one r64).1 hc) hrch
    have HK : Hid (chks r [1#64 <<< root] = 0) := chks_bit HV.out hr
    subst hx
    clear hdm hrch hownx hownd3
    go_wp2_with fail
    refine (From_yes p _ c r (1#64 <<< root) HK.out w3 hR3 hT3).mono ?_
    rintro e w4 ⟨rfl, hb4⟩
    have hc2 := (hb4.cell (p := ad.add m) (by rw [block_of_add]; exact hadb)).trans hc1
    have hb14 := below_next hb13 hb4
    clear hb13 hb4 hc0 hc1 hR3 hT3
    generalize cls r (1#64 <<< root) = s at *
    go_wp2_with (go_at_call 18; refine (has_ok _ _ _).mono ?_; rintro e w' ⟨rfl, rfl⟩; rw [HH.out])
    go_ret
    exact ⟨rfl, hb14⟩
set_option maxHeartbeats 2000000 in
theorem domTree_no (p : Option Addr) (n c : Nat) (r : List B) (root m : Int) (h : chkD r [root, m] ≠ 0) (w : World) (hR : RowsAt w p n r) (hT : Tab w) :
    Calls Tryd.prog 10 #[.slice p n c, .int .i64 root, .int .i64 m] w fun e w' => e = .returned (.bool true) ∧ Below w.heap.size w w' := by
  obtain ⟨g1, g2⟩ := int_ne h
  have H := Lib.hid h
  clear h
  go_enter Tryd.func10, Tryd.ntmps10
  go_wp2_with fail
  refine (doms_below w hT).mono ?_
  rintro e w1 ⟨rfl, hb1⟩
  have hR1 := hR.below hb1
  have hT1 := hT.below hb1
  clear hR hT
  by_cases h1 : chkD r [root] = 0
  · obtain ⟨_, hin⟩ := chkD_in h1
    obtain ⟨root, rfl⟩ := Int.eq_ofNat_of_zero_le (hin root (by simp)).1
    have H1 := Lib.hid h1
    clear h1 hin
    go_wp2_with fail
    refine (Doms_yes p _ c r root H1.out w1 hR1 hT1).mono ?_
    rintro e w2 ⟨D, ds, gd, cd, rfl, hD, hL, hownd, hb2⟩
    have hR2 := hR1.below hb2
    have hb12 := below_next hb1 hb2
    clear hR1 hT1 hb1 hb2 hD hL hownd
    go_wp2_with fail
    refine (Over_no p _ c r root m H.out w2 hR2).mono ?_
    rintro e w3 ⟨rfl, hb3⟩
    have hb13 := below_next hb12 hb3
    clear hb12 hb3 H
    generalize chkD r [(root : Int), m] = e2 at *
    go_wp2
    go_ret
    exact ⟨rfl, hb13⟩
  · obtain ⟨g3, g4⟩ := int_ne h1
    have H1 := Lib.hid h1
    clear h1
    go_wp2_with fail
    refine (Doms_no p _ c r root H1.out w1 hR1).mono ?_
    rintro e w2 ⟨rfl, hb2⟩
    have hR2 := hR1.below hb2
    have hb12 := below_next hb1 hb2
    clear hR1 hT1 hb1 hb2
    go_wp2_with fail
    refine (Over_no p _ c r root m H.out w2 hR2).mono ?_
    rintro e w3 ⟨rfl, hb3⟩
    have hb13 := below_next hb12 hb3
    clear hb12 hb3 H H1
    generalize chkD r [root, m] = e2 at *
    generalize chkD r [root] = e1 at *
    go_wp2
    go_ret
    exact ⟨rfl, hb13⟩
theorem domTree_walk (p : Option Addr) (n c : Nat) (r : List B) (root m : Int) (w : World) (hR : RowsAt w p n r) (hT : Tab w) :
    Calls Tryd.prog 10 #[.slice p n c, .int .i64 root, .int .i64 m] w fun e w' => e = .returned (.bool true) ∧ Below w.heap.size w w' := by
  by_cases h : chkD r [root, m] = 0
  · obtain ⟨_, hin⟩ := chkD_in h
    obtain ⟨root, rfl⟩ := Int.eq_ofNat_of_zero_le (hin root (by simp)).1
    obtain ⟨m, rfl⟩ := Int.eq_ofNat_of_zero_le (hin m (by simp)).1
    exact domTree_yes p n c r root m h w hR hT
  · exact domTree_no p n c r root m h w hR hT
end Go.Proofs.YtklikjjipoghlaaDoor
