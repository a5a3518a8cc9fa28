/- The walk of the law that the normal form is normal for good. Conditions: the ask lies in memory; the tables read as listed. -/
import Derived.Test.YtcegmcnknkjcpaaDoorNormTabsW
import Derived.Test.YtcegmcnknkjcpaaDoorSameAskW
import Derived.Test.YtcegmcnknkjcpaaDoorGoodP
namespace Go.Proofs.YtcegmcnknkjcpaaDoor
open Go.RowKit Go.Shelf
/-- a block of four cells, in all that comes behind -/
theorem box_kept (w : World) (t : QT) : ∃ W : World, W = w.alloc (.cells #[.int .i64 t.kind, .string t.name, .int .i64 t.num, .slice t.p t.xs.length t.cap] 24) ∧ Below w.heap.size w W ∧
    ∀ u : World, Below W.heap.size W u → u.cell? ⟨w.heap.size, 0, none⟩ = some (.int .i64 t.kind) ∧ u.cell? ⟨w.heap.size, 1, none⟩ = some (.string t.name) ∧ u.cell? ⟨w.heap.size, 2, none⟩ = some (.int .i64 t.num) ∧ u.cell? ⟨w.heap.size, 3, none⟩ = some (.slice t.p t.xs.length t.cap) := by
  obtain ⟨W, h1, h2, _, h4⟩ := arg1 w (.int .i64 t.kind) (.string t.name) (.int .i64 t.num) (.slice t.p t.xs.length t.cap)
  exact ⟨W, h1, h2, h4⟩
theorem qNorm_cnt {x : QA} (h : qcnt x ≤ 1099511627776) : qcnt (qNorm x) ≤ 1099511627776 := by
  unfold qNorm
  split
  · rename_i h0
    have := (nrm_ok x (qE_chk h0).2).2.2
    omega
  · decide
theorem norm_twice {x : QA} (h : qE qpat x = 0) : qE qpat (qNorm x) = 0 ∧ qNorm (qNorm x) = qNorm x ∧ qSize (qNorm x) ≤ qSize x ∧ 0 < qSize (qNorm x) := by
  have h1 := nrm_E h
  have e : qNorm x = qnrm x := by unfold qNorm; rw [if_pos h]
  rw [e]
  refine ⟨h1, ?_, ?_, ?_⟩
  · unfold qNorm; rw [if_pos h1]; exact nrm_once (qE_chk h).2
  · unfold qSize
    rw [if_pos h, if_pos h1]
    have := (nrm_ok x (qE_chk h).2).2.2
    omega
  · unfold qSize
    rw [if_pos h1]
    have := qcnt_pos (qnrm x)
    omega
set_option maxHeartbeats 8000000 in
set_option maxRecDepth 100000 in
theorem normOnce_ok (t : QT) (w : World) (hq : QIn w t) (hT : TxtTabs w) (hc : qcnt (qabs t) ≤ 1048576) : Calls Tryd.prog 4 #[t.v] w fun e w' => e = .returned (.bool true) ∧ Below w.heap.size w w' := by
  obtain ⟨W, hW0, hBW, hC⟩ := box_kept w t
  have HC := Lib.hid hC
  have HBW := Lib.hid hBW
  have HIN : Hid (∀ u : World, Below W.heap.size W u → QIn u t ∧ TxtTabs u) := by
    show ∀ u : World, _
    exact fun u hu => ⟨hq.below (hBW.trans (hu.mono hBW.size)), hT.below (hBW.trans (hu.mono hBW.size))⟩
  have HN1 : Hid (∀ u : World, Below W.heap.size W u → Calls Tryd.prog 9 #[t.v] u (NormFPost t u)) := by
    show ∀ u : World, _
    exact fun u hu => NormF_ok t u (HIN.out u hu).1 (HIN.out u hu).2 (by omega)
  have HZ1 : Hid (∀ u : World, Below W.heap.size W u → Calls Tryd.prog 12 #[t.v] u fun e w' => e = .returned (.tuple #[.int .i64 (qSize (qabs t)), .int .i64 (qE qpat (qabs t))]) ∧ Below u.heap.size u w') := by
    show ∀ u : World, _
    exact fun u hu => SizeF_ok t u (HIN.out u hu).1 (HIN.out u hu).2.ask (by omega)
  have HNS := Lib.hid (norms_ok W (HIN.out W (Below.refl _ _)).2.ask)
  have HCNT := Lib.hid (qNorm_cnt (x := qabs t) (by omega))
  obtain ⟨k, s, n, p, c, xs⟩ := t
  obtain ⟨k0, k1, k2, k3⟩ : W.cell? ⟨w.heap.size, 0, none⟩ = some (.int .i64 k) ∧ W.cell? ⟨w.heap.size, 1, none⟩ = some (.string s) ∧ W.cell? ⟨w.heap.size, 2, none⟩ = some (.int .i64 n) ∧ W.cell? ⟨w.heap.size, 3, none⟩ = some (.slice p xs.length c) := HC.out W (Below.refl _ _)
  have HCC : Hid (∀ u : World, Below W.heap.size W u → u.cell? ⟨w.heap.size, 0, none⟩ = some (.int .i64 k) ∧ u.cell? ⟨w.heap.size, 1, none⟩ = some (.string s) ∧ u.cell? ⟨w.heap.size, 2, none⟩ = some (.int .i64 n) ∧ u.cell? ⟨w.heap.size, 3, none⟩ = some (.slice p xs.length c)) := HC
  have hW : W = w.alloc (.cells #[.int .i64 k, .string s, .int .i64 n, .slice p xs.length c] 24) := hW0
  clear hW0
  show Calls Tryd.prog 4 #[.agg #[.int .i64 k, .string s, .int .i64 n, .slice p xs.length c]] w _
  obtain ⟨x, hx⟩ : ∃ x, qabs (.mk k s n p c xs) = x := ⟨_, rfl⟩
  unfold NormFPost at HN1
  rw [hx] at HN1 HZ1 HCNT
  obtain ⟨E, hE⟩ : ∃ E, qE qpat x = E := ⟨_, rfl⟩
  have HE := Lib.hid hE
  rw [hE] at HN1 HZ1
  clear hq hT hc hBW hC hx hE HC
  go_enter Tryd.func4, Tryd.ntmps4
  go_upto_region 1 with fail
  rw [← hW]
  clear hW
  go_upto_region 4 with (first
    | (go_at_call 7; refine HNS.out.mono ?_; rintro e w1 ⟨rfl, hb⟩; have HB1 := Lib.hid hb; obtain ⟨u0, u1, u2, u3⟩ := HCC.out w1 hb; clear hb)
    | (go_at_call 9; refine (HN1.out w1 HB1.out).mono ?_; rintro e w2 ⟨⟨ky, sy, ny, py, cy, ys⟩, he, ht1, ht2, ht3, hb⟩; obtain rfl : e = .returned (.tuple #[.agg #[.int .i64 ky, .string sy, .int .i64 ny, .slice py ys.length cy], .int .i64 E]) := he; have HT1 := Lib.hid ht1; have HTI := Lib.hid ht2; have HB2 := Lib.hid (HB1.out.trans (hb.mono HB1.out.size)); clear ht1 ht2 ht3 hb))
  obtain ⟨Y, hY0, hBY, hYC⟩ := box_kept w2 (.mk ky sy ny py cy ys)
  have hY : Y = w2.alloc (.cells #[.int .i64 ky, .string sy, .int .i64 ny, .slice py ys.length cy] 24) := hY0
  clear hY0
  rw [← hY]
  have HYC : Hid (∀ u : World, Below Y.heap.size Y u → u.cell? ⟨w2.heap.size, 0, none⟩ = some (.int .i64 ky) ∧ u.cell? ⟨w2.heap.size, 1, none⟩ = some (.string sy) ∧ u.cell? ⟨w2.heap.size, 2, none⟩ = some (.int .i64 ny) ∧ u.cell? ⟨w2.heap.size, 3, none⟩ = some (.slice py ys.length cy)) := hYC
  have HBY := Lib.hid (HB2.out.trans (hBY.mono HB2.out.size))
  have HYI : Hid (∀ u : World, Below Y.heap.size Y u → QIn u (.mk ky sy ny py cy ys)) := by
    show ∀ u : World, _
    exact fun u hu => HTI.out.below (hBY.trans (hu.mono hBY.size))
  have HYW : Hid (∀ u : World, Below Y.heap.size Y u → Below W.heap.size W u) := by
    show ∀ u : World, _
    exact fun u hu => HBY.out.trans (hu.mono HBY.out.size)
  obtain ⟨y0, y1, y2, y3⟩ := HYC.out Y (Below.refl _ _)
  clear hY hBY hYC k0 k1 k2 k3
  by_cases h0 : E = 0
  · subst h0
    obtain ⟨n1, n2, n3, n4⟩ := norm_twice HE.out
    have HN2 : Hid (∀ u : World, Below Y.heap.size Y u → Calls Tryd.prog 9 #[(QT.mk ky sy ny py cy ys).v] u fun e w' => ∃ t' : QT, e = .returned (.tuple #[t'.v, .int .i64 0]) ∧ qabs t' = qNorm x ∧ QIn w' t' ∧ Below u.heap.size u w') := by
      show ∀ u : World, _
      intro u hu
      refine (NormF_ok (.mk ky sy ny py cy ys) u (HYI.out u hu) (HIN.out u (HYW.out u hu)).2 (by rw [HT1.out]; exact HCNT.out)).mono ?_
      rintro e w' ⟨t', h1, h2, h3, _, h5⟩
      rw [HT1.out] at h1 h2
      rw [n1] at h1
      rw [n2] at h2
      exact ⟨t', h1, h2, h3, h5⟩
    have HZ2 : Hid (∀ u : World, Below Y.heap.size Y u → Calls Tryd.prog 12 #[(QT.mk ky sy ny py cy ys).v] u fun e w' => e = .returned (.tuple #[.int .i64 (qSize (qNorm x)), .int .i64 0]) ∧ Below u.heap.size u w') := by
      show ∀ u : World, _
      intro u hu
      have := SizeF_ok (.mk ky sy ny py cy ys) u (HYI.out u hu) (HIN.out u (HYW.out u hu)).2.ask (by rw [HT1.out]; exact HCNT.out)
      rw [HT1.out, n1] at this
      exact this
    generalize qSize (qNorm x) = Z2 at *
    generalize qSize x = Z1 at *
    clear n1 n2
    go_upto_region 7 with (go_at_call 9; refine (HN2.out Y (Below.refl _ _)).mono ?_; rintro e w3 ⟨⟨kz, sz, nz, pz, cz, zs⟩, he, ht1, ht2, hb⟩; obtain rfl : e = .returned (.tuple #[.agg #[.int .i64 kz, .string sz, .int .i64 nz, .slice pz zs.length cz], .int .i64 0]) := he; have HT2 := Lib.hid ht1; have HZI := Lib.hid ht2; have HB3 := Lib.hid hb; clear ht1 ht2 hb)
    obtain ⟨Z, hZ0, hBZ, hZC⟩ := box_kept w3 (.mk kz sz nz pz cz zs)
    have hZ : Z = w3.alloc (.cells #[.int .i64 kz, .string sz, .int .i64 nz, .slice pz zs.length cz] 24) := hZ0
    clear hZ0
    rw [← hZ]
    have HZC : Hid (∀ u : World, Below Z.heap.size Z u → u.cell? ⟨w3.heap.size, 0, none⟩ = some (.int .i64 kz) ∧ u.cell? ⟨w3.heap.size, 1, none⟩ = some (.string sz) ∧ u.cell? ⟨w3.heap.size, 2, none⟩ = some (.int .i64 nz) ∧ u.cell? ⟨w3.heap.size, 3, none⟩ = some (.slice pz zs.length cz)) := hZC
    have HZY : Hid (∀ u : World, Below Z.heap.size Z u → Below Y.heap.size Y u) := by
      show ∀ u : World, _
      exact fun u hu => (HB3.out.trans (hBZ.mono HB3.out.size)).trans (hu.mono (HB3.out.trans (hBZ.mono HB3.out.size)).size)
    have HZI2 : Hid (∀ u : World, Below Z.heap.size Z u → QIn u (.mk kz sz nz pz cz zs)) := by
      show ∀ u : World, _
      exact fun u hu => HZI.out.below (hBZ.trans (hu.mono hBZ.size))
    have HSAME : Hid (∀ u : World, Below Z.heap.size Z u → Calls Tryd.prog 10 #[(QT.mk ky sy ny py cy ys).v, (QT.mk kz sz nz pz cz zs).v] u fun e w' => e = .returned (.bool true) ∧ Below u.heap.size u w') := by
      show ∀ u : World, _
      intro u hu
      refine (sameAsk_ok _ _ u (HYI.out u (HZY.out u hu)) (HZI2.out u hu)).mono ?_
      rintro e w' ⟨⟨r, h1, h2⟩, h3⟩
      rw [h2.2 (HT1.out.trans HT2.out.symm)] at h1
      exact ⟨h1, h3⟩
    obtain ⟨a0, a1, a2, a3⟩ := HCC.out Z (HYW.out Z (HZY.out Z (Below.refl _ _)))
    clear hZ hBZ hZC y0 y1 y2 y3 u0 u1 u2 u3 HN2 HN1
    go_upto_region 9 with (first
      | (have h4 := HB4; clear h4; go_at_call 12; refine (HZ2.out w4 (HZY.out w4 HB4.out)).mono ?_; rintro e w5 ⟨rfl, hb⟩; have HB5 := Lib.hid (HB4.out.trans (hb.mono HB4.out.size)); clear hb)
      | (go_at_call 12; refine (HZ1.out Z (HYW.out Z (HZY.out Z (Below.refl _ _)))).mono ?_; rintro e w4 ⟨rfl, hb⟩; have HB4 := Lib.hid hb; obtain ⟨y0, y1, y2, y3⟩ := HYC.out w4 (HZY.out w4 hb); clear hb))
    clear y0 y1 y2 y3 a0 a1 a2 a3
    have HAL : Hid (∀ o, Below Z.heap.size Z (w5.alloc o)) := fun o => HB5.out.alloc HB5.out.size o
    obtain ⟨y0, y1, y2, y3⟩ := HYC.out (w5.alloc (.cells #[.int .i64 0, .int .i64 0, .int .i64 0] 27)) (HZY.out _ (HAL.out _))
    obtain ⟨z0, z1, z2, z3⟩ := HZC.out (w5.alloc (.cells #[.int .i64 0, .int .i64 0, .int .i64 0] 27)) (HAL.out _)
    have hle : decide (Z2 ≤ Z1) = true := decide_eq_true n3
    have hgt : decide (0 < Z2) = true := decide_eq_true n4
    have HOK : Hid (allOk [0, 0, 0] = true) := rfl
    clear HZ1 HZ2 HNS
    go_wp2_with (first
      | (go_at_call 13; refine (good3 0 0 0 w5).mono ?_; rw [HOK.out]; rintro e w' ⟨rfl, rfl⟩)
      | (go_at_call 10; refine (HSAME.out _ (HAL.out _)).mono ?_; rintro e w6 ⟨rfl, hb⟩; have HB6 := Lib.hid ((HAL.out _).trans (hb.mono (HAL.out _).size)); clear hb))
    go_ret
    exact ⟨by first | rfl | simp [n3, n4], HBW.out.trans ((HYW.out _ (HZY.out _ HB6.out)).mono HBW.out.size)⟩
  · have HEN : Hid (qabs (.mk ky sy ny py cy ys) = .mk 0 [] 0 []) := by
      show _ = _
      rw [HT1.out]
      unfold qNorm
      rw [HE.out, if_neg h0]
    obtain ⟨i1, i2⟩ := int_ne' h0
    have HSAME : Hid (∀ u : World, Below Y.heap.size Y u → Calls Tryd.prog 10 #[(QT.mk ky sy ny py cy ys).v, nilT.v] u fun e w' => e = .returned (.bool true) ∧ Below u.heap.size u w') := by
      show ∀ u : World, _
      intro u hu
      refine (sameAsk_ok _ _ u (HYI.out u hu) (nilT_in u)).mono ?_
      rintro e w' ⟨⟨r, h1, h2⟩, h3⟩
      rw [h2.2 (HEN.out.trans rfl)] at h1
      exact ⟨h1, h3⟩
    clear h0
    go_wp2_with (go_at_call 10; refine (HSAME.out Y (Below.refl _ _)).mono ?_; rintro e w6 ⟨rfl, hb⟩; have HB6 := Lib.hid hb; clear hb)
    go_ret
    exact ⟨rfl, HBW.out.trans ((HYW.out _ HB6.out).mono HBW.out.size)⟩
end Go.Proofs.YtcegmcnknkjcpaaDoor
