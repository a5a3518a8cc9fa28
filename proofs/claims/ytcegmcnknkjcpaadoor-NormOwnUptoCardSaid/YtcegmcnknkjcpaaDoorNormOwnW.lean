/- The walk of the law that asks are not modified by Norm and that the answer is of its own. Conditions: the ask lies in memory; the tables read as listed. -/
import Derived.Test.YtcegmcnknkjcpaaDoorNormOnceW
import Derived.Test.YtcegmcnknkjcpaaDoorCopiedW
namespace Go.Proofs.YtcegmcnknkjcpaaDoor
open Go.RowKit Go.Shelf
set_option maxHeartbeats 8000000 in
set_option maxRecDepth 100000 in
theorem normOwn_ok (t : QT) (w : World) (hq : QIn w t) (hT : TxtTabs w) (hc : qcnt (qabs t) ≤ 1048576) : Calls Tryd.prog 3 #[t.v] w fun e w' => e = .returned (.bool true) ∧ Below w.heap.size w w' := by
  obtain ⟨W, hW0, hBW, hC⟩ := box_kept w t
  have HBW := Lib.hid hBW
  have HIN : Hid (∀ u : World, Below W.heap.size W u → QIn u t ∧ TxtTabs u) := by
    show ∀ u : World, _
    exact fun u hu => ⟨hq.below (hBW.trans (hu.mono hBW.size)), hT.below (hBW.trans (hu.mono hBW.size))⟩
  have HN1 : Hid (∀ u : World, Below W.heap.size W u → Calls Tryd.prog 9 #[t.v] u (NormFPost t u)) := by
    show ∀ u : World, _
    exact fun u hu => NormF_ok t u (HIN.out u hu).1 (HIN.out u hu).2 (by omega)
  have HCP : Hid (∀ u : World, Below W.heap.size W u → Calls Tryd.prog 8 #[t.v] u (CopyPost t u)) := by
    show ∀ u : World, _
    exact fun u hu => copied_ok t u (HIN.out u hu).1
  have HNS := Lib.hid (norms_ok W (HIN.out W (Below.refl _ _)).2.ask)
  obtain ⟨X, hX⟩ : ∃ X : QT, X = t := ⟨_, rfl⟩
  have HXQ : Hid (∀ u : World, Below W.heap.size W u → QIn u X) := by
    show ∀ u : World, _
    exact fun u hu => hX ▸ (HIN.out u hu).1
  have HXA : Hid (qabs X = qabs t) := congrArg qabs hX
  have HXV : Hid (X.v = t.v) := congrArg QT.v hX
  clear hX
  obtain ⟨k, s, n, p, c, xs⟩ := t
  have HCC : Hid (∀ u : World, Below W.heap.size W u → u.cell? ⟨w.heap.size, 0, none⟩ = some (.int .i64 k) ∧ u.cell? ⟨w.heap.size, 1, none⟩ = some (.string s) ∧ u.cell? ⟨w.heap.size, 2, none⟩ = some (.int .i64 n) ∧ u.cell? ⟨w.heap.size, 3, none⟩ = some (.slice p xs.length c)) := hC
  obtain ⟨k0, k1, k2, k3⟩ := HCC.out W (Below.refl _ _)
  have hW : W = w.alloc (.cells #[.int .i64 k, .string s, .int .i64 n, .slice p xs.length c] 24) := hW0
  clear hW0
  have HV : Hid (X.v = .agg #[.int .i64 k, .string s, .int .i64 n, .slice p xs.length c]) := HXV
  show Calls Tryd.prog 3 #[.agg #[.int .i64 k, .string s, .int .i64 n, .slice p xs.length c]] w _
  clear hq hT hc hBW hC HXV
  go_enter Tryd.func3, Tryd.ntmps3
  go_upto_region 1 with fail
  rw [← hW]
  clear hW
  go_upto_region 3 with (go_at_call 7; refine HNS.out.mono ?_; rintro e w1 ⟨rfl, hb⟩; have HB1 := Lib.hid hb; obtain ⟨u0, u1, u2, u3⟩ := HCC.out w1 hb; clear hb)
  clear k0 k1 k2 k3
  go_upto_region 4 with (go_at_call 8; refine (HCP.out w1 HB1.out).mono ?_; rintro e w2 ⟨⟨kb, sb, nb, pb, cb, bs⟩, he, ht1, ht2, ht3, hb⟩; obtain rfl : e = .returned (.agg #[.int .i64 kb, .string sb, .int .i64 nb, .slice pb bs.length cb]) := he; have HTB := Lib.hid ht1; have HTI := Lib.hid ht2; have HB2 := Lib.hid (HB1.out.trans (hb.mono HB1.out.size)); clear ht1 ht2 ht3 hb)
  clear u0 u1 u2 u3
  obtain ⟨B, hB0, hBB, hBC⟩ := box_kept w2 (.mk kb sb nb pb cb bs)
  have hB : B = w2.alloc (.cells #[.int .i64 kb, .string sb, .int .i64 nb, .slice pb bs.length cb] 24) := hB0
  clear hB0
  rw [← hB]
  clear hB
  have HBC : Hid (∀ u : World, Below B.heap.size B u → u.cell? ⟨w2.heap.size, 0, none⟩ = some (.int .i64 kb) ∧ u.cell? ⟨w2.heap.size, 1, none⟩ = some (.string sb) ∧ u.cell? ⟨w2.heap.size, 2, none⟩ = some (.int .i64 nb) ∧ u.cell? ⟨w2.heap.size, 3, none⟩ = some (.slice pb bs.length cb)) := hBC
  have HBB := Lib.hid (HB2.out.trans (hBB.mono HB2.out.size))
  have HBQ : Hid (∀ u : World, Below B.heap.size B u → QIn u (.mk kb sb nb pb cb bs)) := by
    show ∀ u : World, _
    exact fun u hu => HTI.out.below (hBB.trans (hu.mono hBB.size))
  have HBW2 : Hid (∀ u : World, Below B.heap.size B u → Below W.heap.size W u) := by
    show ∀ u : World, _
    exact fun u hu => HBB.out.trans (hu.mono HBB.out.size)
  clear hBB hBC
  obtain ⟨u0, u1, u2, u3⟩ := HCC.out B HBB.out
  go_upto_region 5 with (go_at_call 9; refine (HN1.out B HBB.out).mono ?_; rintro e w3 ⟨⟨ky, sy, ny, py, cy, ys⟩, he, ht1, ht2, ht3, hb⟩; obtain rfl : e = .returned (.tuple #[.agg #[.int .i64 ky, .string sy, .int .i64 ny, .slice py ys.length cy], .int .i64 (qE qpat (qabs (.mk k s n p c xs)))]) := he; have HYI := Lib.hid ht2; have HYO := Lib.hid ht3; have HB3 := Lib.hid hb; clear ht1 ht2 ht3 hb)
  clear u0 u1 u2 u3
  generalize qE qpat (qabs (.mk k s n p c xs)) = E
  obtain ⟨Y, hY0, hBY, hYC⟩ := box_kept w3 (.mk ky sy ny py cy ys)
  have hY : Y = w3.alloc (.cells #[.int .i64 ky, .string sy, .int .i64 ny, .slice py ys.length cy] 24) := hY0
  clear hY0
  rw [← hY]
  clear hY
  have HYC : Hid (∀ u : World, Below Y.heap.size Y u → u.cell? ⟨w3.heap.size, 0, none⟩ = some (.int .i64 ky) ∧ u.cell? ⟨w3.heap.size, 1, none⟩ = some (.string sy) ∧ u.cell? ⟨w3.heap.size, 2, none⟩ = some (.int .i64 ny) ∧ u.cell? ⟨w3.heap.size, 3, none⟩ = some (.slice py ys.length cy)) := hYC
  have HBY := Lib.hid (HB3.out.trans (hBY.mono HB3.out.size))
  have HSPL : Hid (∀ u : World, Below Y.heap.size Y u → Calls Tryd.prog 11 #[(QT.mk ky sy ny py cy ys).v] u fun e w' => e = .returned (.tuple #[]) ∧ Below B.heap.size u w') := by
    show ∀ u : World, _
    intro u hu
    have hu3 := hBY.trans (hu.mono hBY.size)
    refine (spoil_ok _ _ (Nat.le_refl _) B.heap.size w3.heap.size u HB3.out.size hu3.size ((SpIn.ofOwn HYI.out HYO.out).spl (Spl.ofBelow HB3.out.size hu3))).mono ?_
    rintro e w' ⟨h1, h2⟩
    exact ⟨h1, h2.below⟩
  have HSAME : Hid (∀ u : World, Below B.heap.size B u → Calls Tryd.prog 10 #[X.v, (QT.mk kb sb nb pb cb bs).v] u fun e w' => e = .returned (.bool true) ∧ Below u.heap.size u w') := by
    show ∀ u : World, _
    intro u hu
    refine (sameAsk_ok _ _ u (HXQ.out u (HBW2.out u hu)) (HBQ.out u hu)).mono ?_
    rintro e w' ⟨⟨r, h1, h2⟩, h3⟩
    rw [h2.2 (HXA.out.trans HTB.out.symm)] at h1
    exact ⟨h1, h3⟩
  rw [HV.out] at HSAME
  clear hBY hYC
  obtain ⟨u0, u1, u2, u3⟩ := HCC.out Y (HBW2.out Y HBY.out)
  obtain ⟨b0, b1, b2, b3⟩ := HBC.out Y HBY.out
  go_upto_region 6 with (go_at_call 10; refine (HSAME.out Y HBY.out).mono ?_; rintro e w4 ⟨rfl, hb⟩; have HB4 := Lib.hid hb; obtain ⟨y0, y1, y2, y3⟩ := HYC.out w4 hb; clear hb)
  clear u0 u1 u2 u3 b0 b1 b2 b3
  go_upto_region 7 with (go_at_call 11; refine (HSPL.out w4 HB4.out).mono ?_; rintro e w5 ⟨rfl, hb⟩; have HB5 := Lib.hid ((HBY.out.trans (HB4.out.mono HBY.out.size)).trans hb); clear hb)
  clear y0 y1 y2 y3
  obtain ⟨u0, u1, u2, u3⟩ := HCC.out w5 (HBW2.out w5 HB5.out)
  obtain ⟨b0, b1, b2, b3⟩ := HBC.out w5 HB5.out
  go_wp2_with (go_at_call 10; refine (HSAME.out w5 HB5.out).mono ?_; rintro e w6 ⟨rfl, hb⟩; have HB6 := Lib.hid (HB5.out.trans (hb.mono HB5.out.size)); clear hb)
  go_ret
  exact ⟨rfl, HBW.out.trans ((HBW2.out _ HB6.out).mono HBW.out.size)⟩
end Go.Proofs.YtcegmcnknkjcpaaDoor
