/- The walk of the law that the order of two is no matter to the normal form. Conditions: the asks lie in memory; the tables read as listed. -/
import Derived.Test.YtcegmcnknkjcpaaDoorNormOnceW
import Derived.Test.YtcegmcnknkjcpaaDoorSwapP
import Derived.Test.YtcegmcnknkjcpaaDoorTwoLW
namespace Go.Proofs.YtcegmcnknkjcpaaDoor
open Go.RowKit Go.Shelf
/-- two asks' blocks, in all that comes behind -/
theorem arg2q (w : World) (x y : QT) : ∃ W : World, W = (w.alloc (.cells #[.int .i64 x.kind, .string x.name, .int .i64 x.num, .slice x.p x.xs.length x.cap] 24)).alloc (.cells #[.int .i64 y.kind, .string y.name, .int .i64 y.num, .slice y.p y.xs.length y.cap] 24) ∧ Below w.heap.size w W ∧ W.heap.size = w.heap.size + 2 ∧
    ∀ u : World, Below W.heap.size W u → (u.cell? ⟨w.heap.size, 0, none⟩ = some (.int .i64 x.kind) ∧ u.cell? ⟨w.heap.size, 1, none⟩ = some (.string x.name) ∧ u.cell? ⟨w.heap.size, 2, none⟩ = some (.int .i64 x.num) ∧ u.cell? ⟨w.heap.size, 3, none⟩ = some (.slice x.p x.xs.length x.cap)) ∧
      (u.cell? ⟨w.heap.size + 1, 0, none⟩ = some (.int .i64 y.kind) ∧ u.cell? ⟨w.heap.size + 1, 1, none⟩ = some (.string y.name) ∧ u.cell? ⟨w.heap.size + 1, 2, none⟩ = some (.int .i64 y.num) ∧ u.cell? ⟨w.heap.size + 1, 3, none⟩ = some (.slice y.p y.xs.length y.cap)) := by
  obtain ⟨A, hA, hBA, hSA, hCA⟩ := arg1 w (.int .i64 x.kind) (.string x.name) (.int .i64 x.num) (.slice x.p x.xs.length x.cap)
  obtain ⟨W, hW, hBW, hSW, hCW⟩ := arg1 A (.int .i64 y.kind) (.string y.name) (.int .i64 y.num) (.slice y.p y.xs.length y.cap)
  refine ⟨W, by rw [hW, hA], hBA.trans (hBW.mono hBA.size), by omega, fun u hu => ⟨hCA u (hBW.trans (hu.mono hBW.size)), ?_⟩⟩
  rw [← hSA]
  exact hCW u hu
set_option maxHeartbeats 8000000 in
set_option maxRecDepth 100000 in
theorem normTurned_ok (x y : QT) (w : World) (hx : QIn w x) (hy : QIn w y) (hT : TxtTabs w) (hcx : qcnt (qabs x) ≤ 1048576) (hcy : qcnt (qabs y) ≤ 1048576) :
    Calls Tryd.prog 5 #[x.v, y.v] w fun e w' => e = .returned (.bool true) ∧ Below w.heap.size w w' := by
  obtain ⟨W, hW0, hBW, hS, hC⟩ := arg2q w x y
  have HC := Lib.hid hC
  have HBW := Lib.hid hBW
  have HTW : Hid (∀ (k : Int) (u : World), Below W.heap.size W u → Calls Tryd.prog 14 #[.int .i64 k, x.v, y.v] u (TwoPost k x y u)) := by
    show ∀ (k : Int) (u : World), _
    exact fun k u hu => twoL_ok k x y u (hx.below (hBW.trans (hu.mono hBW.size))) (hy.below (hBW.trans (hu.mono hBW.size)))
  have HTV : Hid (∀ (k : Int) (u : World), Below W.heap.size W u → Calls Tryd.prog 14 #[.int .i64 k, y.v, x.v] u (TwoPost k y x u)) := by
    show ∀ (k : Int) (u : World), _
    exact fun k u hu => twoL_ok k y x u (hy.below (hBW.trans (hu.mono hBW.size))) (hx.below (hBW.trans (hu.mono hBW.size)))
  have HN : Hid (∀ (A : QA) (t : QT) (u : World), Below W.heap.size W u → QIn u t → qabs t = A → qcnt A ≤ 1099511627776 → Calls Tryd.prog 9 #[t.v] u fun e w' => ∃ t' : QT, e = .returned (.tuple #[t'.v, .int .i64 (qE qpat A)]) ∧ qabs t' = qNorm A ∧ QIn w' t' ∧ Below u.heap.size u w') := by
    show ∀ (A : QA) (t : QT) (u : World), _
    intro A t u hu hq ha hc
    subst ha
    refine (NormF_ok t u hq (hT.below (hBW.trans (hu.mono hBW.size))) hc).mono ?_
    rintro e w' ⟨t', h1, h2, h3, _, h5⟩
    exact ⟨t', h1, h2, h3, h5⟩
  have HNS := Lib.hid (norms_ok W (hT.ask.below hBW))
  have HCN : Hid (∀ k : Int, qcnt (.mk k [] 0 [qabs x, qabs y]) ≤ 1099511627776 ∧ qcnt (.mk k [] 0 [qabs y, qabs x]) ≤ 1099511627776) := by
    show ∀ k : Int, _
    intro k
    rw [cnt_mk, cnt_mk, cnts_two, cnts_two]
    omega
  obtain ⟨X, hX⟩ : ∃ X, X = qabs x := ⟨_, rfl⟩
  obtain ⟨Y, hY⟩ : ∃ Y, Y = qabs y := ⟨_, rfl⟩
  unfold TwoPost at HTW HTV
  rw [← hX, ← hY] at HCN
  have HXY : Hid (X = qabs x ∧ Y = qabs y) := ⟨hX, hY⟩
  rw [← hX, ← hY] at HTW HTV
  clear hX hY hcx hcy hx hy hT hBW hC
  obtain ⟨kx, sx, nx, px, cx, xs⟩ := x
  obtain ⟨ky, sy, ny, py, cy, ys⟩ := y
  have hW : W = (w.alloc (.cells #[.int .i64 kx, .string sx, .int .i64 nx, .slice px xs.length cx] 24)).alloc (.cells #[.int .i64 ky, .string sy, .int .i64 ny, .slice py ys.length cy] 24) := hW0
  have HCC : Hid (∀ u : World, Below W.heap.size W u → (u.cell? ⟨w.heap.size, 0, none⟩ = some (.int .i64 kx) ∧ u.cell? ⟨w.heap.size, 1, none⟩ = some (.string sx) ∧ u.cell? ⟨w.heap.size, 2, none⟩ = some (.int .i64 nx) ∧ u.cell? ⟨w.heap.size, 3, none⟩ = some (.slice px xs.length cx)) ∧
      (u.cell? ⟨w.heap.size + 1, 0, none⟩ = some (.int .i64 ky) ∧ u.cell? ⟨w.heap.size + 1, 1, none⟩ = some (.string sy) ∧ u.cell? ⟨w.heap.size + 1, 2, none⟩ = some (.int .i64 ny) ∧ u.cell? ⟨w.heap.size + 1, 3, none⟩ = some (.slice py ys.length cy))) := HC
  clear hW0 HC HXY
  show Calls Tryd.prog 5 #[.agg #[.int .i64 kx, .string sx, .int .i64 nx, .slice px xs.length cx], .agg #[.int .i64 ky, .string sy, .int .i64 ny, .slice py ys.length cy]] w _
  go_enter Tryd.func5, Tryd.ntmps5
  go_upto_region 1 with fail
  rw [← hW]
  clear hW hS
  go_upto_region 3 with (go_at_call 7; refine HNS.out.mono ?_; rintro e w1 ⟨rfl, hb⟩; have HB1 := Lib.hid hb; clear hb)
  obtain ⟨V, hV⟩ : ∃ V, V = w1.alloc (.cells #[.int .i64 5, .int .i64 6] 3) := ⟨_, rfl⟩
  have HBV : Hid (Below W.heap.size W V) := by show Below _ _ _; rw [hV]; exact HB1.out.alloc HB1.out.size _
  have HL : Hid (∀ u : World, Below V.heap.size V u → u.cell? ⟨w1.heap.size, 0, none⟩ = some (.int .i64 5) ∧ u.cell? ⟨w1.heap.size, 1, none⟩ = some (.int .i64 6)) := by
    show ∀ u : World, _
    intro u hu
    have hs : V.heap.size = w1.heap.size + 1 := by rw [hV]; simp
    rw [hu.cell (p := ⟨w1.heap.size, 0, none⟩) (by show w1.heap.size < _; omega), hu.cell (p := ⟨w1.heap.size, 1, none⟩) (by show w1.heap.size < _; omega), hV]
    constructor <;> (rw [World.cell?_alloc_at _ _ _ _ rfl]; rfl)
  go_upto_region 4 with fail
  rw [← hV]
  clear hV HNS
  go_loopw [15] (fun i wr => ∃ j : Nat, j ≤ 2 ∧ i = .int .i64 j ∧ Hid (Below V.heap.size V wr)) (fun i _ => 2 - (intOf i).toNat)
  case atStart => exact ⟨0, Nat.zero_le _, rfl, Below.refl _ _⟩
  case round =>
    obtain ⟨j, hj, rfl, HB⟩ := hrel
    have HBr := Lib.hid (HBV.out.trans (HB.out.mono HBV.out.size))
    by_cases hlt : j < 2
    · obtain ⟨k, hk, hcell⟩ : ∃ k : Int, (k = 5 ∨ k = 6) ∧ wr.cell? ⟨w1.heap.size, j, none⟩ = some (.int .i64 k) := by
        rcases (show j = 0 ∨ j = 1 by omega) with rfl | rfl
        · exact ⟨5, .inl rfl, (HL.out wr HB.out).1⟩
        · exact ⟨6, .inr rfl, (HL.out wr HB.out).2⟩
      have HK := Lib.hid hk
      have HTW1 := Lib.hid (HTW.out k)
      have HTV1 := Lib.hid (HTV.out k)
      have HN1 := Lib.hid (HN.out (.mk k [] 0 [X, Y]))
      have HN2 := Lib.hid (HN.out (.mk k [] 0 [Y, X]))
      have HC1 := Lib.hid (HCN.out k).1
      have HC2 := Lib.hid (HCN.out k).2
      obtain ⟨E, hE⟩ : ∃ E, qE qpat (.mk k [] 0 [X, Y]) = E := ⟨_, rfl⟩
      obtain ⟨F, hF⟩ : ∃ F, qE qpat (.mk k [] 0 [Y, X]) = F := ⟨_, rfl⟩
      have HE : Hid (E = 0 ↔ F = 0) := by show _ ↔ _; rw [← hE, ← hF]; exact swap_E k X Y
      have HQ : Hid (E = 0 → qNorm (.mk k [] 0 [X, Y]) = qNorm (.mk k [] 0 [Y, X])) := by show _ → _; rw [← hE]; exact swap_norm hk
      rw [hE] at HN1
      rw [hF] at HN2
      obtain ⟨⟨x0, x1, x2, x3⟩, y0, y1, y2, y3⟩ := HCC.out wr HBr.out
      clear hE hF hk
      go_upto_region 7 with (first
        | (have h4 := HB2; clear h4; go_at_call 9; refine (HN1.out _ w2 HB2.out HI2.out HA2.out HC1.out).mono ?_; rintro e w3 ⟨⟨ka, sa, na, pa, ca, al⟩, he, ht1, ht2, hb⟩; obtain rfl : e = .returned (.tuple #[.agg #[.int .i64 ka, .string sa, .int .i64 na, .slice pa al.length ca], .int .i64 E]) := he; have HA3 := Lib.hid ht1; have HI3 := Lib.hid ht2; have HB23 := Lib.hid hb; have HB3 := Lib.hid (HB2.out.trans (hb.mono HB2.out.size)); clear ht1 ht2 hb)
        | (go_at_call 14; refine (HTW1.out wr HBr.out).mono ?_; rintro e w2 ⟨⟨k2, s2, n2, p2, c2, xs2⟩, he, ht1, ht2, hb⟩; obtain rfl : e = .returned (.agg #[.int .i64 k2, .string s2, .int .i64 n2, .slice p2 xs2.length c2]) := he; have HA2 := Lib.hid ht1; have HI2 := Lib.hid ht2; have HA0 := Lib.hid hb; have HB2 := Lib.hid (HBr.out.trans (hb.mono HBr.out.size)); clear ht1 ht2 hb))
      obtain ⟨A, hA0, hBA, hAC⟩ := box_kept w3 (.mk ka sa na pa ca al)
      have hA : A = w3.alloc (.cells #[.int .i64 ka, .string sa, .int .i64 na, .slice pa al.length ca] 24) := hA0
      clear hA0
      rw [← hA]
      clear hA
      have HAC : Hid (∀ u : World, Below A.heap.size A u → u.cell? ⟨w3.heap.size, 0, none⟩ = some (.int .i64 ka) ∧ u.cell? ⟨w3.heap.size, 1, none⟩ = some (.string sa) ∧ u.cell? ⟨w3.heap.size, 2, none⟩ = some (.int .i64 na) ∧ u.cell? ⟨w3.heap.size, 3, none⟩ = some (.slice pa al.length ca)) := hAC
      have HBA := Lib.hid (HB3.out.trans (hBA.mono HB3.out.size))
      have HQA : Hid (∀ u : World, Below A.heap.size A u → QIn u (.mk ka sa na pa ca al)) := by
        show ∀ u : World, _
        exact fun u hu => HI3.out.below (hBA.trans (hu.mono hBA.size))
      have HAW : Hid (∀ u : World, Below A.heap.size A u → Below V.heap.size V u) := by
        show ∀ u : World, _
        exact fun u hu => HB.out.trans ((HA0.out.trans ((HB23.out.trans (hBA.mono HB23.out.size)).mono HA0.out.size)).mono HB.out.size |>.trans (hu.mono (by
          have h1 := HB.out.size
          have h2 := HA0.out.size
          have h3 := HB23.out.size
          have h4 := hBA.size
          omega)))
      clear hBA hAC x0 x1 x2 x3 y0 y1 y2 y3
      obtain ⟨⟨x0, x1, x2, x3⟩, y0, y1, y2, y3⟩ := HCC.out A HBA.out
      go_upto_region 8 with (first
        | (have h4 := HB4; clear h4; go_at_call 9; refine (HN2.out _ w4 HB4.out HI4.out HA4.out HC2.out).mono ?_; rintro e w5 ⟨⟨kb, sb, nb, pb, cb, bl⟩, he, ht1, ht2, hb⟩; obtain rfl : e = .returned (.tuple #[.agg #[.int .i64 kb, .string sb, .int .i64 nb, .slice pb bl.length cb], .int .i64 F]) := he; have HA5 := Lib.hid ht1; have HI5 := Lib.hid ht2; have HB5 := Lib.hid (HBA4.out.trans (hb.mono HBA4.out.size)); clear ht1 ht2 hb)
        | (go_at_call 14; refine (HTV1.out A HBA.out).mono ?_; rintro e w4 ⟨⟨k4, s4, n4, p4, c4, xs4⟩, he, ht1, ht2, hb⟩; obtain rfl : e = .returned (.agg #[.int .i64 k4, .string s4, .int .i64 n4, .slice p4 xs4.length c4]) := he; have HA4 := Lib.hid ht1; have HI4 := Lib.hid ht2; have HBA4 := Lib.hid hb; have HB4 := Lib.hid (HBA.out.trans (hb.mono HBA.out.size)); clear ht1 ht2 hb))
      obtain ⟨B, hB0, hBB, hBC⟩ := box_kept w5 (.mk kb sb nb pb cb bl)
      have hB : B = w5.alloc (.cells #[.int .i64 kb, .string sb, .int .i64 nb, .slice pb bl.length cb] 24) := hB0
      clear hB0
      rw [← hB]
      clear hB
      have HBC : Hid (∀ u : World, Below B.heap.size B u → u.cell? ⟨w5.heap.size, 0, none⟩ = some (.int .i64 kb) ∧ u.cell? ⟨w5.heap.size, 1, none⟩ = some (.string sb) ∧ u.cell? ⟨w5.heap.size, 2, none⟩ = some (.int .i64 nb) ∧ u.cell? ⟨w5.heap.size, 3, none⟩ = some (.slice pb bl.length cb)) := hBC
      have HBB : Hid (∀ u : World, Below B.heap.size B u → Below A.heap.size A u) := by
        show ∀ u : World, _
        exact fun u hu => (HB5.out.trans (hBB.mono HB5.out.size)).trans (hu.mono (by have h1 := HB5.out.size; have h2 := hBB.size; omega))
      have HQB : Hid (∀ u : World, Below B.heap.size B u → QIn u (.mk kb sb nb pb cb bl)) := by
        show ∀ u : World, _
        exact fun u hu => HI5.out.below (hBB.trans (hu.mono hBB.size))
      clear hBB hBC x0 x1 x2 x3 y0 y1 y2 y3
      have HAL : Hid (∀ o, Below B.heap.size B (B.alloc o)) := fun o => (Below.refl _ _).alloc (Nat.le_refl _) o
      by_cases h0 : E = 0
      · have h1 := HE.out.1 h0
        subst h0 h1
        have HSAME : Hid (∀ u : World, Below B.heap.size B u → Calls Tryd.prog 10 #[(QT.mk ka sa na pa ca al).v, (QT.mk kb sb nb pb cb bl).v] u fun e w' => e = .returned (.bool true) ∧ Below u.heap.size u w') := by
          show ∀ u : World, _
          intro u hu
          refine (sameAsk_ok _ _ u (HQA.out u (HBB.out u hu)) (HQB.out u hu)).mono ?_
          rintro e w' ⟨⟨r, h1, h2⟩, h3⟩
          rw [h2.2 (HA3.out.trans ((HQ.out rfl).trans HA5.out.symm))] at h1
          exact ⟨h1, h3⟩
        obtain ⟨a0, a1, a2, a3⟩ := HAC.out (B.alloc (.cells #[.int .i64 0, .int .i64 0] 27)) (HBB.out _ (HAL.out _))
        obtain ⟨b0, b1, b2, b3⟩ := HBC.out (B.alloc (.cells #[.int .i64 0, .int .i64 0] 27)) (HAL.out _)
        have HOK : Hid (allOk [0, 0] = true) := rfl
        go_wp2_with (first
          | (go_at_call 13; refine (good2 0 0 B).mono ?_; rw [HOK.out]; rintro e w' ⟨rfl, rfl⟩)
          | (go_at_call 10; refine (HSAME.out _ (HAL.out _)).mono ?_; rintro e w6 ⟨rfl, hb⟩; have HB6 := Lib.hid ((HAL.out _).trans (hb.mono (HAL.out _).size)); clear hb))
        go_roundw
        case rel => exact ⟨j + 1, by omega, by go_num, HAW.out _ (HBB.out _ HB6.out)⟩
        case measure => simp [intOf]; omega
      · have h1 : F ≠ 0 := fun h => h0 (HE.out.2 h)
        obtain ⟨i1, i2⟩ := int_ne' h0
        obtain ⟨i3, i4⟩ := int_ne' h1
        have HOK : Hid (allOk [E, F] = false) := by show _ = _; simp [allOk, h0]
        clear h0 h1
        go_wp2_with (go_at_call 13; refine (good2 E F B).mono ?_; rw [HOK.out]; rintro e w' ⟨rfl, rfl⟩)
        go_roundw
        case rel => exact ⟨j + 1, by omega, by go_num, HAW.out _ (HBB.out _ (HAL.out _))⟩
        case measure => simp [intOf]; omega
    · obtain rfl : j = 2 := by omega
      go_wp2
      go_ret
      exact ⟨rfl, HBW.out.trans (HBr.out.mono HBW.out.size)⟩
end Go.Proofs.YtcegmcnknkjcpaaDoor
