/- Texts joined: EvalTabsW, EvalSetsW, EvalWalksW. Conditions: theirs. -/
import Derived.Test.YteefncohknclcaaGreatDoorEvalAllWM16
import Derived.Test.YteefncohknclcaaGreatDoorEvalAllWM15
import Derived.Test.YteefncohknclcaaGreatDoorEvalAllWM13
import Derived.Deep.RegionHeld3
import Derived.BigQuiet
namespace Go.Proofs.YteefncohknclcaaGreatDoor
open Go.RowKit Go.Shelf Go.Lib
def laidE : List (String × DataW Unit) := Rows.evalSetsRow.laid
theorem formsMemE : (formsN, (Rows.laid_millwright_ask_forms : DataW Unit)) ∈ laidE := by
  show _ ∈ [_, _, _, _]
  repeat (first | exact List.Mem.head _ | apply List.Mem.tail)
set_option maxRecDepth 100000 in
theorem forms_ofE {w : World} (h : laidMetH Tryz.prog laidE w) : Forms w := by
  rw [MakeChecks.laidMetH_plain _ _ _ (by kernel_rfl)] at h
  obtain ⟨ps, hl, _⟩ := h
  obtain ⟨g, t, cs, fuel, p, h1, h2, h3, h4⟩ := laid_one hl _ formsMemE
  obtain rfl := Option.some.inj (formsG.symm.trans h1)
  obtain rfl := Option.some.inj (formsTy.symm.trans h2)
  obtain ⟨xs, m, _, hx, hlen, hxl, hff⟩ := DataW.trod_array Tryz.underlying129 h4
  intro k hk
  injection hx with hx _
  have hx : (Rows.laid_millwright_ask_forms : DataW Unit) = .agg (xs.map (·.1)) := hx
  rw [formsD] at hx
  injection hx with hx
  have hxk := congrArg (fun l : List (DataW Unit) => l[k]?) hx
  simp only [List.getElem?_map, List.getElem?_range hk, Option.map_some] at hxk
  obtain ⟨x, hx1, hx2⟩ := Option.map_eq_some_iff.1 hxk.symm
  have hf := hff k hk
  rw [hx1, formsC] at hf
  obtain ⟨x1, x2⟩ := x
  have hx2 : x1 = formD k := hx2
  subst hx2
  have hc := form_four hf
  have hg : ∀ j v, ((cs.toList.drop (k * 4)).take 4)[j]? = some v → w.cell? ⟨0, 4 * k + j, none⟩ = some v := by
    intro j v hv
    rw [World.var?_cell formsG h3]
    rw [List.getElem?_take] at hv
    split at hv
    · rw [List.getElem?_drop] at hv
      rw [← hv, show 4 * k + j = k * 4 + j by omega]
      simp
    · cases hv
  rw [hc] at hg
  exact ⟨hg 0 _ rfl, hg 1 _ rfl, hg 2 _ rfl, hg 3 _ rfl⟩
theorem firstMemE : ("unicode/utf8.first", firstData) ∈ laidE := by
  have e : (Rows.laid_unicode_utf8_first : DataW Unit) = firstData := by kernel_rfl
  rw [← e]
  show _ ∈ [_, _, _, _]
  repeat (first | exact List.Mem.head _ | apply List.Mem.tail)
theorem acceptMemE : ("unicode/utf8.acceptRanges", acceptData) ∈ laidE := by
  have e : (Rows.laid_unicode_utf8_acceptRanges : DataW Unit) = acceptData := by kernel_rfl
  rw [← e]
  show _ ∈ [_, _, _, _]
  repeat (first | exact List.Mem.head _ | apply List.Mem.tail)
theorem utf_ofE {w : World} (h : laidMetH Tryz.prog laidE w) : Lib.Utf8Tabs 3 4 w := by
  rw [MakeChecks.laidMetH_plain _ _ _ (by kernel_rfl)] at h
  obtain ⟨ps, hl, _⟩ := h
  exact utf8Tabs_of_readsT u8t u8x (LaidVars_reads hl _ _ firstMemE) (LaidVars_reads hl _ _ acceptMemE)
theorem laid_tabE {w : World} (h : laidMetH Tryz.prog laidE w) {name : String} {k : IntKind} {zs : List Int} {g : Nat} {t e : TypeId} {n : Nat} (hm : (name, (Lib.tabData k zs : DataW Unit)) ∈ laidE)
    (hg : Tryz.prog.globalNamed name = some g) (hty : (Tryz.prog.globals[g]?).map (·.type) = some t) (ht : Tryz.prog.underlying t = some (.array n e)) (he : Tryz.prog.underlying e = some (.int k)) (hce : Tryz.prog.cellsOf e = 1) (hct : Tryz.prog.cellsOf t = n) : Lib.TabIs Tryz.prog w name k zs := by
  rw [MakeChecks.laidMetH_plain _ _ _ (by kernel_rfl)] at h
  obtain ⟨ps, hl, _⟩ := h
  obtain ⟨g', t', cs, fuel, p, hg', ht', hvar, hd⟩ := laid_one hl _ hm
  obtain rfl := Option.some.inj (hg.symm.trans hg')
  obtain rfl := Option.some.inj (hty.symm.trans ht')
  unfold Lib.TabIs
  rw [hvar, ← Lib.cells_of_tab ht he hce hct hd]
/-- the table's cells -/
theorem tab_ofE {w : World} (h : laidMetH Tryz.prog laidE w) : Tab w := by
  have hT := laid_tabE h (name := tabName) (k := .u8) (zs := tabInts) (by show _ ∈ [_, _, _, _]; repeat (first | exact List.Mem.head _ | apply List.Mem.tail)) tabG tabT Tryz.underlying212 Tryz.underlying5 tabCE tabCT
  intro j hj
  have hc := hT.cell tabG j (by simpa [tabInts] using hj)
  rw [hc]
  have e : tabInts.getD j 0 = ((Lib.deBruijn64tab.getD j 0 : Nat) : Int) := by
    unfold tabInts
    rw [List.getD_eq_getElem?_getD, List.getD_eq_getElem?_getD, List.getElem?_map]
    cases Lib.deBruijn64tab[j]? <;> rfl
  rw [e]
theorem ev_tabs {w : World} (h : laidMetH Tryz.prog laidE w) : EvTabs w := ⟨⟨forms_ofE h, utf_ofE h⟩, tab_ofE h⟩
end Go.Proofs.YteefncohknclcaaGreatDoor
namespace Go.Proofs.YteefncohknclcaaGreatDoor
open Go.RowKit Go.Shelf
set_option maxHeartbeats 8000000 in
set_option maxRecDepth 100000 in
theorem evalSets_ok (g : GD) (v : Value) (x y : QT) (w : World) (hG : GrAt w v g) (hX : QIn w x) (hY : QIn w y) (hT : EvTabs w) (hcx : qcnt (qabs x) ≤ 1048576) (hcy : qcnt (qabs y) ≤ 1048576) :
    Calls Tryz.prog 5 #[v, x.v, y.v] w fun e w' => e = .returned (.bool true) ∧ Below w.heap.size w w' := by
  obtain ⟨p, n, c, qe, m, d, hv, hN, hE⟩ := hG.at_
  obtain ⟨W, hW, hBW, hS, hC⟩ := argGAA w (.slice p n c) (.slice qe m d) (.int .u64 (un g.phony : Int)) (.int .u64 (un g.made : Int)) x y
  have HC := Lib.hid hC
  have HBW := Lib.hid hBW
  have HIN : Hid (∀ u : World, Below W.heap.size W u → QIn u x ∧ QIn u y ∧ EvTabs u) := by
    show ∀ u : World, _
    exact fun u hu => ⟨hX.below (hBW.trans (hu.mono hBW.size)), hY.below (hBW.trans (hu.mono hBW.size)), hT.below (hBW.trans (hu.mono hBW.size))⟩
  have HEVS : Hid (∀ (l : List QT) (q : Option Addr) (cc : Nat) (u : World), Below W.heap.size W u → QsIn u q 0 l → (∀ t ∈ l, qcnt (qabs t) ≤ 1099511627776) → l.length ≤ 100 → Calls Tryz.prog 24 #[v, .slice q l.length cc] u (EvalsPost g l u)) := by
    show ∀ (l : List QT) (q : Option Addr) (cc : Nat) (u : World), _
    exact fun l q cc u hu hl hc h100 => evals_ok g v q cc l u (hG.below (hBW.trans (hu.mono hBW.size))) hl (HIN.out u hu).2.2 hc h100
  have HAN := Lib.hid (answers_ok W (HIN.out W (Below.refl _ _)).2.2)
  have HKx := Lib.hid hcx
  have HKy := Lib.hid hcy
  have HKall : Hid (qcnt (qabs allT) ≤ 1) := Nat.le_refl 1
  rw [hv] at HEVS ⊢
  show Calls Tryz.prog 5 #[.agg #[.slice p n c, .slice qe m d, .int .u64 (un g.phony : Int), .int .u64 (un g.made : Int)], .agg #[.int .i64 x.kind, .string x.name, .int .i64 x.num, .slice x.p x.xs.length x.cap], .agg #[.int .i64 y.kind, .string y.name, .int .i64 y.num, .slice y.p y.xs.length y.cap]] w _
  obtain ⟨⟨g0, g1, g2, g3⟩, ⟨k0, k1, k2, k3⟩, m0, m1, m2, m3⟩ := HC.out W (Below.refl _ _)
  clear hG hX hY hT hcx hcy hv hN hE hBW hC
  go_enter Tryz.func5, Tryz.ntmps5
  go_upto_region 1 with fail
  rw [← hW]
  clear hW
  go_upto_region 3 with (go_at_call 23; refine HAN.out.mono ?_; rintro e w1 ⟨rfl, hb⟩; have HB1 := Lib.hid hb; clear hb)
  obtain ⟨V, hV0, hBV, hSV, hVC⟩ := arg1 w1 (.int .i64 2) (.string ⟨#[]⟩) (.int .i64 0) (.slice none 0 0)
  have HVC := Lib.hid hVC
  have HBV := Lib.hid (HB1.out.trans (hBV.mono HB1.out.size))
  go_upto_region 4 with fail
  rw [← hV0]
  clear hV0 hBV hVC hSV
  clear g0 g1 g2 g3 k0 k1 k2 k3 m0 m1 m2 m3
  have HSS : Hid (∀ u : World, Below V.heap.size V u → (u.cell? ⟨w.heap.size, 0, none⟩ = some (.slice p n c) ∧ u.cell? ⟨w.heap.size, 1, none⟩ = some (.slice qe m d) ∧ u.cell? ⟨w.heap.size, 2, none⟩ = some (.int .u64 (un g.phony : Int)) ∧ u.cell? ⟨w.heap.size, 3, none⟩ = some (.int .u64 (un g.made : Int))) ∧ (u.cell? ⟨w.heap.size + 1, 0, none⟩ = some (.int .i64 x.kind) ∧ u.cell? ⟨w.heap.size + 1, 1, none⟩ = some (.string x.name) ∧ u.cell? ⟨w.heap.size + 1, 2, none⟩ = some (.int .i64 x.num) ∧ u.cell? ⟨w.heap.size + 1, 3, none⟩ = some (.slice x.p x.xs.length x.cap)) ∧ (u.cell? ⟨w.heap.size + 2, 0, none⟩ = some (.int .i64 y.kind) ∧ u.cell? ⟨w.heap.size + 2, 1, none⟩ = some (.string y.name) ∧ u.cell? ⟨w.heap.size + 2, 2, none⟩ = some (.int .i64 y.num) ∧ u.cell? ⟨w.heap.size + 2, 3, none⟩ = some (.slice y.p y.xs.length y.cap)) ∧ (u.cell? ⟨w1.heap.size, 0, none⟩ = some (.int .i64 2) ∧ u.cell? ⟨w1.heap.size, 1, none⟩ = some (.string ⟨#[]⟩) ∧ u.cell? ⟨w1.heap.size, 2, none⟩ = some (.int .i64 0) ∧ u.cell? ⟨w1.heap.size, 3, none⟩ = some (.slice none 0 0))) := by
    show ∀ u : World, _
    intro u hu
    have h1 := HC.out u (HBV.out.trans (hu.mono HBV.out.size))
    exact ⟨h1.1, h1.2.1, h1.2.2, HVC.out u hu⟩
  have HQX : Hid (∀ u : World, Below V.heap.size V u → QIn u x ∧ QIn u y) := by
    show ∀ u : World, _
    exact fun u hu => ⟨(HIN.out u (HBV.out.trans (hu.mono HBV.out.size))).1, (HIN.out u (HBV.out.trans (hu.mono HBV.out.size))).2.1⟩
  have HTW : Hid (∀ (k : Int) (a b : QT) (u : World), QIn u a → QIn u b → Calls Tryz.prog 25 #[.int .i64 k, a.v, b.v] u (TwoPost k a b u)) := by
    show ∀ (k : Int) (a b : QT) (u : World), _
    exact fun k a b u ha hb => twoL_ok k a b u ha hb
  unfold TwoPost at HTW
  have HB0 : Hid (Below V.heap.size V V.drew) := (Below.refl _ _).drew
  have HC0 := Lib.hid HB0.out
  go_region_held3 (fun u : World => (u.cell? ⟨w.heap.size, 0, none⟩ = some (.slice p n c) ∧ u.cell? ⟨w.heap.size, 1, none⟩ = some (.slice qe m d) ∧ u.cell? ⟨w.heap.size, 2, none⟩ = some (.int .u64 (un g.phony : Int)) ∧ u.cell? ⟨w.heap.size, 3, none⟩ = some (.int .u64 (un g.made : Int))) ∧ (u.cell? ⟨w.heap.size + 1, 0, none⟩ = some (.int .i64 x.kind) ∧ u.cell? ⟨w.heap.size + 1, 1, none⟩ = some (.string x.name) ∧ u.cell? ⟨w.heap.size + 1, 2, none⟩ = some (.int .i64 x.num) ∧ u.cell? ⟨w.heap.size + 1, 3, none⟩ = some (.slice x.p x.xs.length x.cap)) ∧ (u.cell? ⟨w.heap.size + 2, 0, none⟩ = some (.int .i64 y.kind) ∧ u.cell? ⟨w.heap.size + 2, 1, none⟩ = some (.string y.name) ∧ u.cell? ⟨w.heap.size + 2, 2, none⟩ = some (.int .i64 y.num) ∧ u.cell? ⟨w.heap.size + 2, 3, none⟩ = some (.slice y.p y.xs.length y.cap)) ∧ (u.cell? ⟨w1.heap.size, 0, none⟩ = some (.int .i64 2) ∧ u.cell? ⟨w1.heap.size, 1, none⟩ = some (.string ⟨#[]⟩) ∧ u.cell? ⟨w1.heap.size, 2, none⟩ = some (.int .i64 0) ∧ u.cell? ⟨w1.heap.size, 3, none⟩ = some (.slice none 0 0)))
    (first | exact HSS.out _ HB9.out | exact HSS.out _ HC8.out | exact HSS.out _ HC7.out | exact HSS.out _ HC6.out | exact HSS.out _ HC5.out | exact HSS.out _ HC4.out | exact HSS.out _ HC3.out | exact HSS.out _ HC2.out | exact HSS.out _ HC1.out | exact HSS.out _ HC0.out | exact HSS.out _ (HC8.out.alloc HC8.out.size _))
    (first
      | (have hb := HB0.out; clear HB0; go_at_call 25; refine (HTW.out 5 x y _ (HQX.out _ hb).1 (HQX.out _ hb).2).mono ?_; rintro e u0 ⟨t0, he, ht1, ht2, hb2⟩; obtain rfl : e = .returned (.agg #[.int .i64 t0.kind, .string t0.name, .int .i64 t0.num, .slice t0.p t0.xs.length t0.cap]) := he; have HA0 := Lib.hid ht1; have HK0 := Lib.hid (two_cnt ht1 HKx.out HKy.out); have HI0 := Lib.hid ht2; have HB1 := Lib.hid (hb.trans (hb2.mono hb.size)); have HC1 := Lib.hid HB1.out; clear hb hb2 ht1 ht2)
      | (have hb := HB1.out; clear HB1; go_at_call 25; refine (HTW.out 6 x y _ (HQX.out _ hb).1 (HQX.out _ hb).2).mono ?_; rintro e u1 ⟨t1, he, ht1, ht2, hb2⟩; obtain rfl : e = .returned (.agg #[.int .i64 t1.kind, .string t1.name, .int .i64 t1.num, .slice t1.p t1.xs.length t1.cap]) := he; have HJ := Lib.hid (HI0.out.below hb2); clear HI0; have HI0 := Lib.hid HJ.out; clear HJ; have HA1 := Lib.hid ht1; have HK1 := Lib.hid (two_cnt ht1 HKx.out HKy.out); have HI1 := Lib.hid ht2; have HB2 := Lib.hid (hb.trans (hb2.mono hb.size)); have HC2 := Lib.hid HB2.out; clear hb hb2 ht1 ht2)
      | (have hb := HB2.out; clear HB2; go_at_call 25; refine (HTW.out 7 x y _ (HQX.out _ hb).1 (HQX.out _ hb).2).mono ?_; rintro e u2 ⟨t2, he, ht1, ht2, hb2⟩; obtain rfl : e = .returned (.agg #[.int .i64 t2.kind, .string t2.name, .int .i64 t2.num, .slice t2.p t2.xs.length t2.cap]) := he; have HJ := Lib.hid (HI0.out.below hb2); clear HI0; have HI0 := Lib.hid HJ.out; clear HJ; have HJ := Lib.hid (HI1.out.below hb2); clear HI1; have HI1 := Lib.hid HJ.out; clear HJ; have HA2 := Lib.hid ht1; have HK2 := Lib.hid (two_cnt ht1 HKx.out HKy.out); have HI2 := Lib.hid ht2; have HB3 := Lib.hid (hb.trans (hb2.mono hb.size)); have HC3 := Lib.hid HB3.out; clear hb hb2 ht1 ht2)
      | (have hb := HB3.out; clear HB3; go_at_call 25; refine (HTW.out 5 x y _ (HQX.out _ hb).1 (HQX.out _ hb).2).mono ?_; rintro e u3 ⟨t3, he, ht1, ht2, hb2⟩; obtain rfl : e = .returned (.agg #[.int .i64 t3.kind, .string t3.name, .int .i64 t3.num, .slice t3.p t3.xs.length t3.cap]) := he; have HJ := Lib.hid (HI0.out.below hb2); clear HI0; have HI0 := Lib.hid HJ.out; clear HJ; have HJ := Lib.hid (HI1.out.below hb2); clear HI1; have HI1 := Lib.hid HJ.out; clear HJ; have HJ := Lib.hid (HI2.out.below hb2); clear HI2; have HI2 := Lib.hid HJ.out; clear HJ; have HA3 := Lib.hid ht1; have HK3 := Lib.hid (two_cnt ht1 HKx.out HKy.out); have HI3 := Lib.hid ht2; have HB4 := Lib.hid (hb.trans (hb2.mono hb.size)); have HC4 := Lib.hid HB4.out; clear hb hb2 ht1 ht2)
      | (have hb := HB4.out; clear HB4; go_at_call 25; refine (HTW.out 7 allT t3 _ (allT_in _) HI3.out).mono ?_; rintro e u4 ⟨t4, he, ht1, ht2, hb2⟩; obtain rfl : e = .returned (.agg #[.int .i64 t4.kind, .string t4.name, .int .i64 t4.num, .slice t4.p t4.xs.length t4.cap]) := he; have HJ := Lib.hid (HI0.out.below hb2); clear HI0; have HI0 := Lib.hid HJ.out; clear HJ; have HJ := Lib.hid (HI1.out.below hb2); clear HI1; have HI1 := Lib.hid HJ.out; clear HJ; have HJ := Lib.hid (HI2.out.below hb2); clear HI2; have HI2 := Lib.hid HJ.out; clear HJ; have HJ := Lib.hid (HI3.out.below hb2); clear HI3; have HI3 := Lib.hid HJ.out; clear HJ; have HA4 := Lib.hid ht1; have HK4 := Lib.hid (two_cnt ht1 HKall.out HK3.out); have HI4 := Lib.hid ht2; have HB5 := Lib.hid (hb.trans (hb2.mono hb.size)); have HC5 := Lib.hid HB5.out; clear hb hb2 ht1 ht2)
      | (have hb := HB5.out; clear HB5; go_at_call 25; refine (HTW.out 7 allT x _ (allT_in _) (HQX.out _ hb).1).mono ?_; rintro e u5 ⟨t5, he, ht1, ht2, hb2⟩; obtain rfl : e = .returned (.agg #[.int .i64 t5.kind, .string t5.name, .int .i64 t5.num, .slice t5.p t5.xs.length t5.cap]) := he; have HJ := Lib.hid (HI0.out.below hb2); clear HI0; have HI0 := Lib.hid HJ.out; clear HJ; have HJ := Lib.hid (HI1.out.below hb2); clear HI1; have HI1 := Lib.hid HJ.out; clear HJ; have HJ := Lib.hid (HI2.out.below hb2); clear HI2; have HI2 := Lib.hid HJ.out; clear HJ; have HJ := Lib.hid (HI3.out.below hb2); clear HI3; have HI3 := Lib.hid HJ.out; clear HJ; have HJ := Lib.hid (HI4.out.below hb2); clear HI4; have HI4 := Lib.hid HJ.out; clear HJ; have HA5 := Lib.hid ht1; have HK5 := Lib.hid (two_cnt ht1 HKall.out HKx.out); have HI5 := Lib.hid ht2; have HB6 := Lib.hid (hb.trans (hb2.mono hb.size)); have HC6 := Lib.hid HB6.out; clear hb hb2 ht1 ht2)
      | (have hb := HB6.out; clear HB6; go_at_call 25; refine (HTW.out 7 allT y _ (allT_in _) (HQX.out _ hb).2).mono ?_; rintro e u6 ⟨t6, he, ht1, ht2, hb2⟩; obtain rfl : e = .returned (.agg #[.int .i64 t6.kind, .string t6.name, .int .i64 t6.num, .slice t6.p t6.xs.length t6.cap]) := he; have HJ := Lib.hid (HI0.out.below hb2); clear HI0; have HI0 := Lib.hid HJ.out; clear HJ; have HJ := Lib.hid (HI1.out.below hb2); clear HI1; have HI1 := Lib.hid HJ.out; clear HJ; have HJ := Lib.hid (HI2.out.below hb2); clear HI2; have HI2 := Lib.hid HJ.out; clear HJ; have HJ := Lib.hid (HI3.out.below hb2); clear HI3; have HI3 := Lib.hid HJ.out; clear HJ; have HJ := Lib.hid (HI4.out.below hb2); clear HI4; have HI4 := Lib.hid HJ.out; clear HJ; have HJ := Lib.hid (HI5.out.below hb2); clear HI5; have HI5 := Lib.hid HJ.out; clear HJ; have HA6 := Lib.hid ht1; have HK6 := Lib.hid (two_cnt ht1 HKall.out HKy.out); have HI6 := Lib.hid ht2; have HB7 := Lib.hid (hb.trans (hb2.mono hb.size)); have HC7 := Lib.hid HB7.out; clear hb hb2 ht1 ht2)
      | (have hb := HB7.out; clear HB7; go_at_call 25; refine (HTW.out 6 t5 t6 _ HI5.out HI6.out).mono ?_; rintro e u7 ⟨t7, he, ht1, ht2, hb2⟩; obtain rfl : e = .returned (.agg #[.int .i64 t7.kind, .string t7.name, .int .i64 t7.num, .slice t7.p t7.xs.length t7.cap]) := he; have HJ := Lib.hid (HI0.out.below hb2); clear HI0; have HI0 := Lib.hid HJ.out; clear HJ; have HJ := Lib.hid (HI1.out.below hb2); clear HI1; have HI1 := Lib.hid HJ.out; clear HJ; have HJ := Lib.hid (HI2.out.below hb2); clear HI2; have HI2 := Lib.hid HJ.out; clear HJ; have HJ := Lib.hid (HI3.out.below hb2); clear HI3; have HI3 := Lib.hid HJ.out; clear HJ; have HJ := Lib.hid (HI4.out.below hb2); clear HI4; have HI4 := Lib.hid HJ.out; clear HJ; have HJ := Lib.hid (HI5.out.below hb2); clear HI5; have HI5 := Lib.hid HJ.out; clear HJ; have HJ := Lib.hid (HI6.out.below hb2); clear HI6; have HI6 := Lib.hid HJ.out; clear HJ; have HA7 := Lib.hid ht1; have HK7 := Lib.hid (two_cnt ht1 HK5.out HK6.out); have HI7 := Lib.hid ht2; have HB8 := Lib.hid (hb.trans (hb2.mono hb.size)); have HC8 := Lib.hid HB8.out; clear hb hb2 ht1 ht2)
      | (have hb := HB8.out; clear HB8; go_at_call 24; have hq := qs_list u7 [x, y, t0, t1, t2, t4, t7] (List.forall_mem_cons.2 ⟨(HQX.out _ hb).1, List.forall_mem_cons.2 ⟨(HQX.out _ hb).2, List.forall_mem_cons.2 ⟨HI0.out, List.forall_mem_cons.2 ⟨HI1.out, List.forall_mem_cons.2 ⟨HI2.out, List.forall_mem_cons.2 ⟨HI4.out, List.forall_mem_cons.2 ⟨HI7.out, (fun _ h => nomatch h)⟩⟩⟩⟩⟩⟩⟩); have hcnt : ∀ t ∈ [x, y, t0, t1, t2, t4, t7], qcnt (qabs t) ≤ 1099511627776 := List.forall_mem_cons.2 ⟨Nat.le_trans HKx.out (by decide), List.forall_mem_cons.2 ⟨Nat.le_trans HKy.out (by decide), List.forall_mem_cons.2 ⟨Nat.le_trans HK0.out (by decide), List.forall_mem_cons.2 ⟨Nat.le_trans HK1.out (by decide), List.forall_mem_cons.2 ⟨Nat.le_trans HK2.out (by decide), List.forall_mem_cons.2 ⟨Nat.le_trans HK4.out (by decide), List.forall_mem_cons.2 ⟨Nat.le_trans HK7.out (by decide), (fun _ h => nomatch h)⟩⟩⟩⟩⟩⟩⟩; refine (HEVS.out [x, y, t0, t1, t2, t4, t7] _ _ _ (HBV.out.trans ((hb.alloc hb.size _).mono HBV.out.size)) hq hcnt (Nat.le_of_ble_eq_true rfl)).mono ?_; rintro e w9 hF; obtain ⟨⟨sv, bb, rfl, hP⟩, hb2⟩ := evals_res hF; have HP := Lib.hid hP; have HB9 := Lib.hid ((hb.alloc hb.size _).trans (hb2.mono (hb.alloc hb.size _).size)); clear hb hb2 hF hP hq hcnt))
  cases bb
  · clear HSS
    go_upto_region 5 with fail
    go_quiet (fail)
    go_wp2_with fail
    go_ret
    exact ⟨rfl, below_drawsA (HBW.out.trans ((HBV.out.trans (HB9.out.mono HBV.out.size)).mono HBW.out.size)) _⟩
  · obtain ⟨hev, bq, cq, rfl, hcell⟩ := res_cells HP.out (Nat.zero_lt_succ _)
    obtain ⟨l1, l2, l3, l4⟩ := sets_law g (qabs x) (qabs y)
    have e2 := hcell 2 t0 rfl
    have e3 := hcell 3 t1 rfl
    have e4 := hcell 4 t2 rfl
    have e5 := hcell 5 t4 rfl
    have e6 := hcell 6 t7 rfl
    have e0 := hcell 0 x rfl
    have e1 := hcell 1 y rfl
    have eall : qabs allT = .mk 2 [] 0 [] := rfl
    rw [HA0.out, l1] at e2
    rw [HA1.out, l2] at e3
    rw [HA2.out, l3] at e4
    rw [HA4.out, HA3.out, eall, l4] at e5
    rw [HA7.out, HA5.out, HA6.out, eall] at e6
    generalize qval g (.mk 6 [] 0 [.mk 7 [] 0 [.mk 2 [] 0 [], qabs x], .mk 7 [] 0 [.mk 2 [] 0 [], qabs y]]) [] = R at e5 e6
    generalize qval g (qabs x) [] = X at *
    generalize qval g (qabs y) [] = Y at *
    have hl : ([x, y, t0, t1, t2, t4, t7] : List QT).length = 7 := rfl
    rw [hl]
    clear hev hcell l1 l2 l3 l4 eall HSS hl
    go_upto_region 5 with fail
    go_quiet (fail)
    go_wp2_with fail
    go_ret
    exact ⟨rfl, below_drawsA (HBW.out.trans ((HBV.out.trans (HB9.out.mono HBV.out.size)).mono HBW.out.size)) _⟩
end Go.Proofs.YteefncohknclcaaGreatDoor
namespace Go.Proofs.YteefncohknclcaaGreatDoor
open Go.RowKit Go.Shelf
set_option maxHeartbeats 8000000 in
set_option maxRecDepth 100000 in
theorem evalWalks_ok (g : GD) (v : Value) (x y : QT) (w : World) (hG : GrAt w v g) (hX : QIn w x) (hY : QIn w y) (hT : EvTabs w) (hcx : qcnt (qabs x) ≤ 1048576) (hcy : qcnt (qabs y) ≤ 1048576) :
    Calls Tryz.prog 6 #[v, x.v, y.v] w fun e w' => e = .returned (.bool true) ∧ Below w.heap.size w w' := by
  obtain ⟨p, n, c, qe, m, d, hv, hN, hE⟩ := hG.at_
  obtain ⟨W, hW, hBW, hS, hC⟩ := argGAA w (.slice p n c) (.slice qe m d) (.int .u64 (un g.phony : Int)) (.int .u64 (un g.made : Int)) x y
  have HC := Lib.hid hC
  have HBW := Lib.hid hBW
  have HIN : Hid (∀ u : World, Below W.heap.size W u → QIn u x ∧ QIn u y ∧ EvTabs u) := by
    show ∀ u : World, _
    exact fun u hu => ⟨hX.below (hBW.trans (hu.mono hBW.size)), hY.below (hBW.trans (hu.mono hBW.size)), hT.below (hBW.trans (hu.mono hBW.size))⟩
  have HEVS : Hid (∀ (l : List QT) (q : Option Addr) (cc : Nat) (u : World), Below W.heap.size W u → QsIn u q 0 l → (∀ t ∈ l, qcnt (qabs t) ≤ 1099511627776) → l.length ≤ 100 → Calls Tryz.prog 24 #[v, .slice q l.length cc] u (EvalsPost g l u)) := by
    show ∀ (l : List QT) (q : Option Addr) (cc : Nat) (u : World), _
    exact fun l q cc u hu hl hc h100 => evals_ok g v q cc l u (hG.below (hBW.trans (hu.mono hBW.size))) hl (HIN.out u hu).2.2 hc h100
  have HAN := Lib.hid (answers_ok W (HIN.out W (Below.refl _ _)).2.2)
  have HKx := Lib.hid hcx
  have HKy := Lib.hid hcy
  have HKall : Hid (qcnt (qabs allT) ≤ 1) := Nat.le_refl 1
  rw [hv] at HEVS ⊢
  show Calls Tryz.prog 6 #[.agg #[.slice p n c, .slice qe m d, .int .u64 (un g.phony : Int), .int .u64 (un g.made : Int)], .agg #[.int .i64 x.kind, .string x.name, .int .i64 x.num, .slice x.p x.xs.length x.cap], .agg #[.int .i64 y.kind, .string y.name, .int .i64 y.num, .slice y.p y.xs.length y.cap]] w _
  obtain ⟨⟨g0, g1, g2, g3⟩, ⟨k0, k1, k2, k3⟩, m0, m1, m2, m3⟩ := HC.out W (Below.refl _ _)
  clear hG hX hY hT hcx hcy hv hN hE hBW hC
  go_enter Tryz.func6, Tryz.ntmps6
  go_upto_region 1 with fail
  rw [← hW]
  clear hW
  go_upto_region 3 with (go_at_call 23; refine HAN.out.mono ?_; rintro e w1 ⟨rfl, hb⟩; have HB1 := Lib.hid hb; clear hb)
  obtain ⟨V, hV0⟩ : ∃ V, V = w1 := ⟨_, rfl⟩
  subst hV0
  have HBV := Lib.hid HB1.out
  clear g0 g1 g2 g3 k0 k1 k2 k3 m0 m1 m2 m3
  have HSS : Hid (∀ u : World, Below V.heap.size V u → (u.cell? ⟨w.heap.size, 0, none⟩ = some (.slice p n c) ∧ u.cell? ⟨w.heap.size, 1, none⟩ = some (.slice qe m d) ∧ u.cell? ⟨w.heap.size, 2, none⟩ = some (.int .u64 (un g.phony : Int)) ∧ u.cell? ⟨w.heap.size, 3, none⟩ = some (.int .u64 (un g.made : Int))) ∧ (u.cell? ⟨w.heap.size + 1, 0, none⟩ = some (.int .i64 x.kind) ∧ u.cell? ⟨w.heap.size + 1, 1, none⟩ = some (.string x.name) ∧ u.cell? ⟨w.heap.size + 1, 2, none⟩ = some (.int .i64 x.num) ∧ u.cell? ⟨w.heap.size + 1, 3, none⟩ = some (.slice x.p x.xs.length x.cap)) ∧ (u.cell? ⟨w.heap.size + 2, 0, none⟩ = some (.int .i64 y.kind) ∧ u.cell? ⟨w.heap.size + 2, 1, none⟩ = some (.string y.name) ∧ u.cell? ⟨w.heap.size + 2, 2, none⟩ = some (.int .i64 y.num) ∧ u.cell? ⟨w.heap.size + 2, 3, none⟩ = some (.slice y.p y.xs.length y.cap))) := by
    show ∀ u : World, _
    intro u hu
    have h1 := HC.out u (HBV.out.trans (hu.mono HBV.out.size))
    exact h1
  have HQX : Hid (∀ u : World, Below V.heap.size V u → QIn u x ∧ QIn u y) := by
    show ∀ u : World, _
    exact fun u hu => ⟨(HIN.out u (HBV.out.trans (hu.mono HBV.out.size))).1, (HIN.out u (HBV.out.trans (hu.mono HBV.out.size))).2.1⟩
  have HTW : Hid (∀ (k : Int) (a b : QT) (u : World), QIn u a → QIn u b → Calls Tryz.prog 25 #[.int .i64 k, a.v, b.v] u (TwoPost k a b u)) := by
    show ∀ (k : Int) (a b : QT) (u : World), _
    exact fun k a b u ha hb => twoL_ok k a b u ha hb
  unfold TwoPost at HTW
  have HON : Hid (∀ (k : Int) (a : QT) (u : World), QIn u a → Calls Tryz.prog 26 #[.int .i64 k, a.v] u (OnePost k a u)) := by
    show ∀ (k : Int) (a : QT) (u : World), _
    exact fun k a u ha => oneL_ok k a u ha
  unfold OnePost at HON
  have HB0 : Hid (Below V.heap.size V V.drew) := (Below.refl _ _).drew
  have HC0 := Lib.hid HB0.out
  go_region_held3 (fun u : World => (u.cell? ⟨w.heap.size, 0, none⟩ = some (.slice p n c) ∧ u.cell? ⟨w.heap.size, 1, none⟩ = some (.slice qe m d) ∧ u.cell? ⟨w.heap.size, 2, none⟩ = some (.int .u64 (un g.phony : Int)) ∧ u.cell? ⟨w.heap.size, 3, none⟩ = some (.int .u64 (un g.made : Int))) ∧ (u.cell? ⟨w.heap.size + 1, 0, none⟩ = some (.int .i64 x.kind) ∧ u.cell? ⟨w.heap.size + 1, 1, none⟩ = some (.string x.name) ∧ u.cell? ⟨w.heap.size + 1, 2, none⟩ = some (.int .i64 x.num) ∧ u.cell? ⟨w.heap.size + 1, 3, none⟩ = some (.slice x.p x.xs.length x.cap)) ∧ (u.cell? ⟨w.heap.size + 2, 0, none⟩ = some (.int .i64 y.kind) ∧ u.cell? ⟨w.heap.size + 2, 1, none⟩ = some (.string y.name) ∧ u.cell? ⟨w.heap.size + 2, 2, none⟩ = some (.int .i64 y.num) ∧ u.cell? ⟨w.heap.size + 2, 3, none⟩ = some (.slice y.p y.xs.length y.cap)))
    (first | exact HSS.out _ HB9.out | exact HSS.out _ HC9.out | exact HSS.out _ HC8.out | exact HSS.out _ HC7.out | exact HSS.out _ HC6.out | exact HSS.out _ HC5.out | exact HSS.out _ HC4.out | exact HSS.out _ HC3.out | exact HSS.out _ HC2.out | exact HSS.out _ HC1.out | exact HSS.out _ HC0.out | exact HSS.out _ (HC9.out.alloc HC9.out.size _))
    (first
      | (have hb := HB0.out; clear HB0; go_at_call 26; refine (HON.out 8 x _ (HQX.out _ hb).1).mono ?_; rintro e u0 ⟨t0, he, ht1, ht2, hb2⟩; obtain rfl : e = .returned (.agg #[.int .i64 t0.kind, .string t0.name, .int .i64 t0.num, .slice t0.p t0.xs.length t0.cap]) := he; have HA0 := Lib.hid ht1; have HK0 := Lib.hid (one_cnt ht1 HKx.out); have HI0 := Lib.hid ht2; have HB1 := Lib.hid (hb.trans (hb2.mono hb.size)); have HC1 := Lib.hid HB1.out; clear hb hb2 ht1 ht2)
      | (have hb := HB1.out; clear HB1; go_at_call 26; refine (HON.out 8 y _ (HQX.out _ hb).2).mono ?_; rintro e u1 ⟨t1, he, ht1, ht2, hb2⟩; obtain rfl : e = .returned (.agg #[.int .i64 t1.kind, .string t1.name, .int .i64 t1.num, .slice t1.p t1.xs.length t1.cap]) := he; have HJ := Lib.hid (HI0.out.below hb2); clear HI0; have HI0 := Lib.hid HJ.out; clear HJ; have HA1 := Lib.hid ht1; have HK1 := Lib.hid (one_cnt ht1 HKy.out); have HI1 := Lib.hid ht2; have HB2 := Lib.hid (hb.trans (hb2.mono hb.size)); have HC2 := Lib.hid HB2.out; clear hb hb2 ht1 ht2)
      | (have hb := HB2.out; clear HB2; go_at_call 25; refine (HTW.out 5 x y _ (HQX.out _ hb).1 (HQX.out _ hb).2).mono ?_; rintro e u2 ⟨t2, he, ht1, ht2, hb2⟩; obtain rfl : e = .returned (.agg #[.int .i64 t2.kind, .string t2.name, .int .i64 t2.num, .slice t2.p t2.xs.length t2.cap]) := he; have HJ := Lib.hid (HI0.out.below hb2); clear HI0; have HI0 := Lib.hid HJ.out; clear HJ; have HJ := Lib.hid (HI1.out.below hb2); clear HI1; have HI1 := Lib.hid HJ.out; clear HJ; have HA2 := Lib.hid ht1; have HK2 := Lib.hid (two_cnt ht1 HKx.out HKy.out); have HI2 := Lib.hid ht2; have HB3 := Lib.hid (hb.trans (hb2.mono hb.size)); have HC3 := Lib.hid HB3.out; clear hb hb2 ht1 ht2)
      | (have hb := HB3.out; clear HB3; go_at_call 26; refine (HON.out 8 t2 _ HI2.out).mono ?_; rintro e u3 ⟨t3, he, ht1, ht2, hb2⟩; obtain rfl : e = .returned (.agg #[.int .i64 t3.kind, .string t3.name, .int .i64 t3.num, .slice t3.p t3.xs.length t3.cap]) := he; have HJ := Lib.hid (HI0.out.below hb2); clear HI0; have HI0 := Lib.hid HJ.out; clear HJ; have HJ := Lib.hid (HI1.out.below hb2); clear HI1; have HI1 := Lib.hid HJ.out; clear HJ; have HJ := Lib.hid (HI2.out.below hb2); clear HI2; have HI2 := Lib.hid HJ.out; clear HJ; have HA3 := Lib.hid ht1; have HK3 := Lib.hid (one_cnt ht1 HK2.out); have HI3 := Lib.hid ht2; have HB4 := Lib.hid (hb.trans (hb2.mono hb.size)); have HC4 := Lib.hid HB4.out; clear hb hb2 ht1 ht2)
      | (have hb := HB4.out; clear HB4; go_at_call 26; refine (HON.out 8 x _ (HQX.out _ hb).1).mono ?_; rintro e u4 ⟨t4, he, ht1, ht2, hb2⟩; obtain rfl : e = .returned (.agg #[.int .i64 t4.kind, .string t4.name, .int .i64 t4.num, .slice t4.p t4.xs.length t4.cap]) := he; have HJ := Lib.hid (HI0.out.below hb2); clear HI0; have HI0 := Lib.hid HJ.out; clear HJ; have HJ := Lib.hid (HI1.out.below hb2); clear HI1; have HI1 := Lib.hid HJ.out; clear HJ; have HJ := Lib.hid (HI2.out.below hb2); clear HI2; have HI2 := Lib.hid HJ.out; clear HJ; have HJ := Lib.hid (HI3.out.below hb2); clear HI3; have HI3 := Lib.hid HJ.out; clear HJ; have HA4 := Lib.hid ht1; have HK4 := Lib.hid (one_cnt ht1 HKx.out); have HI4 := Lib.hid ht2; have HB5 := Lib.hid (hb.trans (hb2.mono hb.size)); have HC5 := Lib.hid HB5.out; clear hb hb2 ht1 ht2)
      | (have hb := HB5.out; clear HB5; go_at_call 26; refine (HON.out 8 t4 _ HI4.out).mono ?_; rintro e u5 ⟨t5, he, ht1, ht2, hb2⟩; obtain rfl : e = .returned (.agg #[.int .i64 t5.kind, .string t5.name, .int .i64 t5.num, .slice t5.p t5.xs.length t5.cap]) := he; have HJ := Lib.hid (HI0.out.below hb2); clear HI0; have HI0 := Lib.hid HJ.out; clear HJ; have HJ := Lib.hid (HI1.out.below hb2); clear HI1; have HI1 := Lib.hid HJ.out; clear HJ; have HJ := Lib.hid (HI2.out.below hb2); clear HI2; have HI2 := Lib.hid HJ.out; clear HJ; have HJ := Lib.hid (HI3.out.below hb2); clear HI3; have HI3 := Lib.hid HJ.out; clear HJ; have HJ := Lib.hid (HI4.out.below hb2); clear HI4; have HI4 := Lib.hid HJ.out; clear HJ; have HA5 := Lib.hid ht1; have HK5 := Lib.hid (one_cnt ht1 HK4.out); have HI5 := Lib.hid ht2; have HB6 := Lib.hid (hb.trans (hb2.mono hb.size)); have HC6 := Lib.hid HB6.out; clear hb hb2 ht1 ht2)
      | (have hb := HB6.out; clear HB6; go_at_call 25; refine (HTW.out 12 x y _ (HQX.out _ hb).1 (HQX.out _ hb).2).mono ?_; rintro e u6 ⟨t6, he, ht1, ht2, hb2⟩; obtain rfl : e = .returned (.agg #[.int .i64 t6.kind, .string t6.name, .int .i64 t6.num, .slice t6.p t6.xs.length t6.cap]) := he; have HJ := Lib.hid (HI0.out.below hb2); clear HI0; have HI0 := Lib.hid HJ.out; clear HJ; have HJ := Lib.hid (HI1.out.below hb2); clear HI1; have HI1 := Lib.hid HJ.out; clear HJ; have HJ := Lib.hid (HI2.out.below hb2); clear HI2; have HI2 := Lib.hid HJ.out; clear HJ; have HJ := Lib.hid (HI3.out.below hb2); clear HI3; have HI3 := Lib.hid HJ.out; clear HJ; have HJ := Lib.hid (HI4.out.below hb2); clear HI4; have HI4 := Lib.hid HJ.out; clear HJ; have HJ := Lib.hid (HI5.out.below hb2); clear HI5; have HI5 := Lib.hid HJ.out; clear HJ; have HA6 := Lib.hid ht1; have HK6 := Lib.hid (two_cnt ht1 HKx.out HKy.out); have HI6 := Lib.hid ht2; have HB7 := Lib.hid (hb.trans (hb2.mono hb.size)); have HC7 := Lib.hid HB7.out; clear hb hb2 ht1 ht2)
      | (have hb := HB7.out; clear HB7; go_at_call 26; refine (HON.out 9 y _ (HQX.out _ hb).2).mono ?_; rintro e u7 ⟨t7, he, ht1, ht2, hb2⟩; obtain rfl : e = .returned (.agg #[.int .i64 t7.kind, .string t7.name, .int .i64 t7.num, .slice t7.p t7.xs.length t7.cap]) := he; have HJ := Lib.hid (HI0.out.below hb2); clear HI0; have HI0 := Lib.hid HJ.out; clear HJ; have HJ := Lib.hid (HI1.out.below hb2); clear HI1; have HI1 := Lib.hid HJ.out; clear HJ; have HJ := Lib.hid (HI2.out.below hb2); clear HI2; have HI2 := Lib.hid HJ.out; clear HJ; have HJ := Lib.hid (HI3.out.below hb2); clear HI3; have HI3 := Lib.hid HJ.out; clear HJ; have HJ := Lib.hid (HI4.out.below hb2); clear HI4; have HI4 := Lib.hid HJ.out; clear HJ; have HJ := Lib.hid (HI5.out.below hb2); clear HI5; have HI5 := Lib.hid HJ.out; clear HJ; have HJ := Lib.hid (HI6.out.below hb2); clear HI6; have HI6 := Lib.hid HJ.out; clear HJ; have HA7 := Lib.hid ht1; have HK7 := Lib.hid (one_cnt ht1 HKy.out); have HI7 := Lib.hid ht2; have HB8 := Lib.hid (hb.trans (hb2.mono hb.size)); have HC8 := Lib.hid HB8.out; clear hb hb2 ht1 ht2)
      | (have hb := HB8.out; clear HB8; go_at_call 25; refine (HTW.out 13 x y _ (HQX.out _ hb).1 (HQX.out _ hb).2).mono ?_; rintro e u8 ⟨t8, he, ht1, ht2, hb2⟩; obtain rfl : e = .returned (.agg #[.int .i64 t8.kind, .string t8.name, .int .i64 t8.num, .slice t8.p t8.xs.length t8.cap]) := he; have HJ := Lib.hid (HI0.out.below hb2); clear HI0; have HI0 := Lib.hid HJ.out; clear HJ; have HJ := Lib.hid (HI1.out.below hb2); clear HI1; have HI1 := Lib.hid HJ.out; clear HJ; have HJ := Lib.hid (HI2.out.below hb2); clear HI2; have HI2 := Lib.hid HJ.out; clear HJ; have HJ := Lib.hid (HI3.out.below hb2); clear HI3; have HI3 := Lib.hid HJ.out; clear HJ; have HJ := Lib.hid (HI4.out.below hb2); clear HI4; have HI4 := Lib.hid HJ.out; clear HJ; have HJ := Lib.hid (HI5.out.below hb2); clear HI5; have HI5 := Lib.hid HJ.out; clear HJ; have HJ := Lib.hid (HI6.out.below hb2); clear HI6; have HI6 := Lib.hid HJ.out; clear HJ; have HJ := Lib.hid (HI7.out.below hb2); clear HI7; have HI7 := Lib.hid HJ.out; clear HJ; have HA8 := Lib.hid ht1; have HK8 := Lib.hid (two_cnt ht1 HKx.out HKy.out); have HI8 := Lib.hid ht2; have HB9 := Lib.hid (hb.trans (hb2.mono hb.size)); have HC9 := Lib.hid HB9.out; clear hb hb2 ht1 ht2)
      | (have hb := HB9.out; clear HB9; go_at_call 24; have hq := qs_list u8 [x, y, t0, t1, t3, t5, t6, t7, t8] (List.forall_mem_cons.2 ⟨(HQX.out _ hb).1, List.forall_mem_cons.2 ⟨(HQX.out _ hb).2, List.forall_mem_cons.2 ⟨HI0.out, List.forall_mem_cons.2 ⟨HI1.out, List.forall_mem_cons.2 ⟨HI3.out, List.forall_mem_cons.2 ⟨HI5.out, List.forall_mem_cons.2 ⟨HI6.out, List.forall_mem_cons.2 ⟨HI7.out, List.forall_mem_cons.2 ⟨HI8.out, (fun _ h => nomatch h)⟩⟩⟩⟩⟩⟩⟩⟩⟩); have hcnt : ∀ t ∈ [x, y, t0, t1, t3, t5, t6, t7, t8], qcnt (qabs t) ≤ 1099511627776 := List.forall_mem_cons.2 ⟨Nat.le_trans HKx.out (by decide), List.forall_mem_cons.2 ⟨Nat.le_trans HKy.out (by decide), List.forall_mem_cons.2 ⟨Nat.le_trans HK0.out (by decide), List.forall_mem_cons.2 ⟨Nat.le_trans HK1.out (by decide), List.forall_mem_cons.2 ⟨Nat.le_trans HK3.out (by decide), List.forall_mem_cons.2 ⟨Nat.le_trans HK5.out (by decide), List.forall_mem_cons.2 ⟨Nat.le_trans HK6.out (by decide), List.forall_mem_cons.2 ⟨Nat.le_trans HK7.out (by decide), List.forall_mem_cons.2 ⟨Nat.le_trans HK8.out (by decide), (fun _ h => nomatch h)⟩⟩⟩⟩⟩⟩⟩⟩⟩; refine (HEVS.out [x, y, t0, t1, t3, t5, t6, t7, t8] _ _ _ (HBV.out.trans ((hb.alloc hb.size _).mono HBV.out.size)) hq hcnt (Nat.le_of_ble_eq_true rfl)).mono ?_; rintro e w9 hF; obtain ⟨⟨sv, bb, rfl, hP⟩, hb2⟩ := evals_res hF; have HP := Lib.hid hP; have HB9 := Lib.hid ((hb.alloc hb.size _).trans (hb2.mono (hb.alloc hb.size _).size)); clear hb hb2 hF hP hq hcnt))
  cases bb
  · clear HSS
    go_wp2_with fail
    go_ret
    exact ⟨rfl, HBW.out.trans ((HBV.out.trans (HB9.out.mono HBV.out.size)).mono HBW.out.size)⟩
  · obtain ⟨hev, bq, cq, rfl, hcell⟩ := res_cells HP.out (Nat.zero_lt_succ _)
    have e0 := hcell 0 x rfl
    have e1 := hcell 1 y rfl
    have e2 := hcell 2 t0 rfl
    have e3 := hcell 3 t1 rfl
    have e4 := hcell 4 t3 rfl
    have e5 := hcell 5 t5 rfl
    have e6 := hcell 6 t6 rfl
    have e7 := hcell 7 t7 rfl
    have e8 := hcell 8 t8 rfl
    obtain ⟨l1, l2, l3, l4, l5, l6⟩ := walks_law (hev x (by simp)) (hev y (by simp))
    rw [HA0.out] at e2
    rw [HA1.out] at e3
    rw [HA3.out, HA2.out, l2] at e4
    rw [HA5.out, HA4.out, l3] at e5
    rw [HA6.out] at e6
    rw [HA7.out] at e7
    rw [HA8.out] at e8
    generalize qval g (.mk 13 [] 0 [qabs x, qabs y]) [] = V8 at *
    rw [l4] at e6 l5 l6
    generalize qval g (.mk 8 [] 0 [qabs x]) [] = D1 at *
    generalize qval g (.mk 8 [] 0 [qabs y]) [] = D2 at *
    generalize qval g (.mk 9 [] 0 [qabs y]) [] = D3 at *
    generalize qval g (qabs x) [] = X at *
    generalize qval g (qabs y) [] = Y at *
    have hl : ([x, y, t0, t1, t3, t5, t6, t7, t8] : List QT).length = 9 := rfl
    rw [hl]
    have z1 : ((un (X &&& ~~~D1) : Int) == 0) = true := by rw [l1]; rfl
    have z2 : ((un (V8 &&& ~~~(D1 &&& D3)) : Int) == 0) = true := by rw [l5]; rfl
    have z3 : ((un V8 : Int) != 0) = ((un (D1 &&& D3) : Int) != 0) := by
      have nz : ∀ x : B, ((un x : Int) != 0) = true ↔ x ≠ 0#64 := fun x => by
        rw [bne_iff_ne]
        exact ⟨fun h e => h (by rw [e]; rfl), fun h e => h (un_inj (by have h0 : (un 0#64 : Nat) = 0 := rfl; omega))⟩
      rw [Bool.eq_iff_iff, nz, nz]
      exact l6
    have z4 : ((un V8 : Int) == 0) = ((un (D1 &&& D3) : Int) == 0) := by
      have := congrArg (fun b => !b) z3
      simpa [bne] using this
    clear hev hcell l1 l2 l3 l4 l5 l6 HSS hl
    go_upto_region 6 with fail
    cases h0 : ((un (D1 &&& D3) : Int) == 0)
    · have h1 : ((un (D1 &&& D3) : Int) != 0) = true := by simp [bne, h0]
      rw [h0] at z4
      rw [h1] at z3
      go_quiet (fail)
      go_wp2_with fail
      go_ret
      exact ⟨rfl, below_drawsA (HBW.out.trans ((HBV.out.trans (HB9.out.mono HBV.out.size)).mono HBW.out.size)) _⟩
    · have h1 : ((un (D1 &&& D3) : Int) != 0) = false := by simp [bne, h0]
      rw [h0] at z4
      rw [h1] at z3
      go_quiet (fail)
      go_wp2_with fail
      go_ret
      exact ⟨rfl, below_drawsA (HBW.out.trans ((HBV.out.trans (HB9.out.mono HBV.out.size)).mono HBW.out.size)) _⟩
end Go.Proofs.YteefncohknclcaaGreatDoor
