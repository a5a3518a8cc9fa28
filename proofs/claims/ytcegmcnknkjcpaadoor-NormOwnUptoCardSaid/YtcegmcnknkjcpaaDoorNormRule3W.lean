/- The walk of norm.rule at 'but'. Conditions: the ask lies in memory and is well formed; the tables read as listed. -/
import Derived.Test.YtcegmcnknkjcpaaDoorNormRule2W
import Derived.StillTailTactics
namespace Go.Proofs.YtcegmcnknkjcpaaDoor
open Go.RowKit Go.Shelf
theorem rule_but (s : List UInt8) (n : Int) (a : QA) (k2 : Int) (s2 : List UInt8) (n2 : Int) (l : List QA) (h : k2 ≠ 7) : qrule (.mk 7 s n [a, .mk k2 s2 n2 l]) = (.mk 7 s n [a, .mk k2 s2 n2 l], false) := by
  rcases l with _ | ⟨b, _ | ⟨c, _ | ⟨d, l⟩⟩⟩ <;> simp [qrule, h]
theorem rule_but2 (s : List UInt8) (n : Int) (a : QA) (s2 : List UInt8) (n2 : Int) (b c : QA) : qrule (.mk 7 s n [a, .mk 7 s2 n2 [b, c]]) = if qtxt b = qtxt a then (.mk 6 [] 0 [a, c], true) else (.mk 7 s n [a, .mk 7 s2 n2 [b, c]], false) := by
  simp [qrule]
set_option maxHeartbeats 8000000 in
set_option maxRecDepth 100000 in
theorem ruleF_ok (s : ByteArray) (n : Int) (p : Option Addr) (c : Nat) (xs : List QT) (w0 w : World) (hw0 : Below w0.heap.size w0 w) (m : Nat) (hq : QIn w0 (.mk 7 s n p c xs)) (hT : TxtTabs w) (hE : qE qpat (qabs (.mk 7 s n p c xs)) = 0) :
    Calls Tryd.prog 28 #[(QT.mk 7 s n p c xs).v] w (RulePost (.mk 7 s n p c xs) m (qrule (qabs (.mk 7 s n p c xs))) w0 w) := by
  obtain ⟨h60, hch⟩ := qE_chk hE
  obtain ⟨hnd, hxs⟩ := qchk_zero.1 (show qchk qpat (.mk 7 s.data.toList n (qabss xs)) = 0 from hch)
  have hl : (qabss xs).length = 2 := by rcases node_cases hnd with h | h | h | h | h | h | h | h | h | h <;> first | (exfalso; omega) | exact h.2.1
  obtain ⟨x, y, rfl⟩ := kl_two hl
  have hc60 : 1 + (qcnt (qabs x) + qcnt (qabs y)) ≤ 60 := by
    have e : qcnt (qabs (.mk 7 s n p c [x, y])) = 1 + qcnts [qabs x, qabs y] := rfl
    rw [e, cnts_two] at h60
    exact h60
  have hEx : qE qpat (qabs x) = 0 := by unfold qE; rw [if_neg (by omega)]; exact hxs _ (by simp [qabss])
  have hcy := hxs (qabs y) (by simp [qabss])
  obtain ⟨b, o, rfl, hb0, hf0, hg0, hqx, hqy⟩ := kid_two hq
  have hb : b < w.heap.size := Nat.lt_of_lt_of_le hb0 hw0.size
  have hf := hf0.below hw0 hb0
  have hg := hg0.below hw0 hb0
  have HQ := Lib.hid hq
  have HQX := Lib.hid hqx
  have hqx2 := hqx.below hw0
  obtain ⟨ky, sy, ny, py, cy, ys⟩ := y
  obtain ⟨W, hW, hBW, hS, hC⟩ := arg2r w (.int .i64 7) (.string s) (.int .i64 n) (.slice (some ⟨b, o, none⟩) 2 c)
  have HC := Lib.hid hC
  have HBW := Lib.hid hBW
  have hTW := hT.below hBW
  obtain ⟨B0, B1⟩ := HC.out W (Below.refl _ _)
  obtain ⟨k0, k1, k2, k3, _⟩ := box4Q B0
  obtain ⟨c0, c1, c2, c3⟩ : W.cell? ⟨b, o + 4, none⟩ = some (.int .i64 ky) ∧ W.cell? ⟨b, o + 4 + 1, none⟩ = some (.string sy) ∧ W.cell? ⟨b, o + 4 + 2, none⟩ = some (.int .i64 ny) ∧ W.cell? ⟨b, o + 4 + 3, none⟩ = some (.slice py ys.length cy) := hg.below hBW hb
  obtain ⟨V, hV⟩ : ∃ V : World, V = W.alloc (.cells #[.int .i64 ky, .string sy, .int .i64 ny, .slice py ys.length cy] 24) := ⟨_, rfl⟩
  have hBV : Below W.heap.size W V := by rw [hV]; exact (Below.refl _ _).alloc (Nat.le_refl _) _
  have hBVw := HBW.out.trans (hBV.mono HBW.out.size)
  have HBV := Lib.hid hBVw
  have HCV : Hid (∀ u : World, Below V.heap.size V u → Below W.heap.size W u) := by
    show ∀ u : World, _
    exact fun u hu => hBV.trans (hu.mono hBV.size)
  have B3 := (HC.out V hBV).2
  have B2 := (HC.out V hBV).1
  have HB3 := Lib.hid B3
  obtain ⟨v0, v1, v2, v3, _⟩ := box4Q B2
  have B4 : V.heap[w.heap.size + 2]? = some (.cells #[.int .i64 ky, .string sy, .int .i64 ny, .slice py ys.length cy] 24 (0, 0)) := by
    have := hanQ W (.cells #[.int .i64 ky, .string sy, .int .i64 ny, .slice py ys.length cy] 24)
    rw [hS, ← hV] at this
    exact this
  have HB4 := Lib.hid B4
  obtain ⟨y0, y1, y2, y3, _⟩ := box4Q B4
  obtain ⟨z0, z1, z2, z3, z4⟩ := box4Q B3
  have hbV : b < V.heap.size := Nat.lt_of_lt_of_le hb hBVw.size
  have hfV := hf.below hBVw hb
  show Calls Tryd.prog 28 #[.agg #[.int .i64 7, .string s, .int .i64 n, .slice (some ⟨b, o, none⟩) 2 c]] w _
  go_enter Tryd.func28, Tryd.ntmps28
  go_upto_region 1 with fail
  rw [← hW]
  clear B0 B1 hb0 hf0 hg0 hg hW
  go_upto_region 18 with fail
  rw [← hV]
  clear hV k0 k1 k2 k3 c0 c1 c2 c3 HC
  by_cases g7 : ky = 7
  · subst g7
    have hnd2 := (qchk_zero.1 (show qchk qpat (.mk 7 sy.data.toList ny (qabss ys)) = 0 from hcy))
    have hl2 : (qabss ys).length = 2 := by rcases node_cases hnd2.1 with h | h | h | h | h | h | h | h | h | h <;> first | (exfalso; omega) | exact h.2.1
    obtain ⟨d, e, rfl⟩ := kl_two hl2
    have hc2 : qcnt (qabs (.mk 7 sy ny py cy [d, e])) = 1 + (qcnt (qabs d) + qcnt (qabs e)) := by
      show 1 + qcnts [qabs d, qabs e] = _
      rw [cnts_two]
    have hEd : qE qpat (qabs d) = 0 := by unfold qE; rw [if_neg (by omega)]; exact hnd2.2 _ (by simp [qabss])
    obtain ⟨b2, o2, rfl, hb20, hd0, he0, hqd, hqe⟩ := kid_two hqy
    have HQE := Lib.hid hqe
    have hb2 : b2 < w.heap.size := Nat.lt_of_lt_of_le hb20 hw0.size
    have hdV := (hd0.below hw0 hb20).below hBVw hb2
    have heV := (he0.below hw0 hb20).below hBVw hb2
    have hb2V : b2 < V.heap.size := Nat.lt_of_lt_of_le hb2 hBVw.size
    have hV2 : w.heap.size + 2 < V.heap.size := (Array.getElem?_eq_some_iff.1 B4).1
    have hV0 : w.heap.size < V.heap.size := by omega
    have hqd2 := hqd.below hw0
    have HTX := Lib.hid (fun (u : World) (hu : Below V.heap.size V u) => textN_ok x u (hqx2.below (hBVw.trans (hu.mono hBVw.size))) (hT.below (hBVw.trans (hu.mono hBVw.size))) hEx)
    have HTY := Lib.hid (fun (u : World) (hu : Below V.heap.size V u) => textN_ok d u (hqd2.below (hBVw.trans (hu.mono hBVw.size))) (hT.below (hBVw.trans (hu.mono hBVw.size))) hEd)
    obtain ⟨X, hX⟩ : ∃ X, qtx (qtxt (qabs x)) = X := ⟨_, rfl⟩
    obtain ⟨Y, hY⟩ : ∃ Y, qtx (qtxt (qabs d)) = Y := ⟨_, rfl⟩
    unfold TextPost at HTX HTY
    rw [hX] at HTX
    rw [hY] at HTY
    have HXL : Hid (X.data.toList = qtxt (qabs x)) := by show _ = _; rw [← hX, qtx_list]
    have HYL : Hid (Y.data.toList = qtxt (qabs d)) := by show _ = _; rw [← hY, qtx_list]
    have hst := name_beq Y X
    have HS2 : Hid (∀ u : World, Below V.heap.size V u → u.cell? ⟨w.heap.size, 3, none⟩ = some (.slice (some ⟨b, o, none⟩) 2 c) ∧ u.cell? ⟨w.heap.size + 2, 0, none⟩ = some (.int .i64 7) ∧ u.cell? ⟨w.heap.size + 2, 3, none⟩ = some (.slice (some ⟨b2, o2, none⟩) 2 cy) ∧ u.cell? ⟨b, o, none⟩ = some (.int .i64 x.kind) ∧ u.cell? ⟨b, o + 1, none⟩ = some (.string x.name) ∧ u.cell? ⟨b, o + 2, none⟩ = some (.int .i64 x.num) ∧ u.cell? ⟨b, o + 3, none⟩ = some (.slice x.p x.xs.length x.cap) ∧ u.cell? ⟨b2, o2, none⟩ = some (.int .i64 d.kind) ∧ u.cell? ⟨b2, o2 + 1, none⟩ = some (.string d.name) ∧ u.cell? ⟨b2, o2 + 2, none⟩ = some (.int .i64 d.num) ∧ u.cell? ⟨b2, o2 + 3, none⟩ = some (.slice d.p d.xs.length d.cap) ∧ u.cell? ⟨b2, (o2 + 4), none⟩ = some (.int .i64 e.kind) ∧ u.cell? ⟨b2, (o2 + 4) + 1, none⟩ = some (.string e.name) ∧ u.cell? ⟨b2, (o2 + 4) + 2, none⟩ = some (.int .i64 e.num) ∧ u.cell? ⟨b2, (o2 + 4) + 3, none⟩ = some (.slice e.p e.xs.length e.cap)) := by
      show ∀ u : World, _
      intro u hu
      obtain ⟨f0, f1, f2, f3⟩ := hfV
      obtain ⟨d0, d1, d2, d3⟩ := hdV
      obtain ⟨e0, e1, e2, e3⟩ := heV
      refine ⟨?_, ?_, ?_, ?_, ?_, ?_, ?_, ?_, ?_, ?_, ?_, ?_, ?_, ?_, ?_⟩ <;> (first | (rw [hu.cell hbV]; assumption) | (rw [hu.cell hb2V]; assumption) | (rw [hu.cell hV2]; assumption) | (rw [hu.cell hV0]; assumption))
    have HSS : Hid (∀ u : World, Below V.heap.size V u → u.cell? ⟨w.heap.size, 3, none⟩ = some (.slice (some ⟨b, o, none⟩) 2 c) ∧ u.cell? ⟨w.heap.size + 2, 0, none⟩ = some (.int .i64 7) ∧ u.cell? ⟨w.heap.size + 2, 3, none⟩ = some (.slice (some ⟨b2, o2, none⟩) 2 cy) ∧ u.cell? ⟨b, o, none⟩ = some (.int .i64 x.kind) ∧ u.cell? ⟨b, o + 1, none⟩ = some (.string x.name) ∧ u.cell? ⟨b, o + 2, none⟩ = some (.int .i64 x.num) ∧ u.cell? ⟨b, o + 3, none⟩ = some (.slice x.p x.xs.length x.cap) ∧ u.cell? ⟨b2, o2, none⟩ = some (.int .i64 d.kind) ∧ u.cell? ⟨b2, o2 + 1, none⟩ = some (.string d.name) ∧ u.cell? ⟨b2, o2 + 2, none⟩ = some (.int .i64 d.num) ∧ u.cell? ⟨b2, o2 + 3, none⟩ = some (.slice d.p d.xs.length d.cap)) := by
      show ∀ u : World, _
      intro u hu
      obtain ⟨q1, q2, q3, q4, q5, q6, q7, q8, q9, q10, q11, _⟩ := HS2.out u hu
      exact ⟨q1, q2, q3, q4, q5, q6, q7, q8, q9, q10, q11⟩
    have HRES : Hid (∀ u : World, Below V.heap.size V u → u.heap[w.heap.size + 1]? = some (.cells #[.int .i64 0, .string ⟨#[]⟩, .int .i64 0, .slice none 0 0] 24 (0, 0))) := by
      show ∀ u : World, _
      exact fun u hu => (hu.block _ (by omega)).trans HB3.out
    have HKB : Hid (∀ u : World, Below V.heap.size V u → u.cell? ⟨w.heap.size, 0, none⟩ = some (.int .i64 7) ∧ u.cell? ⟨w.heap.size, 1, none⟩ = some (.string s) ∧ u.cell? ⟨w.heap.size, 2, none⟩ = some (.int .i64 n) ∧ u.cell? ⟨w.heap.size, 3, none⟩ = some (.slice (some ⟨b, o, none⟩) 2 c)) := by
      show ∀ u : World, _
      intro u hu
      refine ⟨?_, ?_, ?_, ?_⟩ <;> (rw [hu.cell hV0]; assumption)
    have HOX : Hid (QOw w0 m (.mk 7 s n (some ⟨b, o, none⟩) c [x, .mk 7 sy ny (some ⟨b2, o2, none⟩) cy [d, e]]) → QOw w0 m x ∧ QOw w0 m e) := fun h => ⟨h.kids x (show x ∈ [x, _] by simp), (h.kids (.mk 7 sy ny (some ⟨b2, o2, none⟩) cy [d, e]) (show _ ∈ [x, _] by simp)).kids e (show e ∈ [d, e] by simp)⟩
    clear hX hY hqx hqy hqx2 hqd hqd2 hqe hf hfV hdV heV hd0 he0 hb hb20 hb2 hbV hb2V hV2 hV0 B2 B3 B4 HB4 hBV hBVw hEx hEd hE hT hTW hq h60 hch hnd hnd2 hxs hc60 hc2 hl hl2 hcy hBW HB3 hC
    obtain ⟨q1, q2, q3, q4, q5, q6, q7, q8, q9, q10, q11⟩ := HSS.out V (Below.refl _ _)
    go_cut [77] (fun s77 wx => s77 = .bool (decide (Y.data.toList = X.data.toList)) ∧ Hid (Below V.heap.size V wx))
    · go_wp2_with fail
      go_region_held3 (fun u : World => u.cell? ⟨w.heap.size, 3, none⟩ = some (.slice (some ⟨b, o, none⟩) 2 c) ∧ u.cell? ⟨w.heap.size + 2, 0, none⟩ = some (.int .i64 7) ∧ u.cell? ⟨w.heap.size + 2, 3, none⟩ = some (.slice (some ⟨b2, o2, none⟩) 2 cy) ∧ u.cell? ⟨b, o, none⟩ = some (.int .i64 x.kind) ∧ u.cell? ⟨b, o + 1, none⟩ = some (.string x.name) ∧ u.cell? ⟨b, o + 2, none⟩ = some (.int .i64 x.num) ∧ u.cell? ⟨b, o + 3, none⟩ = some (.slice x.p x.xs.length x.cap) ∧ u.cell? ⟨b2, o2, none⟩ = some (.int .i64 d.kind) ∧ u.cell? ⟨b2, o2 + 1, none⟩ = some (.string d.name) ∧ u.cell? ⟨b2, o2 + 2, none⟩ = some (.int .i64 d.num) ∧ u.cell? ⟨b2, o2 + 3, none⟩ = some (.slice d.p d.xs.length d.cap))
        (first | exact HSS.out _ HB4.out | exact HSS.out _ HB3.out | exact HSS.out _ ((Below.refl _ _).drew))
        (first
          | (go_at_call 38; refine (HTX.out _ HB3.out).mono ?_; rintro e w4 ⟨rfl, hb⟩; have HB4 := Lib.hid (HB3.out.trans (hb.mono HB3.out.size)); clear hb)
          | (go_at_call 38; refine (HTY.out _ ((Below.refl _ _).drew)).mono ?_; rintro e w3 ⟨rfl, hb⟩; have HB3 := Lib.hid (((Below.refl V.heap.size V).drew).trans (hb.mono (Nat.le_refl _))); clear hb))
      all_goals
        go_wp2_with fail
        go_meet
        exact ⟨by first | rfl | simp, HB4.out⟩
    · obtain ⟨rfl, HBy0⟩ := hcut
      have HBy := Lib.hid (HBV.out.trans (HBy0.out.mono HBV.out.size))
      clear q1 q2 q3 q4 q5 q6 q7 q8 q9 q10 q11 v0 v1 v2 v3 y0 y1 y2 y3 z0 z1 z2 z3 z4 HSS HTX HTY
      have hQ : qrule (qabs (.mk 7 s n (some ⟨b, o, none⟩) c [x, .mk 7 sy ny (some ⟨b2, o2, none⟩) cy [d, e]])) = if Y.data.toList = X.data.toList then (.mk 6 [] 0 [qabs x, qabs e], true) else (qabs (.mk 7 s n (some ⟨b, o, none⟩) c [x, .mk 7 sy ny (some ⟨b2, o2, none⟩) cy [d, e]]), false) := by
        rw [HXL.out, HYL.out]
        exact rule_but2 _ _ _ _ _ _ _
      by_cases g0 : Y.data.toList = X.data.toList
      · rw [decide_eq_true g0]
        rw [if_pos g0] at hQ
        have HQE2 := Lib.hid hQ
        clear hQ g0 hst
        go_upto_region 19 with fail
        obtain ⟨wd, hwd⟩ : ∃ wd, wd = wc.drew := ⟨_, rfl⟩
        have hBd : Below V.heap.size V wd := by rw [hwd]; exact HBy0.out.drew
        have HBd := Lib.hid (HBV.out.trans (hBd.mono HBV.out.size))
        obtain ⟨q1, q2, q3, q4, q5, q6, q7, q8, q9, q10, q11, q12, q13, q14, q15⟩ := HS2.out wc HBy0.out
        have hdlt : w.heap.size + 1 < wd.heap.size := (Array.getElem?_eq_some_iff.1 (HRES.out wd hBd)).1
        have hdne : wd.heap.size ≠ w.heap.size + 1 := by omega
        have hcr : (wd.alloc (.cells #[.int .i64 x.kind, .string x.name, .int .i64 x.num, .slice x.p x.xs.length x.cap, .int .i64 e.kind, .string e.name, .int .i64 e.num, .slice e.p e.xs.length e.cap] 24)).heap[w.heap.size + 1]? = some (.cells #[.int .i64 0, .string ⟨#[]⟩, .int .i64 0, .slice none 0 0] 24 (0, 0)) := (haoQ wd _ _ hdlt).trans (HRES.out wd hBd)
        have hnr : (wd.alloc (.cells #[.int .i64 x.kind, .string x.name, .int .i64 x.num, .slice x.p x.xs.length x.cap, .int .i64 e.kind, .string e.name, .int .i64 e.num, .slice e.p e.xs.length e.cap] 24)).heap[wd.heap.size]? = some (.cells #[.int .i64 x.kind, .string x.name, .int .i64 x.num, .slice x.p x.xs.length x.cap, .int .i64 e.kind, .string e.name, .int .i64 e.num, .slice e.p e.xs.length e.cap] 24 (0, 0)) := hanQ wd _
        have HCR := Lib.hid hcr
        have HNR := Lib.hid hnr
        obtain ⟨z0, z1, z2, z3, z4⟩ := box4Q hcr
        have HDNE := Lib.hid hdne
        clear hcr hnr hBd hdlt hdne
        go_still_tail 8, (by kernel_rfl)
        change wpList _ _ _ _ _ wc.drew
        rw [← hwd]
        clear hwd q1 q2 q3 q4 q5 q6 q7 q8 q9 q10 q11 q12 q13 q14 q15
        go_wp2
        refine bodyPost_ret (v := .tuple #[(QT.mk 6 ⟨#[]⟩ 0 (some ⟨wd.heap.size, 0, none⟩) 2 [x, e]).v, .bool true]) (results_ctQ Tryd.results28 _ _ (w.heap.size + 1) 24 _ (0, 0) _ _ rfl rfl (box4Q_all HCR.out _ _ _ _) Tryd.underlying24 rfl (by kernel_rfl)) rfl (rule_new (below_set4Q (HBd.out.alloc HBd.out.size _) (Nat.le_succ _) _ _ _ _) HQE2.out ⟨6, wd.heap.size, x, e, rfl, HQX.out, HQE.out, HBd.out.size, (set4Q_other _ _ _ _ _ _ _ HDNE.out).trans HNR.out, HOX.out⟩)
      · rw [decide_eq_false g0]
        rw [if_neg g0] at hQ
        have HQE2 := Lib.hid hQ
        have HR := Lib.hid (HRES.out wc HBy0.out)
        obtain ⟨z0, z1, z2, z3, z4⟩ := box4Q HR.out
        obtain ⟨k0, k1, k2, k3⟩ := HKB.out wc HBy0.out
        clear hQ g0 hst
        go_wp2
        refine bodyPost_ret (v := .tuple #[(QT.mk 7 s n (some ⟨b, o, none⟩) c [x, .mk 7 sy ny (some ⟨b2, o2, none⟩) cy [d, e]]).v, .bool false]) (results_ctQ Tryd.results28 _ _ (w.heap.size + 1) 24 _ (0, 0) _ _ rfl rfl (box4Q_all HR.out _ _ _ _) Tryd.underlying24 rfl (by kernel_rfl)) rfl (rule_out (below_set4Q HBy.out (Nat.le_succ _) _ _ _ _) HQE2.out HQ.out id)
  · have e7 := ibne g7
    have HQE : Hid (qrule (qabs (.mk 7 s n (some ⟨b, o, none⟩) c [x, .mk ky sy ny py cy ys])) = (qabs (.mk 7 s n (some ⟨b, o, none⟩) c [x, .mk ky sy ny py cy ys]), false)) := rule_but _ _ _ _ _ _ _ g7
    clear g7 hqx hqy hqx2 hf hfV hb hbV B2 B3 B4 HB4 hBV hBVw hEx hE hT hTW hq h60 hch hnd hxs hc60 hl hcy hBW hC
    go_quiet (fail)
    go_wp2
    refine bodyPost_ret (v := .tuple #[(QT.mk 7 s n (some ⟨b, o, none⟩) c [x, .mk ky sy ny py cy ys]).v, .bool false]) (results_ctQ Tryd.results28 _ _ (w.heap.size + 1) 24 _ (0, 0) _ _ rfl rfl (box4Q_all HB3.out _ _ _ _) Tryd.underlying24 rfl (by kernel_rfl)) rfl (rule_out (below_set4Q (below_drawsA HBV.out _) (Nat.le_succ _) _ _ _ _) HQE.out HQ.out id)
end Go.Proofs.YtcegmcnknkjcpaaDoor
