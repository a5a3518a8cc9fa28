/- The walk of norm.two. Conditions: the ask lies in memory and is well formed; the tables read as listed. -/
import Derived.Test.YtcegmcnknkjcpaaDoorNormRuleW
namespace Go.Proofs.YtcegmcnknkjcpaaDoor
open Go.RowKit Go.Shelf
theorem kid_two {w : World} {k : Int} {s : ByteArray} {n : Int} {p : Option Addr} {c : Nat} {x y : QT} (h : QIn w (.mk k s n p c [x, y])) : ∃ b o, p = some ⟨b, o, none⟩ ∧ b < w.heap.size ∧ Four w b o x ∧ Four w b (o + 4) y ∧ QIn w x ∧ QIn w y := by
  obtain ⟨⟨b, o, h1, h2, h3⟩, h4⟩ := h.kids.at (j := 0) (x := x) rfl
  obtain ⟨⟨b', o', g1, _, g3⟩, g4⟩ := h.kids.at (j := 1) (x := y) rfl
  rw [h1] at g1
  injection g1 with g1
  injection g1 with e1 e2
  subst e1 e2
  exact ⟨b, o, h1, h2, by simpa using h3, by simpa using g3, h4, g4⟩
theorem two_box {w W : World} (hS : W.heap.size = w.heap.size + 2) (x y : QT) :
    Below W.heap.size W ((W.alloc (.cells #[.int .i64 x.kind, .string x.name, .int .i64 x.num, .slice x.p x.xs.length x.cap] 24)).alloc (.cells #[.int .i64 y.kind, .string y.name, .int .i64 y.num, .slice y.p y.xs.length y.cap] 24)).drew ∧
    ((W.alloc (.cells #[.int .i64 x.kind, .string x.name, .int .i64 x.num, .slice x.p x.xs.length x.cap] 24)).alloc (.cells #[.int .i64 y.kind, .string y.name, .int .i64 y.num, .slice y.p y.xs.length y.cap] 24)).drew.heap[w.heap.size + 2]? = some (.cells #[.int .i64 x.kind, .string x.name, .int .i64 x.num, .slice x.p x.xs.length x.cap] 24 (0, 0)) ∧
    ((W.alloc (.cells #[.int .i64 x.kind, .string x.name, .int .i64 x.num, .slice x.p x.xs.length x.cap] 24)).alloc (.cells #[.int .i64 y.kind, .string y.name, .int .i64 y.num, .slice y.p y.xs.length y.cap] 24)).drew.heap[w.heap.size + 2 + 1]? = some (.cells #[.int .i64 y.kind, .string y.name, .int .i64 y.num, .slice y.p y.xs.length y.cap] 24 (0, 0)) := by
  refine ⟨(((Below.refl _ _).alloc (Nat.le_refl _) _).alloc (by simp) _).drew, ?_, ?_⟩
  · rw [← hS]
    exact (haoQ _ _ _ (by simp)).trans (hanQ W _)
  · rw [← hS]
    have := hanQ (W.alloc (.cells #[.int .i64 x.kind, .string x.name, .int .i64 x.num, .slice x.p x.xs.length x.cap] 24)) (.cells #[.int .i64 y.kind, .string y.name, .int .i64 y.num, .slice y.p y.xs.length y.cap] 24)
    rw [show (W.alloc (.cells #[.int .i64 x.kind, .string x.name, .int .i64 x.num, .slice x.p x.xs.length x.cap] 24)).heap.size = W.heap.size + 1 by simp] at this
    exact this
theorem two_box' {w W : World} (hS : W.heap.size = w.heap.size + 2) (x y : QT) :
    Below W.heap.size W ((W.alloc (.cells #[.int .i64 y.kind, .string y.name, .int .i64 y.num, .slice y.p y.xs.length y.cap] 24)).alloc (.cells #[.int .i64 x.kind, .string x.name, .int .i64 x.num, .slice x.p x.xs.length x.cap] 24)).drew ∧
    ((W.alloc (.cells #[.int .i64 y.kind, .string y.name, .int .i64 y.num, .slice y.p y.xs.length y.cap] 24)).alloc (.cells #[.int .i64 x.kind, .string x.name, .int .i64 x.num, .slice x.p x.xs.length x.cap] 24)).drew.heap[w.heap.size + 2 + 1]? = some (.cells #[.int .i64 x.kind, .string x.name, .int .i64 x.num, .slice x.p x.xs.length x.cap] 24 (0, 0)) ∧
    ((W.alloc (.cells #[.int .i64 y.kind, .string y.name, .int .i64 y.num, .slice y.p y.xs.length y.cap] 24)).alloc (.cells #[.int .i64 x.kind, .string x.name, .int .i64 x.num, .slice x.p x.xs.length x.cap] 24)).drew.heap[w.heap.size + 2]? = some (.cells #[.int .i64 y.kind, .string y.name, .int .i64 y.num, .slice y.p y.xs.length y.cap] 24 (0, 0)) :=
  ⟨(two_box hS y x).1, (two_box hS y x).2.2, (two_box hS y x).2.1⟩
set_option maxHeartbeats 8000000 in
set_option maxRecDepth 100000 in
theorem two_ok (k : Int) (s : ByteArray) (n : Int) (p : Option Addr) (c : Nat) (x y : QT) (w0 w : World) (hw0 : Below w0.heap.size w0 w) (m : Nat) (hq : QIn w0 (.mk k s n p c [x, y])) (hT : TxtTabs w) (hE : qE qpat (qabs (.mk k s n p c [x, y])) = 0) :
    Calls Tryd.prog 36 #[(QT.mk k s n p c [x, y]).v] w (RulePost (.mk k s n p c [x, y]) m (qtwo k s.data.toList n (qabs x) (qabs y)) w0 w) := by
  obtain ⟨h60, hch⟩ := qE_chk hE
  obtain ⟨hnd, hxs⟩ := qchk_zero.1 (show qchk qpat (.mk k s.data.toList n [qabs x, qabs y]) = 0 from hch)
  have hc60 : 1 + (qcnt (qabs x) + qcnt (qabs y)) ≤ 60 := by
    have e : qcnt (qabs (.mk k s n p c [x, y])) = 1 + qcnts [qabs x, qabs y] := rfl
    rw [e, cnts_two] at h60
    exact h60
  have hEx : qE qpat (qabs x) = 0 := by unfold qE; rw [if_neg (by omega)]; exact hxs _ (by simp)
  have hEy : qE qpat (qabs y) = 0 := by unfold qE; rw [if_neg (by omega)]; exact hxs _ (by simp)
  obtain ⟨b, o, rfl, hb0, hf0, hg0, hqx0, hqy0⟩ := kid_two hq
  have hb : b < w.heap.size := Nat.lt_of_lt_of_le hb0 hw0.size
  have hf := hf0.below hw0 hb0
  have hg := hg0.below hw0 hb0
  have hqx := hqx0.below hw0
  have hqy := hqy0.below hw0
  have HQ := Lib.hid hq
  obtain ⟨W, hW, hBW, hS, hC⟩ := arg2r w (.int .i64 k) (.string s) (.int .i64 n) (.slice (some ⟨b, o, none⟩) 2 c)
  have HC := Lib.hid hC
  have HBW := Lib.hid hBW
  obtain ⟨B0, B1⟩ := HC.out W (Below.refl _ _)
  obtain ⟨k0, k1, k2, k3, _⟩ := box4Q B0
  obtain ⟨c0, c1, c2, c3⟩ := hf.below hBW hb
  obtain ⟨d0, d1, d2, d3⟩ := hg.below hBW hb
  show Calls Tryd.prog 36 #[.agg #[.int .i64 k, .string s, .int .i64 n, .slice (some ⟨b, o, none⟩) 2 c]] w _
  clear B0 B1
  go_enter Tryd.func36, Tryd.ntmps36
  go_upto_region 1 with fail
  rw [← hW]
  have hbW : b < W.heap.size := Nat.lt_of_lt_of_le hb hBW.size
  have hne1 : ∀ i, W.heap.size + i ≠ b := fun i => by omega
  obtain ⟨x0, x1, x2, x3⟩ : W.cell? ⟨b, o, none⟩ = some (.int .i64 x.kind) ∧ W.cell? ⟨b, o + 1, none⟩ = some (.string x.name) ∧ W.cell? ⟨b, o + 2, none⟩ = some (.int .i64 x.num) ∧ W.cell? ⟨b, o + 3, none⟩ = some (.slice x.p x.xs.length x.cap) := ⟨c0, c1, c2, c3⟩
  clear hW k0 k1 k2
  go_cut [4, 5] (fun pa pb wx => ∃ A B : Nat, pa = .pointer (some ⟨A, 0, none⟩) ∧ pb = .pointer (some ⟨B, 0, none⟩) ∧ Hid (Below W.heap.size W wx ∧ wx.heap[A]? = some (.cells #[.int .i64 x.kind, .string x.name, .int .i64 x.num, .slice x.p x.xs.length x.cap] 24 (0, 0)) ∧ wx.heap[B]? = some (.cells #[.int .i64 y.kind, .string y.name, .int .i64 y.num, .slice y.p y.xs.length y.cap] 24 (0, 0))))
  · have HSS : Hid (∀ u : World, Below W.heap.size W u → u.cell? ⟨w.heap.size, 3, none⟩ = some (.slice (some ⟨b, o, none⟩) 2 c) ∧ u.cell? ⟨b, o, none⟩ = some (.int .i64 x.kind) ∧ u.cell? ⟨b, o + 1, none⟩ = some (.string x.name) ∧ u.cell? ⟨b, o + 2, none⟩ = some (.int .i64 x.num) ∧ u.cell? ⟨b, o + 3, none⟩ = some (.slice x.p x.xs.length x.cap) ∧ u.cell? ⟨b, o + 4, none⟩ = some (.int .i64 y.kind) ∧ u.cell? ⟨b, o + 4 + 1, none⟩ = some (.string y.name) ∧ u.cell? ⟨b, o + 4 + 2, none⟩ = some (.int .i64 y.num) ∧ u.cell? ⟨b, o + 4 + 3, none⟩ = some (.slice y.p y.xs.length y.cap)) := by
      show ∀ u : World, _
      intro u hu
      have q := box4Q (HC.out u hu).1
      refine ⟨q.2.2.2.1, ?_, ?_, ?_, ?_, ?_, ?_, ?_, ?_⟩ <;> (rw [hu.cell hbW]; assumption)
    go_region_held3 (fun u : World => u.cell? ⟨w.heap.size, 3, none⟩ = some (.slice (some ⟨b, o, none⟩) 2 c) ∧ u.cell? ⟨b, o, none⟩ = some (.int .i64 x.kind) ∧ u.cell? ⟨b, o + 1, none⟩ = some (.string x.name) ∧ u.cell? ⟨b, o + 2, none⟩ = some (.int .i64 x.num) ∧ u.cell? ⟨b, o + 3, none⟩ = some (.slice x.p x.xs.length x.cap) ∧ u.cell? ⟨b, o + 4, none⟩ = some (.int .i64 y.kind) ∧ u.cell? ⟨b, o + 4 + 1, none⟩ = some (.string y.name) ∧ u.cell? ⟨b, o + 4 + 2, none⟩ = some (.int .i64 y.num) ∧ u.cell? ⟨b, o + 4 + 3, none⟩ = some (.slice y.p y.xs.length y.cap))
      ((refine HSS.out _ ?_; (repeat (first | exact Below.refl _ _ | refine Below.drew ?_ | refine Below.alloc ?_ (by simp <;> omega) _ | refine Below.setCell ?_ (by simp <;> omega) _))))
      (fail)
    all_goals
      go_wp2_with fail
      go_meet
      first
        | exact ⟨_, _, rfl, rfl, two_box hS x y⟩
        | exact ⟨_, _, rfl, rfl, two_box' hS x y⟩
  · obtain ⟨A, B, rfl, rfl, HP⟩ := hcut
    obtain ⟨wa, hwa⟩ : ∃ wa, wa = wc := ⟨_, rfl⟩
    subst hwa
    obtain ⟨hbx, hA, hB⟩ := HP.out
    have HBX := Lib.hid hbx
    have HTX := Lib.hid (fun (u : World) (hu : Below wa.heap.size wa u) => textN_ok x u (hqx.below (HBW.out.trans ((hbx.trans (hu.mono hbx.size)).mono HBW.out.size))) (hT.below (HBW.out.trans ((hbx.trans (hu.mono hbx.size)).mono HBW.out.size))) hEx)
    have HTY := Lib.hid (fun (u : World) (hu : Below wa.heap.size wa u) => textN_ok y u (hqy.below (HBW.out.trans ((hbx.trans (hu.mono hbx.size)).mono HBW.out.size))) (hT.below (HBW.out.trans ((hbx.trans (hu.mono hbx.size)).mono HBW.out.size))) hEy)
    obtain ⟨X, hX⟩ : ∃ X, qtx (qtxt (qabs x)) = X := ⟨_, rfl⟩
    obtain ⟨Y, hY⟩ : ∃ Y, qtx (qtxt (qabs y)) = Y := ⟨_, rfl⟩
    unfold TextPost at HTX HTY
    rw [hX] at HTX
    rw [hY] at HTY
    have HXL : Hid (X.data.toList = qtxt (qabs x)) := by show _ = _; rw [← hX, qtx_list]
    have HYL : Hid (Y.data.toList = qtxt (qabs y)) := by show _ = _; rw [← hY, qtx_list]
    have hAlt := (Array.getElem?_eq_some_iff.1 hA).1
    have hBlt := (Array.getElem?_eq_some_iff.1 hB).1
    have HAB : Hid (∀ u, Below wa.heap.size wa u → u.heap[A]? = some (.cells #[.int .i64 x.kind, .string x.name, .int .i64 x.num, .slice x.p x.xs.length x.cap] 24 (0, 0)) ∧ u.heap[B]? = some (.cells #[.int .i64 y.kind, .string y.name, .int .i64 y.num, .slice y.p y.xs.length y.cap] 24 (0, 0))) := by
      show ∀ u, _
      exact fun u hu => ⟨(hu.block A hAlt).trans hA, (hu.block B hBlt).trans hB⟩
    have HQX := Lib.hid hqx0
    have HQY := Lib.hid hqy0
    clear hX hY hqx hqy hqx0 hqy0 hf hg hf0 hg0 hb hb0 hbW hne1 x0 x1 x2 x3 c0 c1 c2 c3 d0 d1 d2 d3 k3 HP hbx hA hB hAlt hBlt hEx hEy hE hT hq h60 hch hnd hxs hc60
    obtain ⟨a0, a1, a2, a3, _⟩ := box4Q (HAB.out wa (Below.refl _ _)).1
    obtain ⟨b0, b1, b2, b3, _⟩ := box4Q (HAB.out wa (Below.refl _ _)).2
    have HSS : Hid (∀ u : World, Below wa.heap.size wa u → u.cell? ⟨A, 0, none⟩ = some (.int .i64 x.kind) ∧ u.cell? ⟨A, 1, none⟩ = some (.string x.name) ∧ u.cell? ⟨A, 2, none⟩ = some (.int .i64 x.num) ∧ u.cell? ⟨A, 3, none⟩ = some (.slice x.p x.xs.length x.cap) ∧ u.cell? ⟨B, 0, none⟩ = some (.int .i64 y.kind) ∧ u.cell? ⟨B, 1, none⟩ = some (.string y.name) ∧ u.cell? ⟨B, 2, none⟩ = some (.int .i64 y.num) ∧ u.cell? ⟨B, 3, none⟩ = some (.slice y.p y.xs.length y.cap)) := by
      show ∀ u : World, _
      intro u hu
      have q1 := box4Q (HAB.out u hu).1
      have q2 := box4Q (HAB.out u hu).2
      exact ⟨q1.1, q1.2.1, q1.2.2.1, q1.2.2.2.1, q2.1, q2.2.1, q2.2.2.1, q2.2.2.2.1⟩
    go_upto_region 2 with fail
    go_cut [6, 7] (fun s6 s7 wy => s6 = .string X ∧ s7 = .string Y ∧ Hid (Below wa.heap.size wa wy))
    · go_wp2_with fail
      go_region_held3 (fun u : World => u.cell? ⟨A, 0, none⟩ = some (.int .i64 x.kind) ∧ u.cell? ⟨A, 1, none⟩ = some (.string x.name) ∧ u.cell? ⟨A, 2, none⟩ = some (.int .i64 x.num) ∧ u.cell? ⟨A, 3, none⟩ = some (.slice x.p x.xs.length x.cap) ∧ u.cell? ⟨B, 0, none⟩ = some (.int .i64 y.kind) ∧ u.cell? ⟨B, 1, none⟩ = some (.string y.name) ∧ u.cell? ⟨B, 2, none⟩ = some (.int .i64 y.num) ∧ u.cell? ⟨B, 3, none⟩ = some (.slice y.p y.xs.length y.cap))
        (first | exact HSS.out _ HB4.out | exact HSS.out _ HB3.out | exact HSS.out _ ((Below.refl _ _).drew))
        (first
          | (go_at_call 38; refine (HTY.out _ HB3.out).mono ?_; rintro e w4 ⟨rfl, hb⟩; have HB4 := Lib.hid (HB3.out.trans (hb.mono HB3.out.size)); clear hb)
          | (go_at_call 38; refine (HTX.out _ ((Below.refl _ _).drew)).mono ?_; rintro e w3 ⟨rfl, hb⟩; have HB3 := Lib.hid (((Below.refl wa.heap.size wa).drew).trans (hb.mono (Nat.le_refl _))); clear hb))
      all_goals
        go_wp2_with fail
        go_meet
        exact ⟨rfl, rfl, HB4.out⟩
    · obtain ⟨rfl, rfl, HBy0⟩ := hcut
      have HBy := Lib.hid (HBW.out.trans ((HBX.out.trans (HBy0.out.mono HBX.out.size)).mono HBW.out.size))
      have hcw := HC.out wc (HBX.out.trans (HBy0.out.mono HBX.out.size))
      have HBR := Lib.hid hcw.2
      obtain ⟨k0, k1, k2, k3, _⟩ := box4Q hcw.1
      obtain ⟨r0, r1, r2, r3, r4⟩ := box4Q hcw.2
      clear a0 a1 a2 a3 b0 b1 b2 b3 HSS HTX HTY
      obtain ⟨a0, a1, a2, a3, _⟩ := box4Q (HAB.out wc HBy0.out).1
      obtain ⟨b0, b1, b2, b3, _⟩ := box4Q (HAB.out wc HBy0.out).2
      have kx : (qabs x).kind = x.kind := by cases x; rfl
      have ky : (qabs y).kind = y.kind := by cases y; rfl
      have hQ : qtwo k s.data.toList n (qabs x) (qabs y) = if X.data.toList = Y.data.toList then (qabs x, true)
          else if k = 5 ∧ (x.kind = 2 ∨ y.kind = 2) then (.mk 2 [] 0 [], true) else if x.kind = 2 then (qabs y, true) else if y.kind = 2 then (qabs x, true)
          else if Y.data.toList < X.data.toList then (.mk k [] 0 [qabs y, qabs x], true) else (.mk k s.data.toList n [qabs x, qabs y], false) := by
        unfold qtwo
        rw [HXL.out, HYL.out, kx, ky]
      have hst := name_beq X Y
      have hgt : ∀ u : World, (binOp .gtr 9 (.string X) (.string Y)).run Tryd.prog u = .ok (.bool (decide (Y.data.toList < X.data.toList))) u := by
        intro u
        have h1 : Op.bytesLess X.toList Y.toList = decide (X.data.toList < Y.data.toList) := by rw [Proofs.bytesLess_eq, Lib.toList_data, Lib.toList_data]
        have h2 : (!(decide (X.data.toList < Y.data.toList) || decide (X.data.toList = Y.data.toList))) = decide (Y.data.toList < X.data.toList) := by
          by_cases e : X.data.toList = Y.data.toList
          · rw [e]; simp [List.lt_irrefl]
          · rcases lt_split e with h | h
            · rw [decide_eq_true h, decide_eq_false (fun g => List.lt_irrefl _ (List.lt_trans g h))]; simp
            · rw [decide_eq_true h, decide_eq_false e, decide_eq_false (fun g => List.lt_irrefl _ (List.lt_trans g h))]; simp
        simp only [binOp, Op.stringOp]
        rw [hst, h1, h2]
        rfl
      have HNIL : Hid (QIn w0 (QT.mk 2 ⟨#[]⟩ 0 none 0 []) ∧ QOw w0 m (QT.mk 2 ⟨#[]⟩ 0 none 0 [])) := by
        refine ⟨QIn.of (by show 0 ≤ _; omega) (Nat.le_refl _) (by show 0 ≤ _; omega) trivial, .mk (.inl ⟨rfl, rfl, rfl⟩) (fun _ h => by cases h)⟩
      have HOX : Hid (QOw w0 m (QT.mk k s n (some ⟨b, o, none⟩) c [x, y]) → QOw w0 m x ∧ QOw w0 m y) := fun h => ⟨h.kids x (show x ∈ [x, y] by simp), h.kids y (show y ∈ [x, y] by simp)⟩
      clear hcw kx ky HC
      have hrlt : w.heap.size + 1 < wc.heap.size := (Array.getElem?_eq_some_iff.1 HBR.out).1
      have hrne : wc.heap.size ≠ w.heap.size + 1 := by omega
      go_upto_region 3 with fail
      by_cases g1 : x.kind = 2
      · have e1 := ibeq g1
        by_cases g0 : X.data.toList = Y.data.toList
        · have hst2 : (X.toList == Y.toList) = true := by rw [hst]; exact decide_eq_true g0
          have HQE : Hid (qtwo k s.data.toList n (qabs x) (qabs y) = (qabs (x), true)) := by show _ = _; rw [hQ, if_pos g0]; try rfl
          clear hQ g1 g0 hst hgt
          go_quiet (fail)
          go_wp2
          refine bodyPost_ret (v := .tuple #[(x).v, .bool true]) (results_ctQ Tryd.results36 _ _ (w.heap.size + 1) 24 _ (0, 0) _ _ rfl rfl (box4Q_all HBR.out _ _ _ _) Tryd.underlying24 rfl (by kernel_rfl)) rfl (rule_out (below_set4Q (below_drawsA HBy.out _) (Nat.le_succ _) _ _ _ _) HQE.out (HQX.out) (fun h => (HOX.out h).1))
        have hst2 : (X.toList == Y.toList) = false := by rw [hst]; exact decide_eq_false g0
        by_cases g5 : k = 5
        · have e5 := ibeq g5
          have HQE : Hid (qtwo k s.data.toList n (qabs x) (qabs y) = (qabs (QT.mk 2 ⟨#[]⟩ 0 none 0 []), true)) := by show _ = _; rw [hQ, if_neg g0, if_pos ⟨g5, .inl g1⟩]; try rfl
          clear hQ g1 g0 g5 hst hgt
          go_quiet (fail)
          go_wp2
          refine bodyPost_ret (v := .tuple #[(QT.mk 2 ⟨#[]⟩ 0 none 0 []).v, .bool true]) (results_ctQ Tryd.results36 _ _ (w.heap.size + 1) 24 _ (0, 0) _ _ rfl rfl (box4Q_all HBR.out _ _ _ _) Tryd.underlying24 rfl (by kernel_rfl)) rfl (rule_out (below_set4Q (below_drawsA HBy.out _) (Nat.le_succ _) _ _ _ _) HQE.out (HNIL.out.1) (fun _ => HNIL.out.2))
        have e5 := ibne g5
        have HQE : Hid (qtwo k s.data.toList n (qabs x) (qabs y) = (qabs (y), true)) := by show _ = _; rw [hQ, if_neg g0, if_neg (fun h => g5 h.1), if_pos g1]; try rfl
        clear hQ g1 g0 g5 hst hgt
        go_quiet (fail)
        go_wp2
        refine bodyPost_ret (v := .tuple #[(y).v, .bool true]) (results_ctQ Tryd.results36 _ _ (w.heap.size + 1) 24 _ (0, 0) _ _ rfl rfl (box4Q_all HBR.out _ _ _ _) Tryd.underlying24 rfl (by kernel_rfl)) rfl (rule_out (below_set4Q (below_drawsA HBy.out _) (Nat.le_succ _) _ _ _ _) HQE.out (HQY.out) (fun h => (HOX.out h).2))
      have e1 := ibne g1
      by_cases g2 : y.kind = 2
      · have e2 := ibeq g2
        by_cases g0 : X.data.toList = Y.data.toList
        · have hst2 : (X.toList == Y.toList) = true := by rw [hst]; exact decide_eq_true g0
          have HQE : Hid (qtwo k s.data.toList n (qabs x) (qabs y) = (qabs (x), true)) := by show _ = _; rw [hQ, if_pos g0]; try rfl
          clear hQ g1 g2 g0 hst hgt
          go_quiet (fail)
          go_wp2
          refine bodyPost_ret (v := .tuple #[(x).v, .bool true]) (results_ctQ Tryd.results36 _ _ (w.heap.size + 1) 24 _ (0, 0) _ _ rfl rfl (box4Q_all HBR.out _ _ _ _) Tryd.underlying24 rfl (by kernel_rfl)) rfl (rule_out (below_set4Q (below_drawsA HBy.out _) (Nat.le_succ _) _ _ _ _) HQE.out (HQX.out) (fun h => (HOX.out h).1))
        have hst2 : (X.toList == Y.toList) = false := by rw [hst]; exact decide_eq_false g0
        by_cases g5 : k = 5
        · have e5 := ibeq g5
          have HQE : Hid (qtwo k s.data.toList n (qabs x) (qabs y) = (qabs (QT.mk 2 ⟨#[]⟩ 0 none 0 []), true)) := by show _ = _; rw [hQ, if_neg g0, if_pos ⟨g5, .inr g2⟩]; try rfl
          clear hQ g1 g2 g0 g5 hst hgt
          go_quiet (fail)
          go_wp2
          refine bodyPost_ret (v := .tuple #[(QT.mk 2 ⟨#[]⟩ 0 none 0 []).v, .bool true]) (results_ctQ Tryd.results36 _ _ (w.heap.size + 1) 24 _ (0, 0) _ _ rfl rfl (box4Q_all HBR.out _ _ _ _) Tryd.underlying24 rfl (by kernel_rfl)) rfl (rule_out (below_set4Q (below_drawsA HBy.out _) (Nat.le_succ _) _ _ _ _) HQE.out (HNIL.out.1) (fun _ => HNIL.out.2))
        have e5 := ibne g5
        have HQE : Hid (qtwo k s.data.toList n (qabs x) (qabs y) = (qabs (x), true)) := by show _ = _; rw [hQ, if_neg g0, if_neg (fun h => g5 h.1), if_neg g1, if_pos g2]; try rfl
        clear hQ g1 g2 g0 g5 hst hgt
        go_quiet (fail)
        go_wp2
        refine bodyPost_ret (v := .tuple #[(x).v, .bool true]) (results_ctQ Tryd.results36 _ _ (w.heap.size + 1) 24 _ (0, 0) _ _ rfl rfl (box4Q_all HBR.out _ _ _ _) Tryd.underlying24 rfl (by kernel_rfl)) rfl (rule_out (below_set4Q (below_drawsA HBy.out _) (Nat.le_succ _) _ _ _ _) HQE.out (HQX.out) (fun h => (HOX.out h).1))
      have e2 := ibne g2
      by_cases g0 : X.data.toList = Y.data.toList
      · have hst2 : (X.toList == Y.toList) = true := by rw [hst]; exact decide_eq_true g0
        have HQE : Hid (qtwo k s.data.toList n (qabs x) (qabs y) = (qabs (x), true)) := by show _ = _; rw [hQ, if_pos g0]; try rfl
        clear hQ g1 g2 g0 hst hgt
        go_quiet (fail)
        go_wp2
        refine bodyPost_ret (v := .tuple #[(x).v, .bool true]) (results_ctQ Tryd.results36 _ _ (w.heap.size + 1) 24 _ (0, 0) _ _ rfl rfl (box4Q_all HBR.out _ _ _ _) Tryd.underlying24 rfl (by kernel_rfl)) rfl (rule_out (below_set4Q (below_drawsA HBy.out _) (Nat.le_succ _) _ _ _ _) HQE.out (HQX.out) (fun h => (HOX.out h).1))
      have hst2 : (X.toList == Y.toList) = false := by rw [hst]; exact decide_eq_false g0
      have e5 : ((k == 5) = true ∨ (k == 5) = false) := by cases k == 5; exact .inr rfl; exact .inl rfl
      by_cases g6 : Y.data.toList < X.data.toList
      · rw [decide_eq_true g6] at hgt
        rcases e5 with e5 | e5
        all_goals
          have HQE : Hid (qtwo k s.data.toList n (qabs x) (qabs y) = (qabs (QT.mk k ⟨#[]⟩ 0 (some ⟨wc.heap.size, 0, none⟩) 2 [y, x]), true)) := by show _ = _; rw [hQ, if_neg g0, if_neg (fun h => h.2.elim g1 g2), if_neg g1, if_neg g2, if_pos g6]; try rfl
          clear hQ g1 g2 g0 g6 hst
          go_quiet (fail)
          have HCR : Hid (∀ q : Nat, ((wc.drewN q).alloc (.cells #[.int .i64 y.kind, .string y.name, .int .i64 y.num, .slice y.p y.xs.length y.cap, .int .i64 x.kind, .string x.name, .int .i64 x.num, .slice x.p x.xs.length x.cap] 24)).heap[w.heap.size + 1]? = some (.cells #[.int .i64 0, .string ⟨#[]⟩, .int .i64 0, .slice none 0 0] 24 (0, 0))) := by
            show ∀ q : Nat, _
            exact fun q => (haoQ (wc.drewN q) _ _ hrlt).trans HBR.out
          have HNR : Hid (∀ q : Nat, ((wc.drewN q).alloc (.cells #[.int .i64 y.kind, .string y.name, .int .i64 y.num, .slice y.p y.xs.length y.cap, .int .i64 x.kind, .string x.name, .int .i64 x.num, .slice x.p x.xs.length x.cap] 24)).heap[wc.heap.size]? = some (.cells #[.int .i64 y.kind, .string y.name, .int .i64 y.num, .slice y.p y.xs.length y.cap, .int .i64 x.kind, .string x.name, .int .i64 x.num, .slice x.p x.xs.length x.cap] 24 (0, 0))) := by
            show ∀ q : Nat, _
            exact fun q => hanQ (wc.drewN q) _
          obtain ⟨z0, z1, z2, z3, z4⟩ := box4Q (HCR.out nq)
          go_wp2

          refine bodyPost_ret (v := .tuple #[(QT.mk k ⟨#[]⟩ 0 (some ⟨wc.heap.size, 0, none⟩) 2 [y, x]).v, .bool true]) (results_ctQ Tryd.results36 _ _ (w.heap.size + 1) 24 _ (0, 0) _ _ rfl rfl (box4Q_all (HCR.out nq) _ _ _ _) Tryd.underlying24 rfl (by kernel_rfl)) rfl (rule_new (below_set4Q (((below_drawsA HBy.out nq)).alloc HBy.out.size _) (Nat.le_succ _) _ _ _ _) HQE.out ⟨k, wc.heap.size, y, x, rfl, HQY.out, HQX.out, HBy.out.size, (set4Q_other _ _ _ _ _ _ _ hrne).trans (HNR.out nq), fun h => ⟨(HOX.out h).2, (HOX.out h).1⟩⟩)


      · rw [decide_eq_false g6] at hgt
        rcases e5 with e5 | e5
        all_goals
          have HQE : Hid (qtwo k s.data.toList n (qabs x) (qabs y) = (qabs (QT.mk k s n (some ⟨b, o, none⟩) c [x, y]), false)) := by show _ = _; rw [hQ, if_neg g0, if_neg (fun h => h.2.elim g1 g2), if_neg g1, if_neg g2, if_neg g6]; try rfl
          clear hQ g1 g2 g0 g6 hst
          go_quiet (fail)
          go_wp2
          refine bodyPost_ret (v := .tuple #[(QT.mk k s n (some ⟨b, o, none⟩) c [x, y]).v, .bool false]) (results_ctQ Tryd.results36 _ _ (w.heap.size + 1) 24 _ (0, 0) _ _ rfl rfl (box4Q_all HBR.out _ _ _ _) Tryd.underlying24 rfl (by kernel_rfl)) rfl (rule_out (below_set4Q (below_drawsA HBy.out _) (Nat.le_succ _) _ _ _ _) HQE.out (HQ.out) (id))
end Go.Proofs.YtcegmcnknkjcpaaDoor
