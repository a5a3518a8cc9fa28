/- Texts joined: NormTwoW, NormRule2W, NormRule3W, NormW, NormFnW. Conditions: theirs. -/
import Derived.Test.YteefncohknclcaaGreatDoorEvalAllWM13
import Derived.StillTailTactics
import Derived.Deep.LoopGhost
import Derived.Laws.Rows
namespace Go.Proofs.YteefncohknclcaaGreatDoor
open Go.RowKit Go.Shelf
theorem kid_two {w : World} {k : Int} {s : ByteArray} {n : Int} {p : Option Addr} {c : Nat} {x y : QT} (h : QIn w (.mk k s n p c [x, y])) : ∃ b o, p = some ⟨b, o, none⟩ ∧ b < w.heap.size ∧ Four w b o x ∧ Four w b (o + 4) y ∧ QIn w x ∧ QIn w y := by
  obtain ⟨⟨b, o, h1, h2, h3⟩, h4⟩ := h.kids.at (j := 0) (x := x) rfl
  obtain ⟨⟨b', o', g1, _, g3⟩, g4⟩ := h.kids.at (j := 1) (x := y) rfl
  rw [h1] at g1
  injection g1 with g1
  injection g1 with e1 e2
  subst e1 e2
  exact ⟨b, o, h1, h2, by simpa using h3, by simpa using g3, h4, g4⟩
theorem two_box {w W : World} (hS : W.heap.size = w.heap.size + 2) (x y : QT) :
    Below W.heap.size W ((W.alloc (.cells #[.int .i64 x.kind, .string x.name, .int .i64 x.num, .slice x.p x.xs.length x.cap] 29)).alloc (.cells #[.int .i64 y.kind, .string y.name, .int .i64 y.num, .slice y.p y.xs.length y.cap] 29)).drew ∧
    ((W.alloc (.cells #[.int .i64 x.kind, .string x.name, .int .i64 x.num, .slice x.p x.xs.length x.cap] 29)).alloc (.cells #[.int .i64 y.kind, .string y.name, .int .i64 y.num, .slice y.p y.xs.length y.cap] 29)).drew.heap[w.heap.size + 2]? = some (.cells #[.int .i64 x.kind, .string x.name, .int .i64 x.num, .slice x.p x.xs.length x.cap] 29 (0, 0)) ∧
    ((W.alloc (.cells #[.int .i64 x.kind, .string x.name, .int .i64 x.num, .slice x.p x.xs.length x.cap] 29)).alloc (.cells #[.int .i64 y.kind, .string y.name, .int .i64 y.num, .slice y.p y.xs.length y.cap] 29)).drew.heap[w.heap.size + 2 + 1]? = some (.cells #[.int .i64 y.kind, .string y.name, .int .i64 y.num, .slice y.p y.xs.length y.cap] 29 (0, 0)) := by
  refine ⟨(((Below.refl _ _).alloc (Nat.le_refl _) _).alloc (by simp) _).drew, ?_, ?_⟩
  · rw [← hS]
    exact (haoQ _ _ _ (by simp)).trans (hanQ W _)
  · rw [← hS]
    have := hanQ (W.alloc (.cells #[.int .i64 x.kind, .string x.name, .int .i64 x.num, .slice x.p x.xs.length x.cap] 29)) (.cells #[.int .i64 y.kind, .string y.name, .int .i64 y.num, .slice y.p y.xs.length y.cap] 29)
    rw [show (W.alloc (.cells #[.int .i64 x.kind, .string x.name, .int .i64 x.num, .slice x.p x.xs.length x.cap] 29)).heap.size = W.heap.size + 1 by simp] at this
    exact this
theorem two_box' {w W : World} (hS : W.heap.size = w.heap.size + 2) (x y : QT) :
    Below W.heap.size W ((W.alloc (.cells #[.int .i64 y.kind, .string y.name, .int .i64 y.num, .slice y.p y.xs.length y.cap] 29)).alloc (.cells #[.int .i64 x.kind, .string x.name, .int .i64 x.num, .slice x.p x.xs.length x.cap] 29)).drew ∧
    ((W.alloc (.cells #[.int .i64 y.kind, .string y.name, .int .i64 y.num, .slice y.p y.xs.length y.cap] 29)).alloc (.cells #[.int .i64 x.kind, .string x.name, .int .i64 x.num, .slice x.p x.xs.length x.cap] 29)).drew.heap[w.heap.size + 2 + 1]? = some (.cells #[.int .i64 x.kind, .string x.name, .int .i64 x.num, .slice x.p x.xs.length x.cap] 29 (0, 0)) ∧
    ((W.alloc (.cells #[.int .i64 y.kind, .string y.name, .int .i64 y.num, .slice y.p y.xs.length y.cap] 29)).alloc (.cells #[.int .i64 x.kind, .string x.name, .int .i64 x.num, .slice x.p x.xs.length x.cap] 29)).drew.heap[w.heap.size + 2]? = some (.cells #[.int .i64 y.kind, .string y.name, .int .i64 y.num, .slice y.p y.xs.length y.cap] 29 (0, 0)) :=
  ⟨(two_box hS y x).1, (two_box hS y x).2.2, (two_box hS y x).2.1⟩
set_option maxHeartbeats 8000000 in
set_option maxRecDepth 100000 in
theorem two_ok (k : Int) (s : ByteArray) (n : Int) (p : Option Addr) (c : Nat) (x y : QT) (w0 w : World) (hw0 : Below w0.heap.size w0 w) (m : Nat) (hq : QIn w0 (.mk k s n p c [x, y])) (hT : TxtTabs w) (hE : qE qpat (qabs (.mk k s n p c [x, y])) = 0) :
    Calls Tryz.prog 84 #[(QT.mk k s n p c [x, y]).v] w (RulePost (.mk k s n p c [x, y]) m (qtwo k s.data.toList n (qabs x) (qabs y)) w0 w) := by
  obtain ⟨h60, hch⟩ := qE_chk hE
  obtain ⟨hnd, hxs⟩ := qchk_zero.1 (show qchk qpat (.mk k s.data.toList n [qabs x, qabs y]) = 0 from hch)
  have hc60 : 1 + (qcnt (qabs x) + qcnt (qabs y)) ≤ 60 := by
    have e : qcnt (qabs (.mk k s n p c [x, y])) = 1 + qcnts [qabs x, qabs y] := rfl
    rw [e, cnts_two] at h60
    exact h60
  have hEx : qE qpat (qabs x) = 0 := by unfold qE; rw [if_neg (by omega)]; exact hxs _ (by simp)
  have hEy : qE qpat (qabs y) = 0 := by unfold qE; rw [if_neg (by omega)]; exact hxs _ (by simp)
  obtain ⟨b, o, rfl, hb0, hf0, hg0, hqx0, hqy0⟩ := kid_two hq
  have hb : b < w.heap.size := Nat.lt_of_lt_of_le hb0 hw0.size
  have hf := hf0.below hw0 hb0
  have hg := hg0.below hw0 hb0
  have hqx := hqx0.below hw0
  have hqy := hqy0.below hw0
  have HQ := Lib.hid hq
  obtain ⟨W, hW, hBW, hS, hC⟩ := arg2r w (.int .i64 k) (.string s) (.int .i64 n) (.slice (some ⟨b, o, none⟩) 2 c)
  have HC := Lib.hid hC
  have HBW := Lib.hid hBW
  obtain ⟨B0, B1⟩ := HC.out W (Below.refl _ _)
  obtain ⟨k0, k1, k2, k3, _⟩ := box4Q B0
  obtain ⟨c0, c1, c2, c3⟩ := hf.below hBW hb
  obtain ⟨d0, d1, d2, d3⟩ := hg.below hBW hb
  show Calls Tryz.prog 84 #[.agg #[.int .i64 k, .string s, .int .i64 n, .slice (some ⟨b, o, none⟩) 2 c]] w _
  clear B0 B1
  go_enter Tryz.func84, Tryz.ntmps84
  go_upto_region 1 with fail
  rw [← hW]
  have hbW : b < W.heap.size := Nat.lt_of_lt_of_le hb hBW.size
  have hne1 : ∀ i, W.heap.size + i ≠ b := fun i => by omega
  obtain ⟨x0, x1, x2, x3⟩ : W.cell? ⟨b, o, none⟩ = some (.int .i64 x.kind) ∧ W.cell? ⟨b, o + 1, none⟩ = some (.string x.name) ∧ W.cell? ⟨b, o + 2, none⟩ = some (.int .i64 x.num) ∧ W.cell? ⟨b, o + 3, none⟩ = some (.slice x.p x.xs.length x.cap) := ⟨c0, c1, c2, c3⟩
  clear hW k0 k1 k2
  go_cut [4, 5] (fun pa pb wx => ∃ A B : Nat, pa = .pointer (some ⟨A, 0, none⟩) ∧ pb = .pointer (some ⟨B, 0, none⟩) ∧ Hid (Below W.heap.size W wx ∧ wx.heap[A]? = some (.cells #[.int .i64 x.kind, .string x.name, .int .i64 x.num, .slice x.p x.xs.length x.cap] 29 (0, 0)) ∧ wx.heap[B]? = some (.cells #[.int .i64 y.kind, .string y.name, .int .i64 y.num, .slice y.p y.xs.length y.cap] 29 (0, 0))))
  · have HSS : Hid (∀ u : World, Below W.heap.size W u → u.cell? ⟨w.heap.size, 3, none⟩ = some (.slice (some ⟨b, o, none⟩) 2 c) ∧ u.cell? ⟨b, o, none⟩ = some (.int .i64 x.kind) ∧ u.cell? ⟨b, o + 1, none⟩ = some (.string x.name) ∧ u.cell? ⟨b, o + 2, none⟩ = some (.int .i64 x.num) ∧ u.cell? ⟨b, o + 3, none⟩ = some (.slice x.p x.xs.length x.cap) ∧ u.cell? ⟨b, o + 4, none⟩ = some (.int .i64 y.kind) ∧ u.cell? ⟨b, o + 4 + 1, none⟩ = some (.string y.name) ∧ u.cell? ⟨b, o + 4 + 2, none⟩ = some (.int .i64 y.num) ∧ u.cell? ⟨b, o + 4 + 3, none⟩ = some (.slice y.p y.xs.length y.cap)) := by
      show ∀ u : World, _
      intro u hu
      have q := box4Q (HC.out u hu).1
      refine ⟨q.2.2.2.1, ?_, ?_, ?_, ?_, ?_, ?_, ?_, ?_⟩ <;> (rw [hu.cell hbW]; assumption)
    go_region_held3 (fun u : World => u.cell? ⟨w.heap.size, 3, none⟩ = some (.slice (some ⟨b, o, none⟩) 2 c) ∧ u.cell? ⟨b, o, none⟩ = some (.int .i64 x.kind) ∧ u.cell? ⟨b, o + 1, none⟩ = some (.string x.name) ∧ u.cell? ⟨b, o + 2, none⟩ = some (.int .i64 x.num) ∧ u.cell? ⟨b, o + 3, none⟩ = some (.slice x.p x.xs.length x.cap) ∧ u.cell? ⟨b, o + 4, none⟩ = some (.int .i64 y.kind) ∧ u.cell? ⟨b, o + 4 + 1, none⟩ = some (.string y.name) ∧ u.cell? ⟨b, o + 4 + 2, none⟩ = some (.int .i64 y.num) ∧ u.cell? ⟨b, o + 4 + 3, none⟩ = some (.slice y.p y.xs.length y.cap))
      ((refine HSS.out _ ?_; (repeat (first | exact Below.refl _ _ | refine Below.drew ?_ | refine Below.alloc ?_ (by simp <;> omega) _ | refine Below.setCell ?_ (by simp <;> omega) _))))
      (fail)
    all_goals
      go_wp2_with fail
      go_meet
      first
        | exact ⟨_, _, rfl, rfl, two_box hS x y⟩
        | exact ⟨_, _, rfl, rfl, two_box' hS x y⟩
  · obtain ⟨A, B, rfl, rfl, HP⟩ := hcut
    obtain ⟨wa, hwa⟩ : ∃ wa, wa = wc := ⟨_, rfl⟩
    subst hwa
    obtain ⟨hbx, hA, hB⟩ := HP.out
    have HBX := Lib.hid hbx
    have HTX := Lib.hid (fun (u : World) (hu : Below wa.heap.size wa u) => textN_ok x u (hqx.below (HBW.out.trans ((hbx.trans (hu.mono hbx.size)).mono HBW.out.size))) (hT.below (HBW.out.trans ((hbx.trans (hu.mono hbx.size)).mono HBW.out.size))) hEx)
    have HTY := Lib.hid (fun (u : World) (hu : Below wa.heap.size wa u) => textN_ok y u (hqy.below (HBW.out.trans ((hbx.trans (hu.mono hbx.size)).mono HBW.out.size))) (hT.below (HBW.out.trans ((hbx.trans (hu.mono hbx.size)).mono HBW.out.size))) hEy)
    obtain ⟨X, hX⟩ : ∃ X, qtx (qtxt (qabs x)) = X := ⟨_, rfl⟩
    obtain ⟨Y, hY⟩ : ∃ Y, qtx (qtxt (qabs y)) = Y := ⟨_, rfl⟩
    unfold TextPost at HTX HTY
    rw [hX] at HTX
    rw [hY] at HTY
    have HXL : Hid (X.data.toList = qtxt (qabs x)) := by show _ = _; rw [← hX, qtx_list]
    have HYL : Hid (Y.data.toList = qtxt (qabs y)) := by show _ = _; rw [← hY, qtx_list]
    have hAlt := (Array.getElem?_eq_some_iff.1 hA).1
    have hBlt := (Array.getElem?_eq_some_iff.1 hB).1
    have HAB : Hid (∀ u, Below wa.heap.size wa u → u.heap[A]? = some (.cells #[.int .i64 x.kind, .string x.name, .int .i64 x.num, .slice x.p x.xs.length x.cap] 29 (0, 0)) ∧ u.heap[B]? = some (.cells #[.int .i64 y.kind, .string y.name, .int .i64 y.num, .slice y.p y.xs.length y.cap] 29 (0, 0))) := by
      show ∀ u, _
      exact fun u hu => ⟨(hu.block A hAlt).trans hA, (hu.block B hBlt).trans hB⟩
    have HQX := Lib.hid hqx0
    have HQY := Lib.hid hqy0
    clear hX hY hqx hqy hqx0 hqy0 hf hg hf0 hg0 hb hb0 hbW hne1 x0 x1 x2 x3 c0 c1 c2 c3 d0 d1 d2 d3 k3 HP hbx hA hB hAlt hBlt hEx hEy hE hT hq h60 hch hnd hxs hc60
    obtain ⟨a0, a1, a2, a3, _⟩ := box4Q (HAB.out wa (Below.refl _ _)).1
    obtain ⟨b0, b1, b2, b3, _⟩ := box4Q (HAB.out wa (Below.refl _ _)).2
    have HSS : Hid (∀ u : World, Below wa.heap.size wa u → u.cell? ⟨A, 0, none⟩ = some (.int .i64 x.kind) ∧ u.cell? ⟨A, 1, none⟩ = some (.string x.name) ∧ u.cell? ⟨A, 2, none⟩ = some (.int .i64 x.num) ∧ u.cell? ⟨A, 3, none⟩ = some (.slice x.p x.xs.length x.cap) ∧ u.cell? ⟨B, 0, none⟩ = some (.int .i64 y.kind) ∧ u.cell? ⟨B, 1, none⟩ = some (.string y.name) ∧ u.cell? ⟨B, 2, none⟩ = some (.int .i64 y.num) ∧ u.cell? ⟨B, 3, none⟩ = some (.slice y.p y.xs.length y.cap)) := by
      show ∀ u : World, _
      intro u hu
      have q1 := box4Q (HAB.out u hu).1
      have q2 := box4Q (HAB.out u hu).2
      exact ⟨q1.1, q1.2.1, q1.2.2.1, q1.2.2.2.1, q2.1, q2.2.1, q2.2.2.1, q2.2.2.2.1⟩
    go_upto_region 2 with fail
    go_cut [6, 7] (fun s6 s7 wy => s6 = .string X ∧ s7 = .string Y ∧ Hid (Below wa.heap.size wa wy))
    · go_wp2_with fail
      go_region_held3 (fun u : World => u.cell? ⟨A, 0, none⟩ = some (.int .i64 x.kind) ∧ u.cell? ⟨A, 1, none⟩ = some (.string x.name) ∧ u.cell? ⟨A, 2, none⟩ = some (.int .i64 x.num) ∧ u.cell? ⟨A, 3, none⟩ = some (.slice x.p x.xs.length x.cap) ∧ u.cell? ⟨B, 0, none⟩ = some (.int .i64 y.kind) ∧ u.cell? ⟨B, 1, none⟩ = some (.string y.name) ∧ u.cell? ⟨B, 2, none⟩ = some (.int .i64 y.num) ∧ u.cell? ⟨B, 3, none⟩ = some (.slice y.p y.xs.length y.cap))
        (first | exact HSS.out _ HB4.out | exact HSS.out _ HB3.out | exact HSS.out _ ((Below.refl _ _).drew))
        (first
          | (go_at_call 86; refine (HTY.out _ HB3.out).mono ?_; rintro e w4 ⟨rfl, hb⟩; have HB4 := Lib.hid (HB3.out.trans (hb.mono HB3.out.size)); clear hb)
          | (go_at_call 86; refine (HTX.out _ ((Below.refl _ _).drew)).mono ?_; rintro e w3 ⟨rfl, hb⟩; have HB3 := Lib.hid (((Below.refl wa.heap.size wa).drew).trans (hb.mono (Nat.le_refl _))); clear hb))
      all_goals
        go_wp2_with fail
        go_meet
        exact ⟨rfl, rfl, HB4.out⟩
    · obtain ⟨rfl, rfl, HBy0⟩ := hcut
      have HBy := Lib.hid (HBW.out.trans ((HBX.out.trans (HBy0.out.mono HBX.out.size)).mono HBW.out.size))
      have hcw := HC.out wc (HBX.out.trans (HBy0.out.mono HBX.out.size))
      have HBR := Lib.hid hcw.2
      obtain ⟨k0, k1, k2, k3, _⟩ := box4Q hcw.1
      obtain ⟨r0, r1, r2, r3, r4⟩ := box4Q hcw.2
      clear a0 a1 a2 a3 b0 b1 b2 b3 HSS HTX HTY
      obtain ⟨a0, a1, a2, a3, _⟩ := box4Q (HAB.out wc HBy0.out).1
      obtain ⟨b0, b1, b2, b3, _⟩ := box4Q (HAB.out wc HBy0.out).2
      have kx : (qabs x).kind = x.kind := by cases x; rfl
      have ky : (qabs y).kind = y.kind := by cases y; rfl
      have hQ : qtwo k s.data.toList n (qabs x) (qabs y) = if X.data.toList = Y.data.toList then (qabs x, true)
          else if k = 5 ∧ (x.kind = 2 ∨ y.kind = 2) then (.mk 2 [] 0 [], true) else if x.kind = 2 then (qabs y, true) else if y.kind = 2 then (qabs x, true)
          else if Y.data.toList < X.data.toList then (.mk k [] 0 [qabs y, qabs x], true) else (.mk k s.data.toList n [qabs x, qabs y], false) := by
        unfold qtwo
        rw [HXL.out, HYL.out, kx, ky]
      have hst := name_beq X Y
      have hgt : ∀ u : World, (binOp .gtr 9 (.string X) (.string Y)).run Tryz.prog u = .ok (.bool (decide (Y.data.toList < X.data.toList))) u := by
        intro u
        have h1 : Op.bytesLess X.toList Y.toList = decide (X.data.toList < Y.data.toList) := by rw [Proofs.bytesLess_eq, Lib.toList_data, Lib.toList_data]
        have h2 : (!(decide (X.data.toList < Y.data.toList) || decide (X.data.toList = Y.data.toList))) = decide (Y.data.toList < X.data.toList) := by
          by_cases e : X.data.toList = Y.data.toList
          · rw [e]; simp [List.lt_irrefl]
          · rcases lt_split e with h | h
            · rw [decide_eq_true h, decide_eq_false (fun g => List.lt_irrefl _ (List.lt_trans g h))]; simp
            · rw [decide_eq_true h, decide_eq_false e, decide_eq_false (fun g => List.lt_irrefl _ (List.lt_trans g h))]; simp
        simp only [binOp, Op.stringOp]
        rw [hst, h1, h2]
        rfl
      have HNIL : Hid (QIn w0 (QT.mk 2 ⟨#[]⟩ 0 none 0 []) ∧ QOw w0 m (QT.mk 2 ⟨#[]⟩ 0 none 0 [])) := by
        refine ⟨QIn.of (by show 0 ≤ _; omega) (Nat.le_refl _) (by show 0 ≤ _; omega) trivial, .mk (.inl ⟨rfl, rfl, rfl⟩) (fun _ h => by cases h)⟩
      have HOX : Hid (QOw w0 m (QT.mk k s n (some ⟨b, o, none⟩) c [x, y]) → QOw w0 m x ∧ QOw w0 m y) := fun h => ⟨h.kids x (show x ∈ [x, y] by simp), h.kids y (show y ∈ [x, y] by simp)⟩
      clear hcw kx ky HC
      have hrlt : w.heap.size + 1 < wc.heap.size := (Array.getElem?_eq_some_iff.1 HBR.out).1
      have hrne : wc.heap.size ≠ w.heap.size + 1 := by omega
      go_upto_region 3 with fail
      by_cases g1 : x.kind = 2
      · have e1 := ibeq g1
        by_cases g0 : X.data.toList = Y.data.toList
        · have hst2 : (X.toList == Y.toList) = true := by rw [hst]; exact decide_eq_true g0
          have HQE : Hid (qtwo k s.data.toList n (qabs x) (qabs y) = (qabs (x), true)) := by show _ = _; rw [hQ, if_pos g0]; try rfl
          clear hQ g1 g0 hst hgt
          go_quiet (fail)
          go_wp2
          refine bodyPost_ret (v := .tuple #[(x).v, .bool true]) (results_ctQ Tryz.results84 _ _ (w.heap.size + 1) 29 _ (0, 0) _ _ rfl rfl (box4Q_all HBR.out _ _ _ _) Tryz.underlying29 rfl (by kernel_rfl)) rfl (rule_out (below_set4Q (below_drawsA HBy.out _) (Nat.le_succ _) _ _ _ _) HQE.out (HQX.out) (fun h => (HOX.out h).1))
        have hst2 : (X.toList == Y.toList) = false := by rw [hst]; exact decide_eq_false g0
        by_cases g5 : k = 5
        · have e5 := ibeq g5
          have HQE : Hid (qtwo k s.data.toList n (qabs x) (qabs y) = (qabs (QT.mk 2 ⟨#[]⟩ 0 none 0 []), true)) := by show _ = _; rw [hQ, if_neg g0, if_pos ⟨g5, .inl g1⟩]; try rfl
          clear hQ g1 g0 g5 hst hgt
          go_quiet (fail)
          go_wp2
          refine bodyPost_ret (v := .tuple #[(QT.mk 2 ⟨#[]⟩ 0 none 0 []).v, .bool true]) (results_ctQ Tryz.results84 _ _ (w.heap.size + 1) 29 _ (0, 0) _ _ rfl rfl (box4Q_all HBR.out _ _ _ _) Tryz.underlying29 rfl (by kernel_rfl)) rfl (rule_out (below_set4Q (below_drawsA HBy.out _) (Nat.le_succ _) _ _ _ _) HQE.out (HNIL.out.1) (fun _ => HNIL.out.2))
        have e5 := ibne g5
        have HQE : Hid (qtwo k s.data.toList n (qabs x) (qabs y) = (qabs (y), true)) := by show _ = _; rw [hQ, if_neg g0, if_neg (fun h => g5 h.1), if_pos g1]; try rfl
        clear hQ g1 g0 g5 hst hgt
        go_quiet (fail)
        go_wp2
        refine bodyPost_ret (v := .tuple #[(y).v, .bool true]) (results_ctQ Tryz.results84 _ _ (w.heap.size + 1) 29 _ (0, 0) _ _ rfl rfl (box4Q_all HBR.out _ _ _ _) Tryz.underlying29 rfl (by kernel_rfl)) rfl (rule_out (below_set4Q (below_drawsA HBy.out _) (Nat.le_succ _) _ _ _ _) HQE.out (HQY.out) (fun h => (HOX.out h).2))
      have e1 := ibne g1
      by_cases g2 : y.kind = 2
      · have e2 := ibeq g2
        by_cases g0 : X.data.toList = Y.data.toList
        · have hst2 : (X.toList == Y.toList) = true := by rw [hst]; exact decide_eq_true g0
          have HQE : Hid (qtwo k s.data.toList n (qabs x) (qabs y) = (qabs (x), true)) := by show _ = _; rw [hQ, if_pos g0]; try rfl
          clear hQ g1 g2 g0 hst hgt
          go_quiet (fail)
          go_wp2
          refine bodyPost_ret (v := .tuple #[(x).v, .bool true]) (results_ctQ Tryz.results84 _ _ (w.heap.size + 1) 29 _ (0, 0) _ _ rfl rfl (box4Q_all HBR.out _ _ _ _) Tryz.underlying29 rfl (by kernel_rfl)) rfl (rule_out (below_set4Q (below_drawsA HBy.out _) (Nat.le_succ _) _ _ _ _) HQE.out (HQX.out) (fun h => (HOX.out h).1))
        have hst2 : (X.toList == Y.toList) = false := by rw [hst]; exact decide_eq_false g0
        by_cases g5 : k = 5
        · have e5 := ibeq g5
          have HQE : Hid (qtwo k s.data.toList n (qabs x) (qabs y) = (qabs (QT.mk 2 ⟨#[]⟩ 0 none 0 []), true)) := by show _ = _; rw [hQ, if_neg g0, if_pos ⟨g5, .inr g2⟩]; try rfl
          clear hQ g1 g2 g0 g5 hst hgt
          go_quiet (fail)
          go_wp2
          refine bodyPost_ret (v := .tuple #[(QT.mk 2 ⟨#[]⟩ 0 none 0 []).v, .bool true]) (results_ctQ Tryz.results84 _ _ (w.heap.size + 1) 29 _ (0, 0) _ _ rfl rfl (box4Q_all HBR.out _ _ _ _) Tryz.underlying29 rfl (by kernel_rfl)) rfl (rule_out (below_set4Q (below_drawsA HBy.out _) (Nat.le_succ _) _ _ _ _) HQE.out (HNIL.out.1) (fun _ => HNIL.out.2))
        have e5 := ibne g5
        have HQE : Hid (qtwo k s.data.toList n (qabs x) (qabs y) = (qabs (x), true)) := by show _ = _; rw [hQ, if_neg g0, if_neg (fun h => g5 h.1), if_neg g1, if_pos g2]; try rfl
        clear hQ g1 g2 g0 g5 hst hgt
        go_quiet (fail)
        go_wp2
        refine bodyPost_ret (v := .tuple #[(x).v, .bool true]) (results_ctQ Tryz.results84 _ _ (w.heap.size + 1) 29 _ (0, 0) _ _ rfl rfl (box4Q_all HBR.out _ _ _ _) Tryz.underlying29 rfl (by kernel_rfl)) rfl (rule_out (below_set4Q (below_drawsA HBy.out _) (Nat.le_succ _) _ _ _ _) HQE.out (HQX.out) (fun h => (HOX.out h).1))
      have e2 := ibne g2
      by_cases g0 : X.data.toList = Y.data.toList
      · have hst2 : (X.toList == Y.toList) = true := by rw [hst]; exact decide_eq_true g0
        have HQE : Hid (qtwo k s.data.toList n (qabs x) (qabs y) = (qabs (x), true)) := by show _ = _; rw [hQ, if_pos g0]; try rfl
        clear hQ g1 g2 g0 hst hgt
        go_quiet (fail)
        go_wp2
        refine bodyPost_ret (v := .tuple #[(x).v, .bool true]) (results_ctQ Tryz.results84 _ _ (w.heap.size + 1) 29 _ (0, 0) _ _ rfl rfl (box4Q_all HBR.out _ _ _ _) Tryz.underlying29 rfl (by kernel_rfl)) rfl (rule_out (below_set4Q (below_drawsA HBy.out _) (Nat.le_succ _) _ _ _ _) HQE.out (HQX.out) (fun h => (HOX.out h).1))
      have hst2 : (X.toList == Y.toList) = false := by rw [hst]; exact decide_eq_false g0
      have e5 : ((k == 5) = true ∨ (k == 5) = false) := by cases k == 5; exact .inr rfl; exact .inl rfl
      by_cases g6 : Y.data.toList < X.data.toList
      · rw [decide_eq_true g6] at hgt
        rcases e5 with e5 | e5
        all_goals
          have HQE : Hid (qtwo k s.data.toList n (qabs x) (qabs y) = (qabs (QT.mk k ⟨#[]⟩ 0 (some ⟨wc.heap.size, 0, none⟩) 2 [y, x]), true)) := by show _ = _; rw [hQ, if_neg g0, if_neg (fun h => h.2.elim g1 g2), if_neg g1, if_neg g2, if_pos g6]; try rfl
          clear hQ g1 g2 g0 g6 hst
          go_quiet (fail)
          have HCR : Hid (∀ q : Nat, ((wc.drewN q).alloc (.cells #[.int .i64 y.kind, .string y.name, .int .i64 y.num, .slice y.p y.xs.length y.cap, .int .i64 x.kind, .string x.name, .int .i64 x.num, .slice x.p x.xs.length x.cap] 29)).heap[w.heap.size + 1]? = some (.cells #[.int .i64 0, .string ⟨#[]⟩, .int .i64 0, .slice none 0 0] 29 (0, 0))) := by
            show ∀ q : Nat, _
            exact fun q => (haoQ (wc.drewN q) _ _ hrlt).trans HBR.out
          have HNR : Hid (∀ q : Nat, ((wc.drewN q).alloc (.cells #[.int .i64 y.kind, .string y.name, .int .i64 y.num, .slice y.p y.xs.length y.cap, .int .i64 x.kind, .string x.name, .int .i64 x.num, .slice x.p x.xs.length x.cap] 29)).heap[wc.heap.size]? = some (.cells #[.int .i64 y.kind, .string y.name, .int .i64 y.num, .slice y.p y.xs.length y.cap, .int .i64 x.kind, .string x.name, .int .i64 x.num, .slice x.p x.xs.length x.cap] 29 (0, 0))) := by
            show ∀ q : Nat, _
            exact fun q => hanQ (wc.drewN q) _
          obtain ⟨z0, z1, z2, z3, z4⟩ := box4Q (HCR.out nq)
          go_wp2

          refine bodyPost_ret (v := .tuple #[(QT.mk k ⟨#[]⟩ 0 (some ⟨wc.heap.size, 0, none⟩) 2 [y, x]).v, .bool true]) (results_ctQ Tryz.results84 _ _ (w.heap.size + 1) 29 _ (0, 0) _ _ rfl rfl (box4Q_all (HCR.out nq) _ _ _ _) Tryz.underlying29 rfl (by kernel_rfl)) rfl (rule_new (below_set4Q (((below_drawsA HBy.out nq)).alloc HBy.out.size _) (Nat.le_succ _) _ _ _ _) HQE.out ⟨k, wc.heap.size, y, x, rfl, HQY.out, HQX.out, HBy.out.size, (set4Q_other _ _ _ _ _ _ _ hrne).trans (HNR.out nq), fun h => ⟨(HOX.out h).2, (HOX.out h).1⟩⟩)


      · rw [decide_eq_false g6] at hgt
        rcases e5 with e5 | e5
        all_goals
          have HQE : Hid (qtwo k s.data.toList n (qabs x) (qabs y) = (qabs (QT.mk k s n (some ⟨b, o, none⟩) c [x, y]), false)) := by show _ = _; rw [hQ, if_neg g0, if_neg (fun h => h.2.elim g1 g2), if_neg g1, if_neg g2, if_neg g6]; try rfl
          clear hQ g1 g2 g0 g6 hst
          go_quiet (fail)
          go_wp2
          refine bodyPost_ret (v := .tuple #[(QT.mk k s n (some ⟨b, o, none⟩) c [x, y]).v, .bool false]) (results_ctQ Tryz.results84 _ _ (w.heap.size + 1) 29 _ (0, 0) _ _ rfl rfl (box4Q_all HBR.out _ _ _ _) Tryz.underlying29 rfl (by kernel_rfl)) rfl (rule_out (below_set4Q (below_drawsA HBy.out _) (Nat.le_succ _) _ _ _ _) HQE.out (HQ.out) (id))
end Go.Proofs.YteefncohknclcaaGreatDoor
namespace Go.Proofs.YteefncohknclcaaGreatDoor
open Go.RowKit Go.Shelf
theorem kl_one {xs : List QT} (h : (qabss xs).length = 1) : ∃ x, xs = [x] := by
  rcases xs with _ | ⟨x, _ | ⟨y, xs⟩⟩
  · cases h
  · exact ⟨x, rfl⟩
  · simp [qabss] at h
theorem kl_two {xs : List QT} (h : (qabss xs).length = 2) : ∃ x y, xs = [x, y] := by
  rcases xs with _ | ⟨x, _ | ⟨y, _ | ⟨z, xs⟩⟩⟩
  · cases h
  · cases h
  · exact ⟨x, y, rfl⟩
  · simp [qabss] at h
theorem Four.of_box {w : World} {b o : Nat} {t : QT} (h : w.heap[b]? = some (.cells #[.int .i64 t.kind, .string t.name, .int .i64 t.num, .slice t.p t.xs.length t.cap] 29 (0, 0))) (ho : o = 0) : Four w b o t := by
  subst ho
  obtain ⟨h0, h1, h2, h3, _⟩ := box4Q h
  exact ⟨h0, h1, h2, h3⟩
/-- an answer of a rule that is handed on -/
theorem rule_pass {t t' : QT} {q : QA × Bool} {w0 w W w2 : World} {n : Nat} (hBW : Below w.heap.size w W) (hS : W.heap.size = w.heap.size + 2) (h1 : qabs t' = q.1)
    (h3 : (QIn w0 t' ∧ (QOw w0 n t → QOw w0 n t')) ∨ NewTwo t' n t w0 W w2) (hb : Below W.heap.size W w2) (u0 u1 u2 u3 : Value) :
    RulePost t n q w0 w (.returned (.tuple #[t'.v, .bool q.2])) ((((w2.setCell ⟨w.heap.size + 1, 0, none⟩ u0).setCell ⟨w.heap.size + 1, 1, none⟩ u1).setCell ⟨w.heap.size + 1, 2, none⟩ u2).setCell ⟨w.heap.size + 1, 3, none⟩ u3) := by
  refine ⟨⟨t', rfl, h1, h3.imp id fun h => ?_⟩, below_set4Q (hBW.trans (hb.mono hBW.size)) (Nat.le_succ _) _ _ _ _⟩
  obtain ⟨k, nb, a, b, e, ha, hb2, hnb, hh, ho⟩ := h
  exact ⟨k, nb, a, b, e, ha, hb2, by omega, (set4Q_other _ _ _ _ _ _ _ (by omega)).trans hh, ho⟩

set_option maxHeartbeats 8000000 in
set_option maxRecDepth 100000 in
theorem ruleA_ok (k : Int) (hk : k = 5 ∨ k = 6) (s : ByteArray) (n : Int) (p : Option Addr) (c : Nat) (xs : List QT) (w0 w : World) (hw0 : Below w0.heap.size w0 w) (m : Nat) (hq : QIn w0 (.mk k s n p c xs)) (hT : TxtTabs w) (hE : qE qpat (qabs (.mk k s n p c xs)) = 0) :
    Calls Tryz.prog 55 #[(QT.mk k s n p c xs).v] w (RulePost (.mk k s n p c xs) m (qrule (qabs (.mk k s n p c xs))) w0 w) := by
  obtain ⟨h60, hch⟩ := qE_chk hE
  obtain ⟨hnd, hxs⟩ := qchk_zero.1 (show qchk qpat (.mk k s.data.toList n (qabss xs)) = 0 from hch)
  have hl : (qabss xs).length = 2 := by rcases node_cases hnd with h | h | h | h | h | h | h | h | h | h <;> first | (exfalso; omega) | exact h.2.1
  obtain ⟨x, y, rfl⟩ := kl_two hl
  obtain ⟨W, hW, hBW, hS, hC⟩ := arg2r w (.int .i64 k) (.string s) (.int .i64 n) (.slice p 2 c)
  have HC := Lib.hid hC
  have HBW := Lib.hid hBW
  have hww : Below w0.heap.size w0 W := hw0.trans (hBW.mono hw0.size)
  have hTW := hT.below hBW
  obtain ⟨B0, B1⟩ := HC.out W (Below.refl _ _)
  have HB1 := Lib.hid B1
  obtain ⟨k0, k1, k2, k3, _⟩ := box4Q B0
  obtain ⟨r0, r1, r2, r3, r4⟩ := box4Q B1
  have hcall := two_ok k s n p c x y w0 W hww m hq hTW hE
  rw [← show qrule (qabs (.mk k s n p c [x, y])) = qtwo k s.data.toList n (qabs x) (qabs y) from by
    show (if k = 5 ∨ k = 6 then _ else _) = _
    rw [if_pos hk]] at hcall
  generalize qrule (qabs (.mk k s n p c [x, y])) = Q at hcall ⊢
  obtain ⟨q1, q2⟩ := Q
  have HX := Lib.hid hcall
  show Calls Tryz.prog 55 #[.agg #[.int .i64 k, .string s, .int .i64 n, .slice p 2 c]] w _
  go_enter Tryz.func55, Tryz.ntmps55
  go_upto_region 1 with fail
  rw [← hW]
  clear hcall hW hq hE h60 hch hnd hxs hl B0 B1 hww hTW hT hC hBW
  rcases hk with g | g
  · have e5 := ibeq g
    clear g
    go_wp2_with (go_at_call 84; refine HX.out.mono ?_; rintro e w2 ⟨⟨⟨k', s', n', p', c', xs'⟩, he, ht1, ht2⟩, hb⟩; obtain rfl : e = .returned (.tuple #[.agg #[.int .i64 k', .string s', .int .i64 n', .slice p' xs'.length c'], .bool q2]) := he; have HT1 := Lib.hid ht1; have HT2 := Lib.hid ht2; have HB := Lib.hid hb; have HB1 := Lib.hid (HC.out w2 hb).2; obtain ⟨z0, z1, z2, z3, z4⟩ := box4Q HB1.out; clear ht1 ht2 hb)
    refine bodyPost_ret (v := .tuple #[(QT.mk k' s' n' p' c' xs').v, .bool q2]) (results_ctQ Tryz.results55 _ _ (w.heap.size + 1) 29 _ (0, 0) _ _ rfl rfl (box4Q_all HB1.out _ _ _ _) Tryz.underlying29 rfl (by kernel_rfl)) rfl (rule_pass (q := (q1, q2)) HBW.out hS HT1.out HT2.out HB.out _ _ _ _)
  · have e5 := ibne (show k ≠ 5 by omega)
    have e6 := ibeq g
    clear g
    go_wp2_with (go_at_call 84; refine HX.out.mono ?_; rintro e w2 ⟨⟨⟨k', s', n', p', c', xs'⟩, he, ht1, ht2⟩, hb⟩; obtain rfl : e = .returned (.tuple #[.agg #[.int .i64 k', .string s', .int .i64 n', .slice p' xs'.length c'], .bool q2]) := he; have HT1 := Lib.hid ht1; have HT2 := Lib.hid ht2; have HB := Lib.hid hb; have HB1 := Lib.hid (HC.out w2 hb).2; obtain ⟨z0, z1, z2, z3, z4⟩ := box4Q HB1.out; clear ht1 ht2 hb)
    refine bodyPost_ret (v := .tuple #[(QT.mk k' s' n' p' c' xs').v, .bool q2]) (results_ctQ Tryz.results55 _ _ (w.heap.size + 1) 29 _ (0, 0) _ _ rfl rfl (box4Q_all HB1.out _ _ _ _) Tryz.underlying29 rfl (by kernel_rfl)) rfl (rule_pass (q := (q1, q2)) HBW.out hS HT1.out HT2.out HB.out _ _ _ _)

set_option maxHeartbeats 8000000 in
set_option maxRecDepth 100000 in
theorem ruleB_ok (k : Int) (hk : k = 8 ∨ k = 10) (s : ByteArray) (n : Int) (p : Option Addr) (c : Nat) (xs : List QT) (w0 w : World) (hw0 : Below w0.heap.size w0 w) (m : Nat) (hq : QIn w0 (.mk k s n p c xs)) (hT : TxtTabs w) (hE : qE qpat (qabs (.mk k s n p c xs)) = 0) :
    Calls Tryz.prog 55 #[(QT.mk k s n p c xs).v] w (RulePost (.mk k s n p c xs) m (qrule (qabs (.mk k s n p c xs))) w0 w) := by
  obtain ⟨h60, hch⟩ := qE_chk hE
  obtain ⟨hnd, hxs⟩ := qchk_zero.1 (show qchk qpat (.mk k s.data.toList n (qabss xs)) = 0 from hch)
  have hl : (qabss xs).length = 1 := by rcases node_cases hnd with h | h | h | h | h | h | h | h | h | h <;> first | (exfalso; omega) | exact h.2.1
  obtain ⟨y, rfl⟩ := kl_one hl
  obtain ⟨W, hW, hBW, hS, hC⟩ := arg2r w (.int .i64 k) (.string s) (.int .i64 n) (.slice p 1 c)
  have HC := Lib.hid hC
  have HBW := Lib.hid hBW
  have hww : Below w0.heap.size w0 W := hw0.trans (hBW.mono hw0.size)
  have hTW := hT.below hBW
  obtain ⟨B0, B1⟩ := HC.out W (Below.refl _ _)
  have HB1 := Lib.hid B1
  obtain ⟨k0, k1, k2, k3, _⟩ := box4Q B0
  obtain ⟨r0, r1, r2, r3, r4⟩ := box4Q B1
  have hcall := walks_ok 8 10 (by omega) k hk s n p c y w0 W hww m hq hch
  rw [← show qrule (qabs (.mk k s n p c [y])) = qwalks 8 10 k s.data.toList n (qabs y) from by
    show (if k = 5 ∨ k = 6 then _ else if k = 8 ∨ k = 10 then _ else if k = 9 ∨ k = 11 then _ else _) = _
    rw [if_neg (by omega), if_pos hk]
    try rfl] at hcall
  generalize qrule (qabs (.mk k s n p c [y])) = Q at hcall ⊢
  obtain ⟨q1, q2⟩ := Q
  have HX := Lib.hid hcall
  show Calls Tryz.prog 55 #[.agg #[.int .i64 k, .string s, .int .i64 n, .slice p 1 c]] w _
  go_enter Tryz.func55, Tryz.ntmps55
  go_upto_region 1 with fail
  rw [← hW]
  clear hcall hW hq hE h60 hch hnd hxs hl B0 B1 hww hTW hT hC hBW
  rcases hk with g | g
  · have e5 := ibne (show k ≠ 5 by omega)
    have e6 := ibne (show k ≠ 6 by omega)
    have e8 := ibeq g
    clear g
    go_wp2_with (go_at_call 85; refine HX.out.mono ?_; rintro e w2 ⟨⟨⟨k', s', n', p', c', xs'⟩, he, ht1, ht2⟩, hb⟩; obtain rfl : e = .returned (.tuple #[.agg #[.int .i64 k', .string s', .int .i64 n', .slice p' xs'.length c'], .bool q2]) := he; have HT1 := Lib.hid ht1; have HT2 := Lib.hid ht2; have HB := Lib.hid hb; have HB1 := Lib.hid (HC.out w2 hb).2; obtain ⟨z0, z1, z2, z3, z4⟩ := box4Q HB1.out; clear ht1 ht2 hb)
    refine bodyPost_ret (v := .tuple #[(QT.mk k' s' n' p' c' xs').v, .bool q2]) (results_ctQ Tryz.results55 _ _ (w.heap.size + 1) 29 _ (0, 0) _ _ rfl rfl (box4Q_all HB1.out _ _ _ _) Tryz.underlying29 rfl (by kernel_rfl)) rfl (rule_pass (q := (q1, q2)) HBW.out hS HT1.out HT2.out HB.out _ _ _ _)
  · have e5 := ibne (show k ≠ 5 by omega)
    have e6 := ibne (show k ≠ 6 by omega)
    have e8 := ibne (show k ≠ 8 by omega)
    have e10 := ibeq g
    clear g
    go_wp2_with (go_at_call 85; refine HX.out.mono ?_; rintro e w2 ⟨⟨⟨k', s', n', p', c', xs'⟩, he, ht1, ht2⟩, hb⟩; obtain rfl : e = .returned (.tuple #[.agg #[.int .i64 k', .string s', .int .i64 n', .slice p' xs'.length c'], .bool q2]) := he; have HT1 := Lib.hid ht1; have HT2 := Lib.hid ht2; have HB := Lib.hid hb; have HB1 := Lib.hid (HC.out w2 hb).2; obtain ⟨z0, z1, z2, z3, z4⟩ := box4Q HB1.out; clear ht1 ht2 hb)
    refine bodyPost_ret (v := .tuple #[(QT.mk k' s' n' p' c' xs').v, .bool q2]) (results_ctQ Tryz.results55 _ _ (w.heap.size + 1) 29 _ (0, 0) _ _ rfl rfl (box4Q_all HB1.out _ _ _ _) Tryz.underlying29 rfl (by kernel_rfl)) rfl (rule_pass (q := (q1, q2)) HBW.out hS HT1.out HT2.out HB.out _ _ _ _)

set_option maxHeartbeats 8000000 in
set_option maxRecDepth 100000 in
theorem ruleC_ok (k : Int) (hk : k = 9 ∨ k = 11) (s : ByteArray) (n : Int) (p : Option Addr) (c : Nat) (xs : List QT) (w0 w : World) (hw0 : Below w0.heap.size w0 w) (m : Nat) (hq : QIn w0 (.mk k s n p c xs)) (hT : TxtTabs w) (hE : qE qpat (qabs (.mk k s n p c xs)) = 0) :
    Calls Tryz.prog 55 #[(QT.mk k s n p c xs).v] w (RulePost (.mk k s n p c xs) m (qrule (qabs (.mk k s n p c xs))) w0 w) := by
  obtain ⟨h60, hch⟩ := qE_chk hE
  obtain ⟨hnd, hxs⟩ := qchk_zero.1 (show qchk qpat (.mk k s.data.toList n (qabss xs)) = 0 from hch)
  have hl : (qabss xs).length = 1 := by rcases node_cases hnd with h | h | h | h | h | h | h | h | h | h <;> first | (exfalso; omega) | exact h.2.1
  obtain ⟨y, rfl⟩ := kl_one hl
  obtain ⟨W, hW, hBW, hS, hC⟩ := arg2r w (.int .i64 k) (.string s) (.int .i64 n) (.slice p 1 c)
  have HC := Lib.hid hC
  have HBW := Lib.hid hBW
  have hww : Below w0.heap.size w0 W := hw0.trans (hBW.mono hw0.size)
  have hTW := hT.below hBW
  obtain ⟨B0, B1⟩ := HC.out W (Below.refl _ _)
  have HB1 := Lib.hid B1
  obtain ⟨k0, k1, k2, k3, _⟩ := box4Q B0
  obtain ⟨r0, r1, r2, r3, r4⟩ := box4Q B1
  have hcall := walks_ok 9 11 (by omega) k hk s n p c y w0 W hww m hq hch
  rw [← show qrule (qabs (.mk k s n p c [y])) = qwalks 9 11 k s.data.toList n (qabs y) from by
    show (if k = 5 ∨ k = 6 then _ else if k = 8 ∨ k = 10 then _ else if k = 9 ∨ k = 11 then _ else _) = _
    rw [if_neg (by omega), if_neg (by omega), if_pos hk]
    try rfl] at hcall
  generalize qrule (qabs (.mk k s n p c [y])) = Q at hcall ⊢
  obtain ⟨q1, q2⟩ := Q
  have HX := Lib.hid hcall
  show Calls Tryz.prog 55 #[.agg #[.int .i64 k, .string s, .int .i64 n, .slice p 1 c]] w _
  go_enter Tryz.func55, Tryz.ntmps55
  go_upto_region 1 with fail
  rw [← hW]
  clear hcall hW hq hE h60 hch hnd hxs hl B0 B1 hww hTW hT hC hBW
  rcases hk with g | g
  · have e5 := ibne (show k ≠ 5 by omega)
    have e6 := ibne (show k ≠ 6 by omega)
    have e8 := ibne (show k ≠ 8 by omega)
    have e10 := ibne (show k ≠ 10 by omega)
    have e9 := ibeq g
    clear g
    go_wp2_with (go_at_call 85; refine HX.out.mono ?_; rintro e w2 ⟨⟨⟨k', s', n', p', c', xs'⟩, he, ht1, ht2⟩, hb⟩; obtain rfl : e = .returned (.tuple #[.agg #[.int .i64 k', .string s', .int .i64 n', .slice p' xs'.length c'], .bool q2]) := he; have HT1 := Lib.hid ht1; have HT2 := Lib.hid ht2; have HB := Lib.hid hb; have HB1 := Lib.hid (HC.out w2 hb).2; obtain ⟨z0, z1, z2, z3, z4⟩ := box4Q HB1.out; clear ht1 ht2 hb)
    refine bodyPost_ret (v := .tuple #[(QT.mk k' s' n' p' c' xs').v, .bool q2]) (results_ctQ Tryz.results55 _ _ (w.heap.size + 1) 29 _ (0, 0) _ _ rfl rfl (box4Q_all HB1.out _ _ _ _) Tryz.underlying29 rfl (by kernel_rfl)) rfl (rule_pass (q := (q1, q2)) HBW.out hS HT1.out HT2.out HB.out _ _ _ _)
  · have e5 := ibne (show k ≠ 5 by omega)
    have e6 := ibne (show k ≠ 6 by omega)
    have e8 := ibne (show k ≠ 8 by omega)
    have e10 := ibne (show k ≠ 10 by omega)
    have e9 := ibne (show k ≠ 9 by omega)
    have e11 := ibeq g
    clear g
    go_wp2_with (go_at_call 85; refine HX.out.mono ?_; rintro e w2 ⟨⟨⟨k', s', n', p', c', xs'⟩, he, ht1, ht2⟩, hb⟩; obtain rfl : e = .returned (.tuple #[.agg #[.int .i64 k', .string s', .int .i64 n', .slice p' xs'.length c'], .bool q2]) := he; have HT1 := Lib.hid ht1; have HT2 := Lib.hid ht2; have HB := Lib.hid hb; have HB1 := Lib.hid (HC.out w2 hb).2; obtain ⟨z0, z1, z2, z3, z4⟩ := box4Q HB1.out; clear ht1 ht2 hb)
    refine bodyPost_ret (v := .tuple #[(QT.mk k' s' n' p' c' xs').v, .bool q2]) (results_ctQ Tryz.results55 _ _ (w.heap.size + 1) 29 _ (0, 0) _ _ rfl rfl (box4Q_all HB1.out _ _ _ _) Tryz.underlying29 rfl (by kernel_rfl)) rfl (rule_pass (q := (q1, q2)) HBW.out hS HT1.out HT2.out HB.out _ _ _ _)

set_option maxHeartbeats 8000000 in
set_option maxRecDepth 100000 in
theorem ruleD_ok (k : Int) (hk : ¬ (k = 5 ∨ k = 6) ∧ ¬ (k = 8 ∨ k = 10) ∧ ¬ (k = 9 ∨ k = 11) ∧ ¬ (k = 14 ∨ k = 15) ∧ ¬ k = 7) (s : ByteArray) (n : Int) (p : Option Addr) (c : Nat) (xs : List QT) (w0 w : World) (hw0 : Below w0.heap.size w0 w) (m : Nat) (hq : QIn w0 (.mk k s n p c xs))  :
    Calls Tryz.prog 55 #[(QT.mk k s n p c xs).v] w (RulePost (.mk k s n p c xs) m (qrule (qabs (.mk k s n p c xs))) w0 w) := by
  obtain ⟨W, hW, hBW, hS, hC⟩ := arg2r w (.int .i64 k) (.string s) (.int .i64 n) (.slice p xs.length c)
  have HC := Lib.hid hC
  have HBW := Lib.hid hBW
  have hww : Below w0.heap.size w0 W := hw0.trans (hBW.mono hw0.size)
  obtain ⟨B0, B1⟩ := HC.out W (Below.refl _ _)
  have HB1 := Lib.hid B1
  obtain ⟨k0, k1, k2, k3, _⟩ := box4Q B0
  obtain ⟨r0, r1, r2, r3, r4⟩ := box4Q B1
  have HQE : Hid (qrule (qabs (.mk k s n p c xs)) = (qabs (.mk k s n p c xs), false)) := by
    show (if k = 5 ∨ k = 6 then _ else if k = 8 ∨ k = 10 then _ else if k = 9 ∨ k = 11 then _ else if k = 14 ∨ k = 15 then _ else if k = 7 then _ else _) = _
    rw [if_neg hk.1, if_neg hk.2.1, if_neg hk.2.2.1, if_neg hk.2.2.2.1, if_neg hk.2.2.2.2]
    rfl
  have HQ := Lib.hid hq
  have e5 := ibne (show k ≠ 5 by omega)
  have e6 := ibne (show k ≠ 6 by omega)
  have e8 := ibne (show k ≠ 8 by omega)
  have e10 := ibne (show k ≠ 10 by omega)
  have e9 := ibne (show k ≠ 9 by omega)
  have e11 := ibne (show k ≠ 11 by omega)
  have e14 := ibne (show k ≠ 14 by omega)
  have e15 := ibne (show k ≠ 15 by omega)
  have e7 := ibne (show k ≠ 7 by omega)
  show Calls Tryz.prog 55 #[.agg #[.int .i64 k, .string s, .int .i64 n, .slice p xs.length c]] w _
  go_enter Tryz.func55, Tryz.ntmps55
  go_upto_region 1 with fail
  rw [← hW]
  clear hk hW hq B0 B1 hww hC hBW
  go_wp2
  refine bodyPost_ret (v := .tuple #[(QT.mk k s n p c xs).v, .bool false]) (results_ctQ Tryz.results55 _ _ (w.heap.size + 1) 29 _ (0, 0) _ _ rfl rfl (box4Q_all HB1.out _ _ _ _) Tryz.underlying29 rfl (by kernel_rfl)) rfl (rule_out (below_set4Q HBW.out (Nat.le_succ _) _ _ _ _) HQE.out HQ.out id)

set_option maxHeartbeats 8000000 in
set_option maxRecDepth 100000 in
theorem ruleE_ok (k : Int) (hk : k = 14 ∨ k = 15) (s : ByteArray) (n : Int) (p : Option Addr) (c : Nat) (xs : List QT) (w0 w : World) (hw0 : Below w0.heap.size w0 w) (m : Nat) (hq : QIn w0 (.mk k s n p c xs)) (hE : qE qpat (qabs (.mk k s n p c xs)) = 0) :
    Calls Tryz.prog 55 #[(QT.mk k s n p c xs).v] w (RulePost (.mk k s n p c xs) m (qrule (qabs (.mk k s n p c xs))) w0 w) := by
  have hch := (qE_chk hE).2
  obtain ⟨hnd, _⟩ := qchk_zero.1 (show qchk qpat (.mk k s.data.toList n (qabss xs)) = 0 from hch)
  have hl : (qabss xs).length = 1 := by rcases node_cases hnd with h | h | h | h | h | h | h | h | h | h <;> first | (exfalso; omega) | exact h.2.1
  obtain ⟨y, rfl⟩ := kl_one hl
  obtain ⟨b, o, rfl, hb0, hf0, hqy⟩ := kid_one hq
  have hb : b < w.heap.size := Nat.lt_of_lt_of_le hb0 hw0.size
  have hf := hf0.below hw0 hb0
  have HQ := Lib.hid hq
  have HQY := Lib.hid hqy
  obtain ⟨ky, sy, ny, py, cy, ys⟩ := y
  have HY : Hid (QOw w0 m (.mk k s n (some ⟨b, o, none⟩) c [.mk ky sy ny py cy ys]) → QOw w0 m (.mk ky sy ny py cy ys)) := fun h => h.kids _ (show _ ∈ [_] by simp)
  obtain ⟨W, hW, hBW, hS, hC⟩ := arg2r w (.int .i64 k) (.string s) (.int .i64 n) (.slice (some ⟨b, o, none⟩) 1 c)
  have HC := Lib.hid hC
  have HBW := Lib.hid hBW
  obtain ⟨B0, B1⟩ := HC.out W (Below.refl _ _)
  have HB1 := Lib.hid B1
  obtain ⟨k0, k1, k2, k3, _⟩ := box4Q B0
  obtain ⟨r0, r1, r2, r3, r4⟩ := box4Q B1
  obtain ⟨c0, c1, c2, c3⟩ : W.cell? ⟨b, o, none⟩ = some (.int .i64 ky) ∧ W.cell? ⟨b, o + 1, none⟩ = some (.string sy) ∧ W.cell? ⟨b, o + 2, none⟩ = some (.int .i64 ny) ∧ W.cell? ⟨b, o + 3, none⟩ = some (.slice py ys.length cy) := hf.below hBW hb
  obtain ⟨V, hV⟩ : ∃ V : World, V = W.alloc (.cells #[.int .i64 ky, .string sy, .int .i64 ny, .slice py ys.length cy] 29) := ⟨_, rfl⟩
  have hBV : Below W.heap.size W V := by rw [hV]; exact (Below.refl _ _).alloc (Nat.le_refl _) _
  have HBV := Lib.hid (HBW.out.trans (hBV.mono HBW.out.size))
  obtain ⟨B2, B3⟩ := HC.out V hBV
  have HB3 := Lib.hid B3
  obtain ⟨v0, v1, v2, v3, _⟩ := box4Q B2
  have B4 : V.heap[w.heap.size + 1 + 1]? = some (.cells #[.int .i64 ky, .string sy, .int .i64 ny, .slice py ys.length cy] 29 (0, 0)) := by
    have := hanQ W (.cells #[.int .i64 ky, .string sy, .int .i64 ny, .slice py ys.length cy] 29)
    rw [hS, ← hV] at this
    exact this
  obtain ⟨y0, y1, y2, y3, _⟩ := box4Q B4
  obtain ⟨z0, z1, z2, z3, z4⟩ := box4Q B3
  have hQ : qrule (qabs (.mk k s n (some ⟨b, o, none⟩) c [.mk ky sy ny py cy ys])) = if ky = k ∧ sy.data.toList = s.data.toList ∧ ny = n then (qabs (.mk ky sy ny py cy ys), true) else (qabs (.mk k s n (some ⟨b, o, none⟩) c [.mk ky sy ny py cy ys]), false) := by
    show (if k = 5 ∨ k = 6 then _ else if k = 8 ∨ k = 10 then _ else if k = 9 ∨ k = 11 then _ else if k = 14 ∨ k = 15 then _ else _) = _
    rw [if_neg (by omega), if_neg (by omega), if_neg (by omega), if_pos hk]
    rfl
  have hst := name_beq sy s
  have e5 := ibne (show k ≠ 5 by omega)
  have e6 := ibne (show k ≠ 6 by omega)
  have e8 := ibne (show k ≠ 8 by omega)
  have e10 := ibne (show k ≠ 10 by omega)
  have e9 := ibne (show k ≠ 9 by omega)
  have e11 := ibne (show k ≠ 11 by omega)
  have e14 : (k == 14) = true ∨ (k == 14) = false ∧ (k == 15) = true := by rcases hk with g | g; exact .inl (ibeq g); exact .inr ⟨ibne (by omega), ibeq g⟩
  show Calls Tryz.prog 55 #[.agg #[.int .i64 k, .string s, .int .i64 n, .slice (some ⟨b, o, none⟩) 1 c]] w _
  go_enter Tryz.func55, Tryz.ntmps55
  go_upto_region 1 with fail
  rw [← hW]
  clear hW hq hE hch hnd hl hk B0 B1 hC hBW hqy hf hf0 hb hb0
  rcases e14 with e14 | ⟨e14, e15⟩
  all_goals
    go_upto_region 14 with fail
    rw [← hV]
    clear hV hBV k0 k1 k2 k3 r0 r1 r2 r3 r4 c0 c1 c2 c3 B2 B3 B4
    by_cases g1 : ky = k
    · have f1 := ibeq g1
      by_cases g2 : sy.data.toList = s.data.toList
      · have f2 : (sy.toList == s.toList) = true := by rw [hst]; exact decide_eq_true g2
        by_cases g3 : ny = n
        · have f3 := ibeq g3
          have HQE : Hid (qrule (qabs (.mk k s n (some ⟨b, o, none⟩) c [.mk ky sy ny py cy ys])) = (qabs (.mk ky sy ny py cy ys), true)) := by show _ = _; rw [hQ, if_pos ⟨g1, g2, g3⟩]
          clear hQ g1 g2 g3 hst
          go_wp2
          refine bodyPost_ret (v := .tuple #[(QT.mk ky sy ny py cy ys).v, .bool true]) (results_ctQ Tryz.results55 _ _ (w.heap.size + 1) 29 _ (0, 0) _ _ rfl rfl (box4Q_all HB3.out _ _ _ _) Tryz.underlying29 rfl (by kernel_rfl)) rfl (rule_out (below_set4Q HBV.out (Nat.le_succ _) _ _ _ _) HQE.out HQY.out HY.out)
        · have f3 := ibne g3
          have HQE : Hid (qrule (qabs (.mk k s n (some ⟨b, o, none⟩) c [.mk ky sy ny py cy ys])) = (qabs (.mk k s n (some ⟨b, o, none⟩) c [.mk ky sy ny py cy ys]), false)) := by show _ = _; rw [hQ, if_neg (fun h => g3 h.2.2)]
          clear hQ g1 g2 g3 hst
          go_wp2
          refine bodyPost_ret (v := .tuple #[(QT.mk k s n (some ⟨b, o, none⟩) c [.mk ky sy ny py cy ys]).v, .bool false]) (results_ctQ Tryz.results55 _ _ (w.heap.size + 1) 29 _ (0, 0) _ _ rfl rfl (box4Q_all HB3.out _ _ _ _) Tryz.underlying29 rfl (by kernel_rfl)) rfl (rule_out (below_set4Q HBV.out (Nat.le_succ _) _ _ _ _) HQE.out HQ.out id)
      · have f2 : (sy.toList == s.toList) = false := by rw [hst]; exact decide_eq_false g2
        have HQE : Hid (qrule (qabs (.mk k s n (some ⟨b, o, none⟩) c [.mk ky sy ny py cy ys])) = (qabs (.mk k s n (some ⟨b, o, none⟩) c [.mk ky sy ny py cy ys]), false)) := by show _ = _; rw [hQ, if_neg (fun h => g2 h.2.1)]
        clear hQ g1 g2 hst
        go_wp2
        refine bodyPost_ret (v := .tuple #[(QT.mk k s n (some ⟨b, o, none⟩) c [.mk ky sy ny py cy ys]).v, .bool false]) (results_ctQ Tryz.results55 _ _ (w.heap.size + 1) 29 _ (0, 0) _ _ rfl rfl (box4Q_all HB3.out _ _ _ _) Tryz.underlying29 rfl (by kernel_rfl)) rfl (rule_out (below_set4Q HBV.out (Nat.le_succ _) _ _ _ _) HQE.out HQ.out id)
    · have f1 := ibne g1
      have HQE : Hid (qrule (qabs (.mk k s n (some ⟨b, o, none⟩) c [.mk ky sy ny py cy ys])) = (qabs (.mk k s n (some ⟨b, o, none⟩) c [.mk ky sy ny py cy ys]), false)) := by show _ = _; rw [hQ, if_neg (fun h => g1 h.1)]
      clear hQ g1 hst
      go_wp2
      refine bodyPost_ret (v := .tuple #[(QT.mk k s n (some ⟨b, o, none⟩) c [.mk ky sy ny py cy ys]).v, .bool false]) (results_ctQ Tryz.results55 _ _ (w.heap.size + 1) 29 _ (0, 0) _ _ rfl rfl (box4Q_all HB3.out _ _ _ _) Tryz.underlying29 rfl (by kernel_rfl)) rfl (rule_out (below_set4Q HBV.out (Nat.le_succ _) _ _ _ _) HQE.out HQ.out id)
end Go.Proofs.YteefncohknclcaaGreatDoor
namespace Go.Proofs.YteefncohknclcaaGreatDoor
open Go.RowKit Go.Shelf
theorem rule_but (s : List UInt8) (n : Int) (a : QA) (k2 : Int) (s2 : List UInt8) (n2 : Int) (l : List QA) (h : k2 ≠ 7) : qrule (.mk 7 s n [a, .mk k2 s2 n2 l]) = (.mk 7 s n [a, .mk k2 s2 n2 l], false) := by
  rcases l with _ | ⟨b, _ | ⟨c, _ | ⟨d, l⟩⟩⟩ <;> simp [qrule, h]
theorem rule_but2 (s : List UInt8) (n : Int) (a : QA) (s2 : List UInt8) (n2 : Int) (b c : QA) : qrule (.mk 7 s n [a, .mk 7 s2 n2 [b, c]]) = if qtxt b = qtxt a then (.mk 6 [] 0 [a, c], true) else (.mk 7 s n [a, .mk 7 s2 n2 [b, c]], false) := by
  simp [qrule]
set_option maxHeartbeats 8000000 in
set_option maxRecDepth 100000 in
theorem ruleF_ok (s : ByteArray) (n : Int) (p : Option Addr) (c : Nat) (xs : List QT) (w0 w : World) (hw0 : Below w0.heap.size w0 w) (m : Nat) (hq : QIn w0 (.mk 7 s n p c xs)) (hT : TxtTabs w) (hE : qE qpat (qabs (.mk 7 s n p c xs)) = 0) :
    Calls Tryz.prog 55 #[(QT.mk 7 s n p c xs).v] w (RulePost (.mk 7 s n p c xs) m (qrule (qabs (.mk 7 s n p c xs))) w0 w) := by
  obtain ⟨h60, hch⟩ := qE_chk hE
  obtain ⟨hnd, hxs⟩ := qchk_zero.1 (show qchk qpat (.mk 7 s.data.toList n (qabss xs)) = 0 from hch)
  have hl : (qabss xs).length = 2 := by rcases node_cases hnd with h | h | h | h | h | h | h | h | h | h <;> first | (exfalso; omega) | exact h.2.1
  obtain ⟨x, y, rfl⟩ := kl_two hl
  have hc60 : 1 + (qcnt (qabs x) + qcnt (qabs y)) ≤ 60 := by
    have e : qcnt (qabs (.mk 7 s n p c [x, y])) = 1 + qcnts [qabs x, qabs y] := rfl
    rw [e, cnts_two] at h60
    exact h60
  have hEx : qE qpat (qabs x) = 0 := by unfold qE; rw [if_neg (by omega)]; exact hxs _ (by simp [qabss])
  have hcy := hxs (qabs y) (by simp [qabss])
  obtain ⟨b, o, rfl, hb0, hf0, hg0, hqx, hqy⟩ := kid_two hq
  have hb : b < w.heap.size := Nat.lt_of_lt_of_le hb0 hw0.size
  have hf := hf0.below hw0 hb0
  have hg := hg0.below hw0 hb0
  have HQ := Lib.hid hq
  have HQX := Lib.hid hqx
  have hqx2 := hqx.below hw0
  obtain ⟨ky, sy, ny, py, cy, ys⟩ := y
  obtain ⟨W, hW, hBW, hS, hC⟩ := arg2r w (.int .i64 7) (.string s) (.int .i64 n) (.slice (some ⟨b, o, none⟩) 2 c)
  have HC := Lib.hid hC
  have HBW := Lib.hid hBW
  have hTW := hT.below hBW
  obtain ⟨B0, B1⟩ := HC.out W (Below.refl _ _)
  obtain ⟨k0, k1, k2, k3, _⟩ := box4Q B0
  obtain ⟨c0, c1, c2, c3⟩ : W.cell? ⟨b, o + 4, none⟩ = some (.int .i64 ky) ∧ W.cell? ⟨b, o + 4 + 1, none⟩ = some (.string sy) ∧ W.cell? ⟨b, o + 4 + 2, none⟩ = some (.int .i64 ny) ∧ W.cell? ⟨b, o + 4 + 3, none⟩ = some (.slice py ys.length cy) := hg.below hBW hb
  obtain ⟨V, hV⟩ : ∃ V : World, V = W.alloc (.cells #[.int .i64 ky, .string sy, .int .i64 ny, .slice py ys.length cy] 29) := ⟨_, rfl⟩
  have hBV : Below W.heap.size W V := by rw [hV]; exact (Below.refl _ _).alloc (Nat.le_refl _) _
  have hBVw := HBW.out.trans (hBV.mono HBW.out.size)
  have HBV := Lib.hid hBVw
  have HCV : Hid (∀ u : World, Below V.heap.size V u → Below W.heap.size W u) := by
    show ∀ u : World, _
    exact fun u hu => hBV.trans (hu.mono hBV.size)
  have B3 := (HC.out V hBV).2
  have B2 := (HC.out V hBV).1
  have HB3 := Lib.hid B3
  obtain ⟨v0, v1, v2, v3, _⟩ := box4Q B2
  have B4 : V.heap[w.heap.size + 2]? = some (.cells #[.int .i64 ky, .string sy, .int .i64 ny, .slice py ys.length cy] 29 (0, 0)) := by
    have := hanQ W (.cells #[.int .i64 ky, .string sy, .int .i64 ny, .slice py ys.length cy] 29)
    rw [hS, ← hV] at this
    exact this
  have HB4 := Lib.hid B4
  obtain ⟨y0, y1, y2, y3, _⟩ := box4Q B4
  obtain ⟨z0, z1, z2, z3, z4⟩ := box4Q B3
  have hbV : b < V.heap.size := Nat.lt_of_lt_of_le hb hBVw.size
  have hfV := hf.below hBVw hb
  show Calls Tryz.prog 55 #[.agg #[.int .i64 7, .string s, .int .i64 n, .slice (some ⟨b, o, none⟩) 2 c]] w _
  go_enter Tryz.func55, Tryz.ntmps55
  go_upto_region 1 with fail
  rw [← hW]
  clear B0 B1 hb0 hf0 hg0 hg hW
  go_upto_region 18 with fail
  rw [← hV]
  clear hV k0 k1 k2 k3 c0 c1 c2 c3 HC
  by_cases g7 : ky = 7
  · subst g7
    have hnd2 := (qchk_zero.1 (show qchk qpat (.mk 7 sy.data.toList ny (qabss ys)) = 0 from hcy))
    have hl2 : (qabss ys).length = 2 := by rcases node_cases hnd2.1 with h | h | h | h | h | h | h | h | h | h <;> first | (exfalso; omega) | exact h.2.1
    obtain ⟨d, e, rfl⟩ := kl_two hl2
    have hc2 : qcnt (qabs (.mk 7 sy ny py cy [d, e])) = 1 + (qcnt (qabs d) + qcnt (qabs e)) := by
      show 1 + qcnts [qabs d, qabs e] = _
      rw [cnts_two]
    have hEd : qE qpat (qabs d) = 0 := by unfold qE; rw [if_neg (by omega)]; exact hnd2.2 _ (by simp [qabss])
    obtain ⟨b2, o2, rfl, hb20, hd0, he0, hqd, hqe⟩ := kid_two hqy
    have HQE := Lib.hid hqe
    have hb2 : b2 < w.heap.size := Nat.lt_of_lt_of_le hb20 hw0.size
    have hdV := (hd0.below hw0 hb20).below hBVw hb2
    have heV := (he0.below hw0 hb20).below hBVw hb2
    have hb2V : b2 < V.heap.size := Nat.lt_of_lt_of_le hb2 hBVw.size
    have hV2 : w.heap.size + 2 < V.heap.size := (Array.getElem?_eq_some_iff.1 B4).1
    have hV0 : w.heap.size < V.heap.size := by omega
    have hqd2 := hqd.below hw0
    have HTX := Lib.hid (fun (u : World) (hu : Below V.heap.size V u) => textN_ok x u (hqx2.below (hBVw.trans (hu.mono hBVw.size))) (hT.below (hBVw.trans (hu.mono hBVw.size))) hEx)
    have HTY := Lib.hid (fun (u : World) (hu : Below V.heap.size V u) => textN_ok d u (hqd2.below (hBVw.trans (hu.mono hBVw.size))) (hT.below (hBVw.trans (hu.mono hBVw.size))) hEd)
    obtain ⟨X, hX⟩ : ∃ X, qtx (qtxt (qabs x)) = X := ⟨_, rfl⟩
    obtain ⟨Y, hY⟩ : ∃ Y, qtx (qtxt (qabs d)) = Y := ⟨_, rfl⟩
    unfold TextPost at HTX HTY
    rw [hX] at HTX
    rw [hY] at HTY
    have HXL : Hid (X.data.toList = qtxt (qabs x)) := by show _ = _; rw [← hX, qtx_list]
    have HYL : Hid (Y.data.toList = qtxt (qabs d)) := by show _ = _; rw [← hY, qtx_list]
    have hst := name_beq Y X
    have HS2 : Hid (∀ u : World, Below V.heap.size V u → u.cell? ⟨w.heap.size, 3, none⟩ = some (.slice (some ⟨b, o, none⟩) 2 c) ∧ u.cell? ⟨w.heap.size + 2, 0, none⟩ = some (.int .i64 7) ∧ u.cell? ⟨w.heap.size + 2, 3, none⟩ = some (.slice (some ⟨b2, o2, none⟩) 2 cy) ∧ u.cell? ⟨b, o, none⟩ = some (.int .i64 x.kind) ∧ u.cell? ⟨b, o + 1, none⟩ = some (.string x.name) ∧ u.cell? ⟨b, o + 2, none⟩ = some (.int .i64 x.num) ∧ u.cell? ⟨b, o + 3, none⟩ = some (.slice x.p x.xs.length x.cap) ∧ u.cell? ⟨b2, o2, none⟩ = some (.int .i64 d.kind) ∧ u.cell? ⟨b2, o2 + 1, none⟩ = some (.string d.name) ∧ u.cell? ⟨b2, o2 + 2, none⟩ = some (.int .i64 d.num) ∧ u.cell? ⟨b2, o2 + 3, none⟩ = some (.slice d.p d.xs.length d.cap) ∧ u.cell? ⟨b2, (o2 + 4), none⟩ = some (.int .i64 e.kind) ∧ u.cell? ⟨b2, (o2 + 4) + 1, none⟩ = some (.string e.name) ∧ u.cell? ⟨b2, (o2 + 4) + 2, none⟩ = some (.int .i64 e.num) ∧ u.cell? ⟨b2, (o2 + 4) + 3, none⟩ = some (.slice e.p e.xs.length e.cap)) := by
      show ∀ u : World, _
      intro u hu
      obtain ⟨f0, f1, f2, f3⟩ := hfV
      obtain ⟨d0, d1, d2, d3⟩ := hdV
      obtain ⟨e0, e1, e2, e3⟩ := heV
      refine ⟨?_, ?_, ?_, ?_, ?_, ?_, ?_, ?_, ?_, ?_, ?_, ?_, ?_, ?_, ?_⟩ <;> (first | (rw [hu.cell hbV]; assumption) | (rw [hu.cell hb2V]; assumption) | (rw [hu.cell hV2]; assumption) | (rw [hu.cell hV0]; assumption))
    have HSS : Hid (∀ u : World, Below V.heap.size V u → u.cell? ⟨w.heap.size, 3, none⟩ = some (.slice (some ⟨b, o, none⟩) 2 c) ∧ u.cell? ⟨w.heap.size + 2, 0, none⟩ = some (.int .i64 7) ∧ u.cell? ⟨w.heap.size + 2, 3, none⟩ = some (.slice (some ⟨b2, o2, none⟩) 2 cy) ∧ u.cell? ⟨b, o, none⟩ = some (.int .i64 x.kind) ∧ u.cell? ⟨b, o + 1, none⟩ = some (.string x.name) ∧ u.cell? ⟨b, o + 2, none⟩ = some (.int .i64 x.num) ∧ u.cell? ⟨b, o + 3, none⟩ = some (.slice x.p x.xs.length x.cap) ∧ u.cell? ⟨b2, o2, none⟩ = some (.int .i64 d.kind) ∧ u.cell? ⟨b2, o2 + 1, none⟩ = some (.string d.name) ∧ u.cell? ⟨b2, o2 + 2, none⟩ = some (.int .i64 d.num) ∧ u.cell? ⟨b2, o2 + 3, none⟩ = some (.slice d.p d.xs.length d.cap)) := by
      show ∀ u : World, _
      intro u hu
      obtain ⟨q1, q2, q3, q4, q5, q6, q7, q8, q9, q10, q11, _⟩ := HS2.out u hu
      exact ⟨q1, q2, q3, q4, q5, q6, q7, q8, q9, q10, q11⟩
    have HRES : Hid (∀ u : World, Below V.heap.size V u → u.heap[w.heap.size + 1]? = some (.cells #[.int .i64 0, .string ⟨#[]⟩, .int .i64 0, .slice none 0 0] 29 (0, 0))) := by
      show ∀ u : World, _
      exact fun u hu => (hu.block _ (by omega)).trans HB3.out
    have HKB : Hid (∀ u : World, Below V.heap.size V u → u.cell? ⟨w.heap.size, 0, none⟩ = some (.int .i64 7) ∧ u.cell? ⟨w.heap.size, 1, none⟩ = some (.string s) ∧ u.cell? ⟨w.heap.size, 2, none⟩ = some (.int .i64 n) ∧ u.cell? ⟨w.heap.size, 3, none⟩ = some (.slice (some ⟨b, o, none⟩) 2 c)) := by
      show ∀ u : World, _
      intro u hu
      refine ⟨?_, ?_, ?_, ?_⟩ <;> (rw [hu.cell hV0]; assumption)
    have HOX : Hid (QOw w0 m (.mk 7 s n (some ⟨b, o, none⟩) c [x, .mk 7 sy ny (some ⟨b2, o2, none⟩) cy [d, e]]) → QOw w0 m x ∧ QOw w0 m e) := fun h => ⟨h.kids x (show x ∈ [x, _] by simp), (h.kids (.mk 7 sy ny (some ⟨b2, o2, none⟩) cy [d, e]) (show _ ∈ [x, _] by simp)).kids e (show e ∈ [d, e] by simp)⟩
    clear hX hY hqx hqy hqx2 hqd hqd2 hqe hf hfV hdV heV hd0 he0 hb hb20 hb2 hbV hb2V hV2 hV0 B2 B3 B4 HB4 hBV hBVw hEx hEd hE hT hTW hq h60 hch hnd hnd2 hxs hc60 hc2 hl hl2 hcy hBW HB3 hC
    obtain ⟨q1, q2, q3, q4, q5, q6, q7, q8, q9, q10, q11⟩ := HSS.out V (Below.refl _ _)
    go_cut [77] (fun s77 wx => s77 = .bool (decide (Y.data.toList = X.data.toList)) ∧ Hid (Below V.heap.size V wx))
    · go_wp2_with fail
      go_region_held3 (fun u : World => u.cell? ⟨w.heap.size, 3, none⟩ = some (.slice (some ⟨b, o, none⟩) 2 c) ∧ u.cell? ⟨w.heap.size + 2, 0, none⟩ = some (.int .i64 7) ∧ u.cell? ⟨w.heap.size + 2, 3, none⟩ = some (.slice (some ⟨b2, o2, none⟩) 2 cy) ∧ u.cell? ⟨b, o, none⟩ = some (.int .i64 x.kind) ∧ u.cell? ⟨b, o + 1, none⟩ = some (.string x.name) ∧ u.cell? ⟨b, o + 2, none⟩ = some (.int .i64 x.num) ∧ u.cell? ⟨b, o + 3, none⟩ = some (.slice x.p x.xs.length x.cap) ∧ u.cell? ⟨b2, o2, none⟩ = some (.int .i64 d.kind) ∧ u.cell? ⟨b2, o2 + 1, none⟩ = some (.string d.name) ∧ u.cell? ⟨b2, o2 + 2, none⟩ = some (.int .i64 d.num) ∧ u.cell? ⟨b2, o2 + 3, none⟩ = some (.slice d.p d.xs.length d.cap))
        (first | exact HSS.out _ HB4.out | exact HSS.out _ HB3.out | exact HSS.out _ ((Below.refl _ _).drew))
        (first
          | (go_at_call 86; refine (HTX.out _ HB3.out).mono ?_; rintro e w4 ⟨rfl, hb⟩; have HB4 := Lib.hid (HB3.out.trans (hb.mono HB3.out.size)); clear hb)
          | (go_at_call 86; refine (HTY.out _ ((Below.refl _ _).drew)).mono ?_; rintro e w3 ⟨rfl, hb⟩; have HB3 := Lib.hid (((Below.refl V.heap.size V).drew).trans (hb.mono (Nat.le_refl _))); clear hb))
      all_goals
        go_wp2_with fail
        go_meet
        exact ⟨by first | rfl | simp, HB4.out⟩
    · obtain ⟨rfl, HBy0⟩ := hcut
      have HBy := Lib.hid (HBV.out.trans (HBy0.out.mono HBV.out.size))
      clear q1 q2 q3 q4 q5 q6 q7 q8 q9 q10 q11 v0 v1 v2 v3 y0 y1 y2 y3 z0 z1 z2 z3 z4 HSS HTX HTY
      have hQ : qrule (qabs (.mk 7 s n (some ⟨b, o, none⟩) c [x, .mk 7 sy ny (some ⟨b2, o2, none⟩) cy [d, e]])) = if Y.data.toList = X.data.toList then (.mk 6 [] 0 [qabs x, qabs e], true) else (qabs (.mk 7 s n (some ⟨b, o, none⟩) c [x, .mk 7 sy ny (some ⟨b2, o2, none⟩) cy [d, e]]), false) := by
        rw [HXL.out, HYL.out]
        exact rule_but2 _ _ _ _ _ _ _
      by_cases g0 : Y.data.toList = X.data.toList
      · rw [decide_eq_true g0]
        rw [if_pos g0] at hQ
        have HQE2 := Lib.hid hQ
        clear hQ g0 hst
        go_upto_region 19 with fail
        obtain ⟨wd, hwd⟩ : ∃ wd, wd = wc.drew := ⟨_, rfl⟩
        have hBd : Below V.heap.size V wd := by rw [hwd]; exact HBy0.out.drew
        have HBd := Lib.hid (HBV.out.trans (hBd.mono HBV.out.size))
        obtain ⟨q1, q2, q3, q4, q5, q6, q7, q8, q9, q10, q11, q12, q13, q14, q15⟩ := HS2.out wc HBy0.out
        have hdlt : w.heap.size + 1 < wd.heap.size := (Array.getElem?_eq_some_iff.1 (HRES.out wd hBd)).1
        have hdne : wd.heap.size ≠ w.heap.size + 1 := by omega
        have hcr : (wd.alloc (.cells #[.int .i64 x.kind, .string x.name, .int .i64 x.num, .slice x.p x.xs.length x.cap, .int .i64 e.kind, .string e.name, .int .i64 e.num, .slice e.p e.xs.length e.cap] 29)).heap[w.heap.size + 1]? = some (.cells #[.int .i64 0, .string ⟨#[]⟩, .int .i64 0, .slice none 0 0] 29 (0, 0)) := (haoQ wd _ _ hdlt).trans (HRES.out wd hBd)
        have hnr : (wd.alloc (.cells #[.int .i64 x.kind, .string x.name, .int .i64 x.num, .slice x.p x.xs.length x.cap, .int .i64 e.kind, .string e.name, .int .i64 e.num, .slice e.p e.xs.length e.cap] 29)).heap[wd.heap.size]? = some (.cells #[.int .i64 x.kind, .string x.name, .int .i64 x.num, .slice x.p x.xs.length x.cap, .int .i64 e.kind, .string e.name, .int .i64 e.num, .slice e.p e.xs.length e.cap] 29 (0, 0)) := hanQ wd _
        have HCR := Lib.hid hcr
        have HNR := Lib.hid hnr
        obtain ⟨z0, z1, z2, z3, z4⟩ := box4Q hcr
        have HDNE := Lib.hid hdne
        clear hcr hnr hBd hdlt hdne
        go_still_tail 8, (by kernel_rfl)
        change wpList _ _ _ _ _ wc.drew
        rw [← hwd]
        clear hwd q1 q2 q3 q4 q5 q6 q7 q8 q9 q10 q11 q12 q13 q14 q15
        go_wp2
        refine bodyPost_ret (v := .tuple #[(QT.mk 6 ⟨#[]⟩ 0 (some ⟨wd.heap.size, 0, none⟩) 2 [x, e]).v, .bool true]) (results_ctQ Tryz.results55 _ _ (w.heap.size + 1) 29 _ (0, 0) _ _ rfl rfl (box4Q_all HCR.out _ _ _ _) Tryz.underlying29 rfl (by kernel_rfl)) rfl (rule_new (below_set4Q (HBd.out.alloc HBd.out.size _) (Nat.le_succ _) _ _ _ _) HQE2.out ⟨6, wd.heap.size, x, e, rfl, HQX.out, HQE.out, HBd.out.size, (set4Q_other _ _ _ _ _ _ _ HDNE.out).trans HNR.out, HOX.out⟩)
      · rw [decide_eq_false g0]
        rw [if_neg g0] at hQ
        have HQE2 := Lib.hid hQ
        have HR := Lib.hid (HRES.out wc HBy0.out)
        obtain ⟨z0, z1, z2, z3, z4⟩ := box4Q HR.out
        obtain ⟨k0, k1, k2, k3⟩ := HKB.out wc HBy0.out
        clear hQ g0 hst
        go_wp2
        refine bodyPost_ret (v := .tuple #[(QT.mk 7 s n (some ⟨b, o, none⟩) c [x, .mk 7 sy ny (some ⟨b2, o2, none⟩) cy [d, e]]).v, .bool false]) (results_ctQ Tryz.results55 _ _ (w.heap.size + 1) 29 _ (0, 0) _ _ rfl rfl (box4Q_all HR.out _ _ _ _) Tryz.underlying29 rfl (by kernel_rfl)) rfl (rule_out (below_set4Q HBy.out (Nat.le_succ _) _ _ _ _) HQE2.out HQ.out id)
  · have e7 := ibne g7
    have HQE : Hid (qrule (qabs (.mk 7 s n (some ⟨b, o, none⟩) c [x, .mk ky sy ny py cy ys])) = (qabs (.mk 7 s n (some ⟨b, o, none⟩) c [x, .mk ky sy ny py cy ys]), false)) := rule_but _ _ _ _ _ _ _ g7
    clear g7 hqx hqy hqx2 hf hfV hb hbV B2 B3 B4 HB4 hBV hBVw hEx hE hT hTW hq h60 hch hnd hxs hc60 hl hcy hBW hC
    go_quiet (fail)
    go_wp2
    refine bodyPost_ret (v := .tuple #[(QT.mk 7 s n (some ⟨b, o, none⟩) c [x, .mk ky sy ny py cy ys]).v, .bool false]) (results_ctQ Tryz.results55 _ _ (w.heap.size + 1) 29 _ (0, 0) _ _ rfl rfl (box4Q_all HB3.out _ _ _ _) Tryz.underlying29 rfl (by kernel_rfl)) rfl (rule_out (below_set4Q (below_drawsA HBV.out _) (Nat.le_succ _) _ _ _ _) HQE.out HQ.out id)
end Go.Proofs.YteefncohknclcaaGreatDoor
namespace Go.Proofs.YteefncohknclcaaGreatDoor
open Go.RowKit Go.Shelf
theorem ruleW_ok (t : QT) (w0 w : World) (hw0 : Below w0.heap.size w0 w) (m : Nat) (hq : QIn w0 t) (hT : TxtTabs w) (hE : qE qpat (qabs t) = 0) : Calls Tryz.prog 55 #[t.v] w (RulePost t m (qrule (qabs t)) w0 w) := by
  obtain ⟨k, s, n, p, c, xs⟩ := t
  by_cases h1 : k = 5 ∨ k = 6
  · exact ruleA_ok k h1 s n p c xs w0 w hw0 m hq hT hE
  by_cases h2 : k = 8 ∨ k = 10
  · exact ruleB_ok k h2 s n p c xs w0 w hw0 m hq hT hE
  by_cases h3 : k = 9 ∨ k = 11
  · exact ruleC_ok k h3 s n p c xs w0 w hw0 m hq hT hE
  by_cases h4 : k = 14 ∨ k = 15
  · exact ruleE_ok k h4 s n p c xs w0 w hw0 m hq hE
  by_cases h5 : k = 7
  · subst h5
    exact ruleF_ok s n p c xs w0 w hw0 m hq hT hE
  · exact ruleD_ok k ⟨h1, h2, h3, h4, h5⟩ s n p c xs w0 w hw0 m hq
theorem inner_cnt {pat : List UInt8 → Bool} {k : Int} {s : List UInt8} {n : Int} {xs : List QA} (h : qchk pat (.mk k s n xs) = 0) : qcnts (qnrms xs) ≤ qcnts xs := by
  obtain ⟨_, hxs⟩ := qchk_zero.1 h
  refine cnts_le (by rw [qnrms_map, List.length_map]) fun i a b ha hb => ?_
  rw [qnrms_map, List.getElem?_map, hb] at ha
  simp only [Option.map_some, Option.some.injEq] at ha
  subst ha
  exact (nrm_ok b (hxs b (List.mem_of_getElem? hb))).2.2
theorem inner_E {k : Int} {s : List UInt8} {n : Int} {xs : List QA} (h : qE qpat (.mk k s n xs) = 0) : qE qpat (.mk k s n (qnrms xs)) = 0 := by
  obtain ⟨h1, h2⟩ := qE_chk h
  have h3 := inner_cnt h2
  rw [cnt_mk] at h1
  unfold qE
  rw [cnt_mk, if_neg (by omega)]
  exact inner_ok h2 fun x hx => (nrm_ok x ((qchk_zero.1 h2).2 x hx)).1
theorem kid_E {k : Int} {s : List UInt8} {n : Int} {xs : List QA} (h : qE qpat (.mk k s n xs) = 0) {x : QA} (hx : x ∈ xs) : qE qpat x = 0 := by
  obtain ⟨h1, h2⟩ := qE_chk h
  have h3 := qcnt_mem hx
  rw [cnt_mk] at h1
  unfold qE
  rw [if_neg (by omega)]
  exact (qchk_zero.1 h2).2 x hx
theorem nrm_E {x : QA} (h : qE qpat x = 0) : qE qpat (qnrm x) = 0 := by
  obtain ⟨h1, h2⟩ := qE_chk h
  obtain ⟨h3, _, h4⟩ := nrm_ok x h2
  unfold qE
  rw [if_neg (by omega)]
  exact h3
theorem rule_still {pat : List UInt8 → Bool} {x : QA} (h : qchk pat x = 0) (hr : (qrule x).2 = false) : (qrule x).1 = x := by
  rcases rule_cases h with e | ⟨y, hy, e⟩ | ⟨_, _, _, a, b, hx, _, e⟩ | ⟨k, a, b, hx, h1, h2, e⟩ | ⟨w, n, k2, n2, z, h1, hx, _, e⟩ | ⟨w, n, n2, z, h1, hx, h2, h3, h4, e⟩ | ⟨a, b, c, hx, _, e⟩
  · rw [e]
  all_goals (rw [e] at hr; cases hr)
/-- the list that a call makes of an ask's parts, so far -/
structure NInv (W : World) (xs : List QT) (F : QA → QA) (j : Nat) (l : List QT) (v : Value) (u : World) : Prop where
  len : l.length = j
  abs : qabss l = (qabss (xs.take j)).map F
  own : u.ownsRow W.heap.size 29 4 v j (asksC l)
  below : Below W.heap.size W u
  kids : ∀ x ∈ l, QIn u x ∧ QOw u W.heap.size x ∧ ∀ g, v.ownBlock = some g → QAv g x
theorem NInv.start (W : World) (xs : List QT) (F : QA → QA) : NInv W xs F 0 [] (.slice none 0 0) W where
  len := rfl
  abs := rfl
  own := ⟨rfl, .inl ⟨rfl, rfl⟩⟩
  below := Below.refl _ _
  kids := fun _ h => by cases h
theorem own_below4 {w w' : World} {base e n : Nat} {v : Value} {xs : List Value} (h : w.ownsRow base e 4 v n xs) (hb : Below w.heap.size w w') : w'.ownsRow base e 4 v n xs := by
  refine h.kept (row := none) ⟨hb.os, hb.tape, hb.output, hb.size, fun k hk _ => hb.block k hk⟩ ?_
  cases hv : v.ownBlock
  · exact .inl rfl
  · exact .inr (by simp)
theorem NInv.later {W : World} {xs : List QT} {F : QA → QA} {j : Nat} {l : List QT} {v : Value} {u u' : World} (h : NInv W xs F j l v u) (hb : Below u.heap.size u u') : NInv W xs F j l v u' where
  len := h.len
  abs := h.abs
  own := own_below4 h.own hb
  below := h.below.trans (hb.mono h.below.size)
  kids := fun x hx => by
    obtain ⟨h1, h2, h3⟩ := h.kids x hx
    exact ⟨h1.below hb, h2.later hb, h3⟩
theorem NInv.step {W : World} {xs : List QT} {F : QA → QA} {j m : Nat} {l : List QT} {v v' : Value} {u u' : World} {t t' : QT} (h : NInv W xs F j l v u) (hx : xs[j]? = some t) (ht : qabs t' = F (qabs t)) (hi : QIn u t') (ho : QOw u m t')
    (hm : ∀ g, v.ownBlock = some g → g < m) (hWm : W.heap.size ≤ m) (hown : u'.ownsRow W.heap.size 29 4 v' (j + 1) (asksC (l ++ [t']))) (hg : u.grownBy u' v.ownBlock) (hv : v'.ownBlock = v.ownBlock ∨ v'.ownBlock = some u.heap.size) : NInv W xs F (j + 1) (l ++ [t']) v' u' where
  len := by rw [List.length_append, h.len]; rfl
  abs := by
    rw [qabss_map, List.map_append, ← qabss_map, h.abs, qabss_map, qabss_map]
    have hj : j < xs.length := by
      rcases Nat.lt_or_ge j xs.length with h1 | h1
      · exact h1
      · rw [List.getElem?_eq_none h1] at hx; cases hx
    rw [List.getElem?_eq_getElem hj] at hx
    injection hx with hx
    rw [List.take_succ_eq_append_getElem hj, List.map_append, List.map_append, hx]
    simp [ht]
  own := hown
  below := h.below.trans ⟨hg.os, hg.tape, hg.output, hg.size, fun k hk => hg.block k (Nat.lt_of_lt_of_le hk h.below.size) fun e => by
    have := (h.own.lt k e.symm).1
    omega⟩
  kids := fun x hx => by
    have hblk : ∀ k, k < u.heap.size → some k ≠ v.ownBlock → u'.heap[k]? = u.heap[k]? := fun k hk hne => hg.block k hk hne
    rcases List.mem_append.1 hx with hx | hx
    · obtain ⟨h1, h2, h3⟩ := h.kids x hx
      refine ⟨h1.grown h2 hg.size hblk h3, h2.grown hg.size hblk h3, fun g hg2 => ?_⟩
      rcases hv with e | e
      · exact h3 g (e ▸ hg2)
      · rw [e] at hg2
        injection hg2 with hg2
        exact h2.av_ge (Nat.le_of_eq hg2)
    · obtain rfl : x = t' := by simpa using hx
      have hav : ∀ g, v.ownBlock = some g → QAv g x := fun g hg2 => ho.av_lt (hm g hg2)
      refine ⟨hi.grown ho hg.size hblk hav, (ho.grown hg.size hblk hav).lower hWm, fun g hg2 => ?_⟩
      rcases hv with e | e
      · exact hav g (e ▸ hg2)
      · rw [e] at hg2
        injection hg2 with hg2
        exact ho.av_ge (Nat.le_of_eq hg2)
/-- the ask whose parts are the list -/
theorem NInv.ask {W : World} {xs : List QT} {F : QA → QA} {l : List QT} {v : Value} {u : World} (h : NInv W xs F xs.length l v u) (hlen : xs.length ≤ 1048576) {k : Int} {s : ByteArray} {n : Int} (hs : s.size ≤ 1048576) :
    ∃ (p : Option Addr) (c : Nat), v = .slice p l.length c ∧ QIn u (.mk k s n p c l) ∧ QOw u W.heap.size (.mk k s n p c l) ∧ qabs (.mk k s n p c l) = .mk k s.data.toList n ((qabss xs).map F) := by
  obtain ⟨p, c, hv, _⟩ := own_form1 h.own
  have hl := h.len
  subst hv
  have hown := h.own
  rw [← hl] at hown
  obtain ⟨h1, h2, h3⟩ := own_kids hown fun x hx => (h.kids x hx).1
  refine ⟨p, c, by rw [hl], QIn.of hs h2 (by show l.length ≤ _; omega) h1, QOw.of h3 fun x hx => (h.kids x hx).2.1, ?_⟩
  show QA.mk k s.data.toList n (qabss l) = _
  rw [h.abs, List.take_length]
/-- the state of the loop that takes the rules -/
structure AInv (t : QT) (w : World) (cur : QT) (b : Bool) (u : World) : Prop where
  box : u.heap[w.heap.size]? = some (.cells #[.int .i64 cur.kind, .string cur.name, .int .i64 cur.num, .slice cur.p cur.xs.length cur.cap] 29 (0, 0))
  res : u.heap[w.heap.size + 1]? = some (.cells #[.int .i64 0, .string ⟨#[]⟩, .int .i64 0, .slice none 0 0] 29 (0, 0))
  qin : QIn u cur
  qow : QOw u (w.heap.size + 2) cur
  chk : qE qpat (qabs cur) = 0
  tru : b = true → ∀ f, qmeas (qabs cur) ≤ f → qagain f (qabs cur) = qnrm (qabs t)
  fls : b = false → qabs cur = qnrm (qabs t)
  below : Below w.heap.size w u
  tabs : TxtTabs u
theorem AInv.step {t cur t' : QT} {w u w2 : World} (h : AInv t w cur true u) (h1 : qabs t' = (qrule (qabs cur)).1) (h3 : (QIn u t' ∧ (QOw u (w.heap.size + 2) cur → QOw u (w.heap.size + 2) t')) ∨ NewTwo t' (w.heap.size + 2) cur u u w2) (hb : Below u.heap.size u w2)
    (hT : TxtTabs ((((w2.setCell ⟨w.heap.size, 0, none⟩ (.int .i64 t'.kind)).setCell ⟨w.heap.size, 1, none⟩ (.string t'.name)).setCell ⟨w.heap.size, 2, none⟩ (.int .i64 t'.num)).setCell ⟨w.heap.size, 3, none⟩ (.slice t'.p t'.xs.length t'.cap))) :
    AInv t w t' (qrule (qabs cur)).2 ((((w2.setCell ⟨w.heap.size, 0, none⟩ (.int .i64 t'.kind)).setCell ⟨w.heap.size, 1, none⟩ (.string t'.name)).setCell ⟨w.heap.size, 2, none⟩ (.int .i64 t'.num)).setCell ⟨w.heap.size, 3, none⟩ (.slice t'.p t'.xs.length t'.cap)) ∧
      2 * qmeas (qabs t') + (qrule (qabs cur)).2.toNat < 2 * qmeas (qabs cur) + 1 := by
  obtain ⟨c1, c2⟩ := qE_chk h.chk
  have hbx := (Array.getElem?_eq_some_iff.1 h.res).1
  have hm2 : w.heap.size + 2 ≤ u.heap.size := by omega
  obtain ⟨g1, g2⟩ : QIn w2 t' ∧ QOw w2 (w.heap.size + 2) t' := by
    rcases h3 with ⟨a, b⟩ | h3
    · exact ⟨a.below hb, (b h.qow).later hb⟩
    · obtain ⟨a, b⟩ := h3.there hb (Nat.le_refl _) (fun _ _ _ => rfl)
      exact ⟨a, b hm2 h.qow⟩
  have hkeep : ∀ b, w.heap.size + 2 ≤ b → b < w2.heap.size → ((((w2.setCell ⟨w.heap.size, 0, none⟩ (.int .i64 t'.kind)).setCell ⟨w.heap.size, 1, none⟩ (.string t'.name)).setCell ⟨w.heap.size, 2, none⟩ (.int .i64 t'.num)).setCell ⟨w.heap.size, 3, none⟩ (.slice t'.p t'.xs.length t'.cap)).heap[b]? = w2.heap[b]? := fun b hb1 _ => set4Q_other _ _ _ _ _ _ _ (by omega)
  have hB2 := below_set4Q (h.below.trans (hb.mono h.below.size)) (Nat.le_refl _) (.int .i64 t'.kind) (.string t'.name) (.int .i64 t'.num) (.slice t'.p t'.xs.length t'.cap)
  have hsz : w2.heap.size ≤ ((((w2.setCell ⟨w.heap.size, 0, none⟩ (.int .i64 t'.kind)).setCell ⟨w.heap.size, 1, none⟩ (.string t'.name)).setCell ⟨w.heap.size, 2, none⟩ (.int .i64 t'.num)).setCell ⟨w.heap.size, 3, none⟩ (.slice t'.p t'.xs.length t'.cap)).heap.size := (below_set4Q (Below.refl 0 w2) (Nat.zero_le _) _ _ _ _).size
  refine ⟨⟨box4Q_all ((hb.block _ (by omega)).trans h.box) _ _ _ _, (set4Q_other _ _ _ _ _ _ _ (by omega)).trans ((hb.block _ hbx).trans h.res), g1.keep hsz g2 hkeep, g2.keep hsz hkeep, ?_, fun hr f hf => ?_, fun hr => ?_, hB2, hT⟩, ?_⟩
  · rw [h1]
    unfold qE
    by_cases hr : (qrule (qabs cur)).2 = true
    · have := (rule_less c2 hr).2
      rw [if_neg (by omega)]
      exact rule_ok c2
    · rw [rule_still c2 (by simpa using hr), if_neg (by omega)]
      exact c2
  · rw [h1] at hf ⊢
    have hl := (rule_less c2 hr).1
    rw [again_enough f (qmeas (qabs cur)) _ (rule_ok c2) hf (by omega), ← again_step hr]
    exact h.tru rfl _ (by omega)
  · rw [h1, rule_still c2 hr]
    have := h.tru rfl _ (Nat.le_refl _)
    rw [again_stop hr] at this
    exact this
  · rw [h1]
    cases hr : (qrule (qabs cur)).2
    · rw [rule_still c2 hr]
      show _ + 0 < _
      omega
    · have := (rule_less c2 hr).1
      show _ + 1 < _
      omega
open Go.Sort in
theorem box4Q_last {w : World} {b : Nat} {t : TypeId} {v0 v1 v2 v3 : Value} (h : w.heap[b]? = some (.cells #[v0, v1, v2, v3] t (0, 0))) (u3 : Value) :
    (w.setCell ⟨b, 3, none⟩ u3).heap[b]? = some (.cells #[v0, v1, v2, u3] t (0, 0)) := by
  simp only [setCell_eq]
  simp [mapBlock, onCells, Array.getElem?_modify, h]
theorem AInv.start {t : QT} {w W u : World} {k : Int} {s : ByteArray} {n : Int} {p pc : Option Addr} {c cc nc : Nat} {xs l : List QT} (ht : t = .mk k s n pc cc xs) (hS : W.heap.size = w.heap.size + 2) (hBW : Below w.heap.size w W) (hbu : Below W.heap.size W u)
    (hbox : W.heap[w.heap.size]? = some (.cells #[.int .i64 k, .string s, .int .i64 n, .slice pc nc cc] 29 (0, 0)))
    (hres : W.heap[w.heap.size + 1]? = some (.cells #[.int .i64 0, .string ⟨#[]⟩, .int .i64 0, .slice none 0 0] 29 (0, 0)))
    (hq : QIn u (.mk k s n p c l)) (ho : QOw u W.heap.size (.mk k s n p c l)) (ha : qabs (.mk k s n p c l) = .mk k s.data.toList n ((qabss xs).map qnrm)) (hE : qE qpat (qabs t) = 0) (hT : TxtTabs (u.setCell ⟨w.heap.size, 3, none⟩ (.slice p l.length c))) :
    AInv t w (.mk k s n p c l) true (u.setCell ⟨w.heap.size, 3, none⟩ (.slice p l.length c)) := by
  have hkeep : ∀ b, w.heap.size + 2 ≤ b → b < u.heap.size → (u.setCell ⟨w.heap.size, 3, none⟩ (.slice p l.length c)).heap[b]? = u.heap[b]? := fun b hb1 _ => heap_setCell_other _ _ b _ (by show b ≠ w.heap.size; omega)
  have hsz : u.heap.size ≤ (u.setCell ⟨w.heap.size, 3, none⟩ (.slice p l.length c)).heap.size := ((Below.refl 0 u).setCell (Nat.zero_le _) _).size
  rw [hS] at ho
  subst ht
  rw [← qnrms_map] at ha
  refine ⟨box4Q_last ((hbu.block _ (by omega)).trans hbox) _, (heap_setCell_other _ _ _ _ (by show w.heap.size + 1 ≠ w.heap.size; omega)).trans ((hbu.block _ (by omega)).trans hres), hq.keep hsz ho hkeep, ho.keep hsz hkeep, ?_, fun _ f hf => ?_, fun h => (by cases h), (hBW.trans (hbu.mono hBW.size)).setCell (Nat.le_refl _) _, hT⟩
  · rw [ha]
    exact inner_E hE
  · rw [ha] at hf ⊢
    have h2 := (qE_chk (inner_E (k := k) (s := s.data.toList) (n := n) (xs := qabss xs) hE)).2
    show _ = qagain (2 * (1 + qcnts (qnrms (qabss xs))) + 2) _
    have ht := turned_le (.mk k s.data.toList n (qnrms (qabss xs)))
    refine again_enough _ _ _ h2 hf ?_
    unfold qmeas
    rw [cnt_mk]
    omega
def NormPost (t : QT) (w : World) (e : Ending) (w' : World) : Prop := ∃ t' : QT, e = .returned t'.v ∧ qabs t' = qnrm (qabs t) ∧ QIn w' t' ∧ QOw w' w.heap.size t' ∧ Below w.heap.size w w'
set_option maxHeartbeats 8000000 in
set_option maxRecDepth 100000 in
theorem normW_ok : ∀ (t : QT) (w : World), QIn w t → TxtTabs w → qE qpat (qabs t) = 0 → Calls Tryz.prog 33 #[t.v] w (NormPost t w) := by
  intro t
  induction t using QT.ind with
  | h k s n p c xs ih =>
    intro w hq hT hE
    have IH := Lib.hid ih
    have HK : Hid (QsIn w p 0 xs) := hq.kids
    have hsm := hq.small
    have hxl : xs.length ≤ 1048576 := hsm.2.2
    have HSM := Lib.hid hsm.1
    have HEK : Hid (∀ x ∈ xs, qE qpat (qabs x) = 0) := by
      show ∀ x ∈ xs, _
      intro x hx
      exact kid_E (show qE qpat (.mk k s.data.toList n (qabss xs)) = 0 from hE) (by rw [qabss_map]; exact List.mem_map_of_mem hx)
    have HE := Lib.hid hE
    have HT := Lib.hid hT
    clear ih hq hsm
    obtain ⟨W, hW, hBW, hS, hC⟩ := arg2r w (.int .i64 k) (.string s) (.int .i64 n) (.slice p xs.length c)
    have HS := Lib.hid hS
    have HC := Lib.hid hC
    have HBW := Lib.hid hBW
    obtain ⟨B0, B1⟩ := HC.out W (Below.refl _ _)
    obtain ⟨k0, k1, k2, k3, _⟩ := box4Q B0
    show Calls Tryz.prog 33 #[.agg #[.int .i64 k, .string s, .int .i64 n, .slice p xs.length c]] w _
    clear hBW hS hC hE hT B0 B1
    go_enter Tryz.func33, Tryz.ntmps33
    go_upto_region 1 with fail
    rw [← hW]
    clear hW
    go_wp2_with fail
    clear k0 k1 k2 k3
    go_loopw [10, 3] (fun i v wr => ∃ (j : Nat) (l : List QT), j ≤ xs.length ∧ i = .int .i64 j ∧ Hid (NInv W xs qnrm j l v wr)) (fun i _ _ => xs.length - (intOf i).toNat)
    case atStart => exact ⟨0, [], Nat.zero_le _, rfl, NInv.start _ _ _⟩
    case round =>
      obtain ⟨j, l, hj, rfl, HI⟩ := hrel
      by_cases hlt : j < xs.length
      · obtain ⟨x, hx⟩ : ∃ x, xs[j]? = some x := ⟨_, List.getElem?_eq_getElem hlt⟩
        have HX := Lib.hid hx
        obtain ⟨⟨b, o, rfl, hb, hf⟩, hqx⟩ := HK.out.at hx
        have HBw := Lib.hid (HBW.out.trans (HI.out.below.mono HBW.out.size))
        obtain ⟨c0, c1, c2, c3⟩ := four_at (hf.below HBw.out hb)
        have HCALL := Lib.hid (fun (u : World) (hu : Below wr.heap.size wr u) => IH.out x (List.mem_of_getElem? hx) u (hqx.below (HBw.out.trans (hu.mono HBw.out.size))) (HT.out.below (HBw.out.trans (hu.mono HBw.out.size))) (HEK.out x (List.mem_of_getElem? hx)))
        clear hqx hf hx
        have HAL : Hid (∀ o, Below wr.heap.size wr (wr.alloc o)) := fun o => (Below.refl _ _).alloc (Nat.le_refl _) o
        have HLEN := Lib.hid HI.out.len
        obtain ⟨gv, cv, rfl, hgl⟩ := own_form1 HI.out.own
        have HGL := Lib.hid hgl
        clear hgl
        go_wp2_with (first
          | (go_at_call 33; refine (HCALL.out _ (HAL.out _)).mono ?_; rintro e w5 ⟨⟨k', s', n', p', c', xs'⟩, he, ht1, ht2, ht3, hb5⟩; obtain rfl : e = .returned (.agg #[.int .i64 k', .string s', .int .i64 n', .slice p' xs'.length c']) := he; have HB5 := Lib.hid ((HAL.out _).trans (hb5.mono (HAL.out _).size)); have HI5 := Lib.hid (HI.out.later HB5.out); have HT1 := Lib.hid ht1; have HT2 := Lib.hid ht2; have HT3 := Lib.hid ht3; clear hb5 ht1 ht2 ht3)
          | (at_builtin; refine app_ask _ rfl _ _ rfl W.heap.size _ j l rfl (own_below4 HI5.out.own ((Below.refl _ _).alloc (Nat.le_refl _) _)) w5.heap.size (.mk k' s' n' p' c' xs') rfl ?c1 ?c2 ?c3 ?c4 (by omega) ?c5 ?_; rotate_right; intro v' w6 hown6 hgrow6 hv6; have HI6 := Lib.hid ((HI5.out.later ((Below.refl _ _).alloc (Nat.le_refl _) _)).step HX.out HT1.out (HT2.out.below ((Below.refl _ _).alloc (Nat.le_refl _) _)) (HT3.out.later ((Below.refl _ _).alloc (Nat.le_refl _) _)) (fun g hg => Nat.lt_of_lt_of_le (HGL.out g hg).2 (HAL.out _).size) (Nat.le_trans HI.out.below.size (HAL.out _).size) hown6 hgrow6 hv6); clear hown6 hgrow6 hv6))
        case c1 => rw [World.cell?_alloc_at _ _ _ _ rfl]; rfl
        case c2 => rw [World.cell?_alloc_at _ _ _ _ rfl]; rfl
        case c3 => rw [World.cell?_alloc_at _ _ _ _ rfl]; rfl
        case c4 => rw [World.cell?_alloc_at _ _ _ _ rfl]; rfl
        case c5 => have := HI5.out.below.size; simp; omega
        go_roundw
        case rel => exact ⟨j + 1, _, by omega, by go_num, HI6.out⟩
        case measure => simp [intOf]; omega
      · obtain rfl : j = xs.length := by omega
        obtain ⟨pl, cl, rfl, hqi, hqo, hqa⟩ := HI.out.ask (k := k) (n := n) hxl HSM.out
        have HBw := Lib.hid (HBW.out.trans (HI.out.below.mono HBW.out.size))
        obtain ⟨B0, B1⟩ := HC.out wr HI.out.below
        have HBX := Lib.hid (HC.out W (Below.refl _ _))
        have HA := Lib.hid (AInv.start (t := .mk k s n p c xs) rfl HS.out HBW.out HI.out.below HBX.out.1 HBX.out.2 hqi hqo hqa HE.out (HT.out.below (HBw.out.setCell (Nat.le_refl _) _)))
        obtain ⟨k0, k1, k2, k3, k4⟩ := box4Q B0
        clear B0 B1 hqi hqo hqa HI
        go_wp2_with fail
        generalize wr.setCell ⟨w.heap.size, 3, none⟩ (.slice pl l.length cl) = W2 at HA ⊢
        clear k0 k1 k2 k3 k4 HBw
        go_loopg [6] (2 * qmeas (qabs (.mk k s n pl cl l)) + 1) (fun g b u => ∃ (cur : QT) (bb : Bool), b = .bool bb ∧ g = 2 * qmeas (qabs cur) + bb.toNat ∧ Hid (AInv (.mk k s n p c xs) w cur bb u))
        case atStart => exact ⟨_, true, rfl, rfl, HA.out⟩
        case round =>
          obtain ⟨cur, bb, rfl, hg, HU⟩ := hrel
          obtain ⟨k0, k1, k2, k3, k4⟩ := box4Q HU.out.box
          obtain ⟨r0, r1, r2, r3, r4⟩ := box4Q HU.out.res
          have HR := Lib.hid HU.out.res
          have HSZ := Lib.hid HU.out.below.size
          obtain ⟨kk, ks, kn, kp, kc, kx⟩ := cur
          cases bb
          · have HD : Hid (∀ u' : World, wr.heap.size ≤ u'.heap.size → (∀ b, w.heap.size + 2 ≤ b → b < wr.heap.size → u'.heap[b]? = wr.heap[b]?) → Below w.heap.size w u' → NormPost (.mk k s n p c xs) w (.returned (QT.mk kk ks kn kp kc kx).v) u') := by
              show ∀ u' : World, _
              intro u' h1 h2 h3
              exact ⟨_, rfl, HU.out.fls rfl, HU.out.qin.keep h1 HU.out.qow h2, (HU.out.qow.keep h1 h2).lower (Nat.le_add_right _ _), h3⟩
            go_wp2
            refine bodyPost_ret (v := (QT.mk kk ks kn kp kc kx).v) (results_cell_row Tryz.results33 _ _ (w.heap.size + 1) 29 _ (0, 0) _ rfl (box4Q_all HR.out _ _ _ _) Tryz.underlying29 rfl (by kernel_rfl)) rfl (HD.out _ ?_ ?_ ?_)
            · exact (below_set4Q (Below.refl 0 wr) (Nat.zero_le _) _ _ _ _).size
            · exact fun b h1 h2 => set4Q_other _ _ _ _ _ _ _ (by omega)
            · exact below_set4Q HU.out.below (Nat.le_succ _) _ _ _ _
          · have HRULE := Lib.hid (ruleW_ok (.mk kk ks kn kp kc kx) wr wr (Below.refl _ _) (w.heap.size + 2) HU.out.qin HU.out.tabs HU.out.chk)
            have HBX := Lib.hid HU.out.box
            clear k4 r0 r1 r2 r3 r4
            have HBL : Hid (w.heap.size < wr.heap.size) := (Array.getElem?_eq_some_iff.1 HU.out.box).1
            go_wp2_with (go_at_call 55; refine HRULE.out.mono ?_; rintro e w2 ⟨⟨⟨k', s', n', p', c', xs'⟩, he, ht1, ht2⟩, hb⟩; obtain rfl : e = .returned (.tuple #[.agg #[.int .i64 k', .string s', .int .i64 n', .slice p' xs'.length c'], .bool (qrule (qabs (QT.mk kk ks kn kp kc kx))).2]) := he; have HT1 := Lib.hid ht1; have HT2 := Lib.hid ht2; have HB := Lib.hid hb; obtain ⟨k0, k1, k2, k3, k4⟩ := box4Q ((hb.block _ HBL.out).trans HBX.out); clear ht1 ht2 hb)
            have HST := Lib.hid (HU.out.step HT1.out HT2.out HB.out (HT.out.below (below_set4Q (HU.out.below.trans (HB.out.mono HSZ.out)) (Nat.le_refl _) _ _ _ _)))
            go_roundg (2 * qmeas (qabs (.mk k' s' n' p' c' xs')) + (qrule (qabs (QT.mk kk ks kn kp kc kx))).2.toNat)
            case measure =>
              have := HST.out.2
              rw [hg]
              exact this
            case rel => exact ⟨_, _, rfl, rfl, HST.out.1⟩
end Go.Proofs.YteefncohknclcaaGreatDoor
namespace Go.Proofs.YteefncohknclcaaGreatDoor
open Go.RowKit Go.Shelf
def nilT : QT := .mk 0 ⟨#[]⟩ 0 none 0 []
theorem nilT_in (w : World) : QIn w nilT := QIn.of (by show 0 ≤ _; omega) (Nat.le_refl _) (by show 0 ≤ _; omega) trivial
theorem nilT_ow (w : World) (n : Nat) : QOw w n nilT := .mk (.inl ⟨rfl, rfl, rfl⟩) (fun _ h => by cases h)
def qNorm (x : QA) : QA := if qE qpat x = 0 then qnrm x else .mk 0 [] 0 []
def NormFPost (t : QT) (w : World) (e : Ending) (w' : World) : Prop := ∃ t' : QT, e = .returned (.tuple #[t'.v, .int .i64 (qE qpat (qabs t))]) ∧ qabs t' = qNorm (qabs t) ∧ QIn w' t' ∧ QOw w' w.heap.size t' ∧ Below w.heap.size w w'
theorem norm_fin {t t' : QT} {w u : World} {E : Int} (hE : qE qpat (qabs t) = E) (h1 : qabs t' = qNorm (qabs t)) (h2 : QIn u t') (h3 : QOw u (w.heap.size + 2) t') (hb : Below w.heap.size w u) (u0 u1 u2 u3 : Value) :
    NormFPost t w (.returned (.tuple #[t'.v, .int .i64 E])) ((((u.setCell ⟨w.heap.size + 1, 0, none⟩ u0).setCell ⟨w.heap.size + 1, 1, none⟩ u1).setCell ⟨w.heap.size + 1, 2, none⟩ u2).setCell ⟨w.heap.size + 1, 3, none⟩ u3) := by
  have hsz := (below_set4Q (b := w.heap.size + 1) (Below.refl 0 u) (Nat.zero_le _) u0 u1 u2 u3).size
  have hk : ∀ b, w.heap.size + 2 ≤ b → b < u.heap.size → ((((u.setCell ⟨w.heap.size + 1, 0, none⟩ u0).setCell ⟨w.heap.size + 1, 1, none⟩ u1).setCell ⟨w.heap.size + 1, 2, none⟩ u2).setCell ⟨w.heap.size + 1, 3, none⟩ u3).heap[b]? = u.heap[b]? := fun b hb1 _ => set4Q_other _ _ _ _ _ _ _ (by omega)
  exact ⟨t', by rw [hE], h1, h2.keep hsz h3 hk, (h3.keep hsz hk).lower (Nat.le_add_right _ _), below_set4Q hb (Nat.le_succ _) _ _ _ _⟩
set_option maxHeartbeats 4000000 in
set_option maxRecDepth 100000 in
theorem NormF_ok (t : QT) (w : World) (hq : QIn w t) (hT : TxtTabs w) (hc : qcnt (qabs t) ≤ 1099511627776) : Calls Tryz.prog 11 #[t.v] w (NormFPost t w) := by
  obtain ⟨k, s, n, p, c, xs⟩ := t
  obtain ⟨W, hW, hBW, hS, hC⟩ := arg2r w (.int .i64 k) (.string s) (.int .i64 n) (.slice p xs.length c)
  have HS := Lib.hid hS
  have HC := Lib.hid hC
  have HBW := Lib.hid hBW
  have HCH := Lib.hid (CheckA_ok _ W (hq.below hBW) (hT.ask.below hBW) hc)
  have HN : Hid (qE qpat (qabs (.mk k s n p c xs)) = 0 → ∀ (u : World), Below W.heap.size W u → Calls Tryz.prog 33 #[(QT.mk k s n p c xs).v] u (NormPost (.mk k s n p c xs) u)) := by
    show _ → _
    intro h u hu
    exact normW_ok _ u (hq.below (hBW.trans (hu.mono hBW.size))) (hT.below (hBW.trans (hu.mono hBW.size))) h
  obtain ⟨B0, B1⟩ := HC.out W (Below.refl _ _)
  obtain ⟨k0, k1, k2, k3, _⟩ := box4Q B0
  show Calls Tryz.prog 11 #[.agg #[.int .i64 k, .string s, .int .i64 n, .slice p xs.length c]] w _
  obtain ⟨E, hE⟩ : ∃ E, qE qpat (qabs (.mk k s n p c xs)) = E := ⟨_, rfl⟩
  have HE := Lib.hid hE
  rw [hE] at HCH HN
  clear hq hT hBW hS hC hc hE B0 B1
  go_enter Tryz.func11, Tryz.ntmps11
  go_upto_region 1 with fail
  rw [← hW]
  clear hW
  by_cases h0 : E = 0
  · subst h0
    have HT2 := Lib.hid (HN.out rfl)
    go_wp2_with (first
      | (go_at_call 32; refine HCH.out.mono ?_; rintro e w2 ⟨rfl, hb⟩; have HB0 := Lib.hid hb; obtain ⟨u0, u1, u2, u3, _⟩ := box4Q (HC.out w2 hb).1; clear hb)
      | (go_at_call 33; refine (HT2.out _ HB0.out).mono ?_; rintro e w3 ⟨⟨k', s', n', p', c', xs'⟩, he, ht1, ht2, ht3, hb⟩; obtain rfl : e = .returned (.agg #[.int .i64 k', .string s', .int .i64 n', .slice p' xs'.length c']) := he; have HT1 := Lib.hid ht1; have HTI := Lib.hid ht2; have HTO := Lib.hid ht3; have HB3 := Lib.hid (HB0.out.trans (hb.mono HB0.out.size)); have HR := Lib.hid (HC.out w3 HB3.out).2; obtain ⟨z0, z1, z2, z3, z4⟩ := box4Q HR.out; clear ht1 ht2 ht3 hb))
    refine bodyPost_ret (v := .tuple #[(QT.mk k' s' n' p' c' xs').v, .int .i64 0]) (results_ctQ Tryz.results11 _ _ (w.heap.size + 1) 29 _ (0, 0) _ _ rfl rfl (box4Q_all HR.out _ _ _ _) Tryz.underlying29 rfl (by kernel_rfl)) rfl
      (norm_fin HE.out ?_ HTI.out (HTO.out.lower (by have := HB0.out.size; have := HS.out; omega)) (HBW.out.trans (HB3.out.mono HBW.out.size)) _ _ _ _)
    rw [HT1.out]
    unfold qNorm
    rw [if_pos HE.out]
  · obtain ⟨i1, i2⟩ := int_ne' h0
    have HNE : Hid (¬ E = 0) := h0
    clear h0
    go_wp2_with (go_at_call 32; refine HCH.out.mono ?_; rintro e w2 ⟨rfl, hb⟩; have HB0 := Lib.hid hb; have HR := Lib.hid (HC.out w2 hb).2; obtain ⟨z0, z1, z2, z3, z4⟩ := box4Q HR.out; clear hb)
    refine bodyPost_ret (v := .tuple #[nilT.v, .int .i64 E]) (results_ctQ Tryz.results11 _ _ (w.heap.size + 1) 29 _ (0, 0) _ _ rfl rfl (box4Q_all HR.out _ _ _ _) Tryz.underlying29 rfl (by kernel_rfl)) rfl
      (norm_fin HE.out ?_ (nilT_in _) (nilT_ow _ _) (HBW.out.trans (HB0.out.mono HBW.out.size)) _ _ _ _)
    unfold qNorm
    rw [HE.out, if_neg HNE.out]
    rfl
def qSize (x : QA) : Int := if qE qpat x = 0 then (qcnt x : Int) else 0
set_option maxHeartbeats 4000000 in
set_option maxRecDepth 100000 in
theorem SizeF_ok (t : QT) (w : World) (hq : QIn w t) (hT : AskTabs w) (hc : qcnt (qabs t) ≤ 1099511627776) : Calls Tryz.prog 31 #[t.v] w fun e w' => e = .returned (.tuple #[.int .i64 (qSize (qabs t)), .int .i64 (qE qpat (qabs t))]) ∧ Below w.heap.size w w' := by
  obtain ⟨k, s, n, p, c, xs⟩ := t
  obtain ⟨W, hW, hBW, hS, hC⟩ := arg1 w (.int .i64 k) (.string s) (.int .i64 n) (.slice p xs.length c)
  have HC := Lib.hid hC
  have HBW := Lib.hid hBW
  have HCH := Lib.hid (CheckA_ok _ W (hq.below hBW) (hT.below hBW) hc)
  have HN : Hid (∀ (u : World), Below W.heap.size W u → Calls Tryz.prog 52 #[(QT.mk k s n p c xs).v] u fun e w' => e = .returned (.int .i64 (qcnt (qabs (.mk k s n p c xs)) : Int)) ∧ Below u.heap.size u w') := by
    show ∀ u : World, _
    intro u hu
    exact sizeN_ok _ u (hq.below (hBW.trans (hu.mono hBW.size))) hc
  obtain ⟨k0, k1, k2, k3⟩ := HC.out W (Below.refl _ _)
  show Calls Tryz.prog 31 #[.agg #[.int .i64 k, .string s, .int .i64 n, .slice p xs.length c]] w _
  obtain ⟨E, hE⟩ : ∃ E, qE qpat (qabs (.mk k s n p c xs)) = E := ⟨_, rfl⟩
  obtain ⟨Z, hZ⟩ : ∃ Z : Int, qSize (qabs (.mk k s n p c xs)) = Z := ⟨_, rfl⟩
  obtain ⟨m, hm⟩ : ∃ m : Nat, qcnt (qabs (.mk k s n p c xs)) = m := ⟨_, rfl⟩
  have hZ2 : Z = if E = 0 then (m : Int) else 0 := by rw [← hZ, ← hE, ← hm]; rfl
  rw [hm] at HN
  rw [hE] at HCH
  rw [hE, hZ]
  clear hq hT hBW hS hC hc hE hZ hm
  go_enter Tryz.func31, Tryz.ntmps31
  go_upto_region 1 with fail
  rw [← hW]
  clear hW
  by_cases h0 : E = 0
  · subst h0
    rw [if_pos rfl] at hZ2
    subst hZ2
    go_wp2_with (first
      | (go_at_call 32; refine HCH.out.mono ?_; rintro e w2 ⟨rfl, hb⟩; have HB0 := Lib.hid hb; obtain ⟨u0, u1, u2, u3⟩ := HC.out w2 hb; clear hb)
      | (go_at_call 52; refine (HN.out _ HB0.out).mono ?_; rintro e w3 ⟨rfl, hb⟩; have HB3 := Lib.hid (HBW.out.trans ((HB0.out.trans (hb.mono HB0.out.size)).mono HBW.out.size)); clear hb))
    go_ret2
    exact ⟨rfl, HB3.out⟩
  · rw [if_neg h0] at hZ2
    subst hZ2
    obtain ⟨i1, i2⟩ := int_ne' h0
    clear h0
    go_wp2_with (go_at_call 32; refine HCH.out.mono ?_; rintro e w2 ⟨rfl, hb⟩; have HB := Lib.hid (HBW.out.trans (hb.mono HBW.out.size)); clear hb)
    go_ret2
    exact ⟨rfl, HB.out⟩
set_option maxHeartbeats 4000000 in
set_option maxRecDepth 100000 in
theorem norms_ok (w : World) (hT : AskTabs w) : Calls Tryz.prog 10 #[] w fun e w' => e = .returned (.bool true) ∧ Below w.heap.size w w' := by
  have h : Calls Tryz.prog 31 #[.agg #[.int .i64 2, .string ⟨#[]⟩, .int .i64 0, .slice none 0 0]] w fun e w' => e = .returned (.tuple #[.int .i64 1, .int .i64 0]) ∧ Below w.heap.size w w' := by
    have e1 : qE qpat (qabs (.mk 2 ⟨#[]⟩ 0 none 0 [])) = 0 := by decide
    have h := SizeF_ok (.mk 2 ⟨#[]⟩ 0 none 0 []) w (QIn.of (by show 0 ≤ _; omega) (Nat.le_refl _) (by show 0 ≤ _; omega) trivial) hT (by decide)
    unfold qSize at h
    rw [e1, if_pos rfl] at h
    exact h
  have HS := Lib.hid h
  clear h hT
  go_enter Tryz.func10, Tryz.ntmps10
  go_wp2_with (go_at_call 31; refine HS.out.mono ?_; rintro e w2 ⟨rfl, hb⟩; have HB := Lib.hid hb; clear hb)
  go_ret
  exact ⟨rfl, HB.out⟩
end Go.Proofs.YteefncohknclcaaGreatDoor
