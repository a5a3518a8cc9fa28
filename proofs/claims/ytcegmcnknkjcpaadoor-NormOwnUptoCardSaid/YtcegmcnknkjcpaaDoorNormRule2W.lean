/- The walk of norm.rule. Conditions: the ask lies in memory and is well formed; the tables read as listed. -/
import Derived.Test.YtcegmcnknkjcpaaDoorNormTwoW
namespace Go.Proofs.YtcegmcnknkjcpaaDoor
open Go.RowKit Go.Shelf
theorem kl_one {xs : List QT} (h : (qabss xs).length = 1) : ∃ x, xs = [x] := by
  rcases xs with _ | ⟨x, _ | ⟨y, xs⟩⟩
  · cases h
  · exact ⟨x, rfl⟩
  · simp [qabss] at h
theorem kl_two {xs : List QT} (h : (qabss xs).length = 2) : ∃ x y, xs = [x, y] := by
  rcases xs with _ | ⟨x, _ | ⟨y, _ | ⟨z, xs⟩⟩⟩
  · cases h
  · cases h
  · exact ⟨x, y, rfl⟩
  · simp [qabss] at h
theorem Four.of_box {w : World} {b o : Nat} {t : QT} (h : w.heap[b]? = some (.cells #[.int .i64 t.kind, .string t.name, .int .i64 t.num, .slice t.p t.xs.length t.cap] 24 (0, 0))) (ho : o = 0) : Four w b o t := by
  subst ho
  obtain ⟨h0, h1, h2, h3, _⟩ := box4Q h
  exact ⟨h0, h1, h2, h3⟩
/-- an answer of a rule that is handed on -/
theorem rule_pass {t t' : QT} {q : QA × Bool} {w0 w W w2 : World} {n : Nat} (hBW : Below w.heap.size w W) (hS : W.heap.size = w.heap.size + 2) (h1 : qabs t' = q.1)
    (h3 : (QIn w0 t' ∧ (QOw w0 n t → QOw w0 n t')) ∨ NewTwo t' n t w0 W w2) (hb : Below W.heap.size W w2) (u0 u1 u2 u3 : Value) :
    RulePost t n q w0 w (.returned (.tuple #[t'.v, .bool q.2])) ((((w2.setCell ⟨w.heap.size + 1, 0, none⟩ u0).setCell ⟨w.heap.size + 1, 1, none⟩ u1).setCell ⟨w.heap.size + 1, 2, none⟩ u2).setCell ⟨w.heap.size + 1, 3, none⟩ u3) := by
  refine ⟨⟨t', rfl, h1, h3.imp id fun h => ?_⟩, below_set4Q (hBW.trans (hb.mono hBW.size)) (Nat.le_succ _) _ _ _ _⟩
  obtain ⟨k, nb, a, b, e, ha, hb2, hnb, hh, ho⟩ := h
  exact ⟨k, nb, a, b, e, ha, hb2, by omega, (set4Q_other _ _ _ _ _ _ _ (by omega)).trans hh, ho⟩

set_option maxHeartbeats 8000000 in
set_option maxRecDepth 100000 in
theorem ruleA_ok (k : Int) (hk : k = 5 ∨ k = 6) (s : ByteArray) (n : Int) (p : Option Addr) (c : Nat) (xs : List QT) (w0 w : World) (hw0 : Below w0.heap.size w0 w) (m : Nat) (hq : QIn w0 (.mk k s n p c xs)) (hT : TxtTabs w) (hE : qE qpat (qabs (.mk k s n p c xs)) = 0) :
    Calls Tryd.prog 28 #[(QT.mk k s n p c xs).v] w (RulePost (.mk k s n p c xs) m (qrule (qabs (.mk k s n p c xs))) w0 w) := by
  obtain ⟨h60, hch⟩ := qE_chk hE
  obtain ⟨hnd, hxs⟩ := qchk_zero.1 (show qchk qpat (.mk k s.data.toList n (qabss xs)) = 0 from hch)
  have hl : (qabss xs).length = 2 := by rcases node_cases hnd with h | h | h | h | h | h | h | h | h | h <;> first | (exfalso; omega) | exact h.2.1
  obtain ⟨x, y, rfl⟩ := kl_two hl
  obtain ⟨W, hW, hBW, hS, hC⟩ := arg2r w (.int .i64 k) (.string s) (.int .i64 n) (.slice p 2 c)
  have HC := Lib.hid hC
  have HBW := Lib.hid hBW
  have hww : Below w0.heap.size w0 W := hw0.trans (hBW.mono hw0.size)
  have hTW := hT.below hBW
  obtain ⟨B0, B1⟩ := HC.out W (Below.refl _ _)
  have HB1 := Lib.hid B1
  obtain ⟨k0, k1, k2, k3, _⟩ := box4Q B0
  obtain ⟨r0, r1, r2, r3, r4⟩ := box4Q B1
  have hcall := two_ok k s n p c x y w0 W hww m hq hTW hE
  rw [← show qrule (qabs (.mk k s n p c [x, y])) = qtwo k s.data.toList n (qabs x) (qabs y) from by
    show (if k = 5 ∨ k = 6 then _ else _) = _
    rw [if_pos hk]] at hcall
  generalize qrule (qabs (.mk k s n p c [x, y])) = Q at hcall ⊢
  obtain ⟨q1, q2⟩ := Q
  have HX := Lib.hid hcall
  show Calls Tryd.prog 28 #[.agg #[.int .i64 k, .string s, .int .i64 n, .slice p 2 c]] w _
  go_enter Tryd.func28, Tryd.ntmps28
  go_upto_region 1 with fail
  rw [← hW]
  clear hcall hW hq hE h60 hch hnd hxs hl B0 B1 hww hTW hT hC hBW
  rcases hk with g | g
  · have e5 := ibeq g
    clear g
    go_wp2_with (go_at_call 36; refine HX.out.mono ?_; rintro e w2 ⟨⟨⟨k', s', n', p', c', xs'⟩, he, ht1, ht2⟩, hb⟩; obtain rfl : e = .returned (.tuple #[.agg #[.int .i64 k', .string s', .int .i64 n', .slice p' xs'.length c'], .bool q2]) := he; have HT1 := Lib.hid ht1; have HT2 := Lib.hid ht2; have HB := Lib.hid hb; have HB1 := Lib.hid (HC.out w2 hb).2; obtain ⟨z0, z1, z2, z3, z4⟩ := box4Q HB1.out; clear ht1 ht2 hb)
    refine bodyPost_ret (v := .tuple #[(QT.mk k' s' n' p' c' xs').v, .bool q2]) (results_ctQ Tryd.results28 _ _ (w.heap.size + 1) 24 _ (0, 0) _ _ rfl rfl (box4Q_all HB1.out _ _ _ _) Tryd.underlying24 rfl (by kernel_rfl)) rfl (rule_pass (q := (q1, q2)) HBW.out hS HT1.out HT2.out HB.out _ _ _ _)
  · have e5 := ibne (show k ≠ 5 by omega)
    have e6 := ibeq g
    clear g
    go_wp2_with (go_at_call 36; refine HX.out.mono ?_; rintro e w2 ⟨⟨⟨k', s', n', p', c', xs'⟩, he, ht1, ht2⟩, hb⟩; obtain rfl : e = .returned (.tuple #[.agg #[.int .i64 k', .string s', .int .i64 n', .slice p' xs'.length c'], .bool q2]) := he; have HT1 := Lib.hid ht1; have HT2 := Lib.hid ht2; have HB := Lib.hid hb; have HB1 := Lib.hid (HC.out w2 hb).2; obtain ⟨z0, z1, z2, z3, z4⟩ := box4Q HB1.out; clear ht1 ht2 hb)
    refine bodyPost_ret (v := .tuple #[(QT.mk k' s' n' p' c' xs').v, .bool q2]) (results_ctQ Tryd.results28 _ _ (w.heap.size + 1) 24 _ (0, 0) _ _ rfl rfl (box4Q_all HB1.out _ _ _ _) Tryd.underlying24 rfl (by kernel_rfl)) rfl (rule_pass (q := (q1, q2)) HBW.out hS HT1.out HT2.out HB.out _ _ _ _)

set_option maxHeartbeats 8000000 in
set_option maxRecDepth 100000 in
theorem ruleB_ok (k : Int) (hk : k = 8 ∨ k = 10) (s : ByteArray) (n : Int) (p : Option Addr) (c : Nat) (xs : List QT) (w0 w : World) (hw0 : Below w0.heap.size w0 w) (m : Nat) (hq : QIn w0 (.mk k s n p c xs)) (hT : TxtTabs w) (hE : qE qpat (qabs (.mk k s n p c xs)) = 0) :
    Calls Tryd.prog 28 #[(QT.mk k s n p c xs).v] w (RulePost (.mk k s n p c xs) m (qrule (qabs (.mk k s n p c xs))) w0 w) := by
  obtain ⟨h60, hch⟩ := qE_chk hE
  obtain ⟨hnd, hxs⟩ := qchk_zero.1 (show qchk qpat (.mk k s.data.toList n (qabss xs)) = 0 from hch)
  have hl : (qabss xs).length = 1 := by rcases node_cases hnd with h | h | h | h | h | h | h | h | h | h <;> first | (exfalso; omega) | exact h.2.1
  obtain ⟨y, rfl⟩ := kl_one hl
  obtain ⟨W, hW, hBW, hS, hC⟩ := arg2r w (.int .i64 k) (.string s) (.int .i64 n) (.slice p 1 c)
  have HC := Lib.hid hC
  have HBW := Lib.hid hBW
  have hww : Below w0.heap.size w0 W := hw0.trans (hBW.mono hw0.size)
  have hTW := hT.below hBW
  obtain ⟨B0, B1⟩ := HC.out W (Below.refl _ _)
  have HB1 := Lib.hid B1
  obtain ⟨k0, k1, k2, k3, _⟩ := box4Q B0
  obtain ⟨r0, r1, r2, r3, r4⟩ := box4Q B1
  have hcall := walks_ok 8 10 (by omega) k hk s n p c y w0 W hww m hq hch
  rw [← show qrule (qabs (.mk k s n p c [y])) = qwalks 8 10 k s.data.toList n (qabs y) from by
    show (if k = 5 ∨ k = 6 then _ else if k = 8 ∨ k = 10 then _ else if k = 9 ∨ k = 11 then _ else _) = _
    rw [if_neg (by omega), if_pos hk]
    try rfl] at hcall
  generalize qrule (qabs (.mk k s n p c [y])) = Q at hcall ⊢
  obtain ⟨q1, q2⟩ := Q
  have HX := Lib.hid hcall
  show Calls Tryd.prog 28 #[.agg #[.int .i64 k, .string s, .int .i64 n, .slice p 1 c]] w _
  go_enter Tryd.func28, Tryd.ntmps28
  go_upto_region 1 with fail
  rw [← hW]
  clear hcall hW hq hE h60 hch hnd hxs hl B0 B1 hww hTW hT hC hBW
  rcases hk with g | g
  · have e5 := ibne (show k ≠ 5 by omega)
    have e6 := ibne (show k ≠ 6 by omega)
    have e8 := ibeq g
    clear g
    go_wp2_with (go_at_call 37; refine HX.out.mono ?_; rintro e w2 ⟨⟨⟨k', s', n', p', c', xs'⟩, he, ht1, ht2⟩, hb⟩; obtain rfl : e = .returned (.tuple #[.agg #[.int .i64 k', .string s', .int .i64 n', .slice p' xs'.length c'], .bool q2]) := he; have HT1 := Lib.hid ht1; have HT2 := Lib.hid ht2; have HB := Lib.hid hb; have HB1 := Lib.hid (HC.out w2 hb).2; obtain ⟨z0, z1, z2, z3, z4⟩ := box4Q HB1.out; clear ht1 ht2 hb)
    refine bodyPost_ret (v := .tuple #[(QT.mk k' s' n' p' c' xs').v, .bool q2]) (results_ctQ Tryd.results28 _ _ (w.heap.size + 1) 24 _ (0, 0) _ _ rfl rfl (box4Q_all HB1.out _ _ _ _) Tryd.underlying24 rfl (by kernel_rfl)) rfl (rule_pass (q := (q1, q2)) HBW.out hS HT1.out HT2.out HB.out _ _ _ _)
  · have e5 := ibne (show k ≠ 5 by omega)
    have e6 := ibne (show k ≠ 6 by omega)
    have e8 := ibne (show k ≠ 8 by omega)
    have e10 := ibeq g
    clear g
    go_wp2_with (go_at_call 37; refine HX.out.mono ?_; rintro e w2 ⟨⟨⟨k', s', n', p', c', xs'⟩, he, ht1, ht2⟩, hb⟩; obtain rfl : e = .returned (.tuple #[.agg #[.int .i64 k', .string s', .int .i64 n', .slice p' xs'.length c'], .bool q2]) := he; have HT1 := Lib.hid ht1; have HT2 := Lib.hid ht2; have HB := Lib.hid hb; have HB1 := Lib.hid (HC.out w2 hb).2; obtain ⟨z0, z1, z2, z3, z4⟩ := box4Q HB1.out; clear ht1 ht2 hb)
    refine bodyPost_ret (v := .tuple #[(QT.mk k' s' n' p' c' xs').v, .bool q2]) (results_ctQ Tryd.results28 _ _ (w.heap.size + 1) 24 _ (0, 0) _ _ rfl rfl (box4Q_all HB1.out _ _ _ _) Tryd.underlying24 rfl (by kernel_rfl)) rfl (rule_pass (q := (q1, q2)) HBW.out hS HT1.out HT2.out HB.out _ _ _ _)

set_option maxHeartbeats 8000000 in
set_option maxRecDepth 100000 in
theorem ruleC_ok (k : Int) (hk : k = 9 ∨ k = 11) (s : ByteArray) (n : Int) (p : Option Addr) (c : Nat) (xs : List QT) (w0 w : World) (hw0 : Below w0.heap.size w0 w) (m : Nat) (hq : QIn w0 (.mk k s n p c xs)) (hT : TxtTabs w) (hE : qE qpat (qabs (.mk k s n p c xs)) = 0) :
    Calls Tryd.prog 28 #[(QT.mk k s n p c xs).v] w (RulePost (.mk k s n p c xs) m (qrule (qabs (.mk k s n p c xs))) w0 w) := by
  obtain ⟨h60, hch⟩ := qE_chk hE
  obtain ⟨hnd, hxs⟩ := qchk_zero.1 (show qchk qpat (.mk k s.data.toList n (qabss xs)) = 0 from hch)
  have hl : (qabss xs).length = 1 := by rcases node_cases hnd with h | h | h | h | h | h | h | h | h | h <;> first | (exfalso; omega) | exact h.2.1
  obtain ⟨y, rfl⟩ := kl_one hl
  obtain ⟨W, hW, hBW, hS, hC⟩ := arg2r w (.int .i64 k) (.string s) (.int .i64 n) (.slice p 1 c)
  have HC := Lib.hid hC
  have HBW := Lib.hid hBW
  have hww : Below w0.heap.size w0 W := hw0.trans (hBW.mono hw0.size)
  have hTW := hT.below hBW
  obtain ⟨B0, B1⟩ := HC.out W (Below.refl _ _)
  have HB1 := Lib.hid B1
  obtain ⟨k0, k1, k2, k3, _⟩ := box4Q B0
  obtain ⟨r0, r1, r2, r3, r4⟩ := box4Q B1
  have hcall := walks_ok 9 11 (by omega) k hk s n p c y w0 W hww m hq hch
  rw [← show qrule (qabs (.mk k s n p c [y])) = qwalks 9 11 k s.data.toList n (qabs y) from by
    show (if k = 5 ∨ k = 6 then _ else if k = 8 ∨ k = 10 then _ else if k = 9 ∨ k = 11 then _ else _) = _
    rw [if_neg (by omega), if_neg (by omega), if_pos hk]
    try rfl] at hcall
  generalize qrule (qabs (.mk k s n p c [y])) = Q at hcall ⊢
  obtain ⟨q1, q2⟩ := Q
  have HX := Lib.hid hcall
  show Calls Tryd.prog 28 #[.agg #[.int .i64 k, .string s, .int .i64 n, .slice p 1 c]] w _
  go_enter Tryd.func28, Tryd.ntmps28
  go_upto_region 1 with fail
  rw [← hW]
  clear hcall hW hq hE h60 hch hnd hxs hl B0 B1 hww hTW hT hC hBW
  rcases hk with g | g
  · have e5 := ibne (show k ≠ 5 by omega)
    have e6 := ibne (show k ≠ 6 by omega)
    have e8 := ibne (show k ≠ 8 by omega)
    have e10 := ibne (show k ≠ 10 by omega)
    have e9 := ibeq g
    clear g
    go_wp2_with (go_at_call 37; refine HX.out.mono ?_; rintro e w2 ⟨⟨⟨k', s', n', p', c', xs'⟩, he, ht1, ht2⟩, hb⟩; obtain rfl : e = .returned (.tuple #[.agg #[.int .i64 k', .string s', .int .i64 n', .slice p' xs'.length c'], .bool q2]) := he; have HT1 := Lib.hid ht1; have HT2 := Lib.hid ht2; have HB := Lib.hid hb; have HB1 := Lib.hid (HC.out w2 hb).2; obtain ⟨z0, z1, z2, z3, z4⟩ := box4Q HB1.out; clear ht1 ht2 hb)
    refine bodyPost_ret (v := .tuple #[(QT.mk k' s' n' p' c' xs').v, .bool q2]) (results_ctQ Tryd.results28 _ _ (w.heap.size + 1) 24 _ (0, 0) _ _ rfl rfl (box4Q_all HB1.out _ _ _ _) Tryd.underlying24 rfl (by kernel_rfl)) rfl (rule_pass (q := (q1, q2)) HBW.out hS HT1.out HT2.out HB.out _ _ _ _)
  · have e5 := ibne (show k ≠ 5 by omega)
    have e6 := ibne (show k ≠ 6 by omega)
    have e8 := ibne (show k ≠ 8 by omega)
    have e10 := ibne (show k ≠ 10 by omega)
    have e9 := ibne (show k ≠ 9 by omega)
    have e11 := ibeq g
    clear g
    go_wp2_with (go_at_call 37; refine HX.out.mono ?_; rintro e w2 ⟨⟨⟨k', s', n', p', c', xs'⟩, he, ht1, ht2⟩, hb⟩; obtain rfl : e = .returned (.tuple #[.agg #[.int .i64 k', .string s', .int .i64 n', .slice p' xs'.length c'], .bool q2]) := he; have HT1 := Lib.hid ht1; have HT2 := Lib.hid ht2; have HB := Lib.hid hb; have HB1 := Lib.hid (HC.out w2 hb).2; obtain ⟨z0, z1, z2, z3, z4⟩ := box4Q HB1.out; clear ht1 ht2 hb)
    refine bodyPost_ret (v := .tuple #[(QT.mk k' s' n' p' c' xs').v, .bool q2]) (results_ctQ Tryd.results28 _ _ (w.heap.size + 1) 24 _ (0, 0) _ _ rfl rfl (box4Q_all HB1.out _ _ _ _) Tryd.underlying24 rfl (by kernel_rfl)) rfl (rule_pass (q := (q1, q2)) HBW.out hS HT1.out HT2.out HB.out _ _ _ _)

set_option maxHeartbeats 8000000 in
set_option maxRecDepth 100000 in
theorem ruleD_ok (k : Int) (hk : ¬ (k = 5 ∨ k = 6) ∧ ¬ (k = 8 ∨ k = 10) ∧ ¬ (k = 9 ∨ k = 11) ∧ ¬ (k = 14 ∨ k = 15) ∧ ¬ k = 7) (s : ByteArray) (n : Int) (p : Option Addr) (c : Nat) (xs : List QT) (w0 w : World) (hw0 : Below w0.heap.size w0 w) (m : Nat) (hq : QIn w0 (.mk k s n p c xs))  :
    Calls Tryd.prog 28 #[(QT.mk k s n p c xs).v] w (RulePost (.mk k s n p c xs) m (qrule (qabs (.mk k s n p c xs))) w0 w) := by
  obtain ⟨W, hW, hBW, hS, hC⟩ := arg2r w (.int .i64 k) (.string s) (.int .i64 n) (.slice p xs.length c)
  have HC := Lib.hid hC
  have HBW := Lib.hid hBW
  have hww : Below w0.heap.size w0 W := hw0.trans (hBW.mono hw0.size)
  obtain ⟨B0, B1⟩ := HC.out W (Below.refl _ _)
  have HB1 := Lib.hid B1
  obtain ⟨k0, k1, k2, k3, _⟩ := box4Q B0
  obtain ⟨r0, r1, r2, r3, r4⟩ := box4Q B1
  have HQE : Hid (qrule (qabs (.mk k s n p c xs)) = (qabs (.mk k s n p c xs), false)) := by
    show (if k = 5 ∨ k = 6 then _ else if k = 8 ∨ k = 10 then _ else if k = 9 ∨ k = 11 then _ else if k = 14 ∨ k = 15 then _ else if k = 7 then _ else _) = _
    rw [if_neg hk.1, if_neg hk.2.1, if_neg hk.2.2.1, if_neg hk.2.2.2.1, if_neg hk.2.2.2.2]
    rfl
  have HQ := Lib.hid hq
  have e5 := ibne (show k ≠ 5 by omega)
  have e6 := ibne (show k ≠ 6 by omega)
  have e8 := ibne (show k ≠ 8 by omega)
  have e10 := ibne (show k ≠ 10 by omega)
  have e9 := ibne (show k ≠ 9 by omega)
  have e11 := ibne (show k ≠ 11 by omega)
  have e14 := ibne (show k ≠ 14 by omega)
  have e15 := ibne (show k ≠ 15 by omega)
  have e7 := ibne (show k ≠ 7 by omega)
  show Calls Tryd.prog 28 #[.agg #[.int .i64 k, .string s, .int .i64 n, .slice p xs.length c]] w _
  go_enter Tryd.func28, Tryd.ntmps28
  go_upto_region 1 with fail
  rw [← hW]
  clear hk hW hq B0 B1 hww hC hBW
  go_wp2
  refine bodyPost_ret (v := .tuple #[(QT.mk k s n p c xs).v, .bool false]) (results_ctQ Tryd.results28 _ _ (w.heap.size + 1) 24 _ (0, 0) _ _ rfl rfl (box4Q_all HB1.out _ _ _ _) Tryd.underlying24 rfl (by kernel_rfl)) rfl (rule_out (below_set4Q HBW.out (Nat.le_succ _) _ _ _ _) HQE.out HQ.out id)

set_option maxHeartbeats 8000000 in
set_option maxRecDepth 100000 in
theorem ruleE_ok (k : Int) (hk : k = 14 ∨ k = 15) (s : ByteArray) (n : Int) (p : Option Addr) (c : Nat) (xs : List QT) (w0 w : World) (hw0 : Below w0.heap.size w0 w) (m : Nat) (hq : QIn w0 (.mk k s n p c xs)) (hE : qE qpat (qabs (.mk k s n p c xs)) = 0) :
    Calls Tryd.prog 28 #[(QT.mk k s n p c xs).v] w (RulePost (.mk k s n p c xs) m (qrule (qabs (.mk k s n p c xs))) w0 w) := by
  have hch := (qE_chk hE).2
  obtain ⟨hnd, _⟩ := qchk_zero.1 (show qchk qpat (.mk k s.data.toList n (qabss xs)) = 0 from hch)
  have hl : (qabss xs).length = 1 := by rcases node_cases hnd with h | h | h | h | h | h | h | h | h | h <;> first | (exfalso; omega) | exact h.2.1
  obtain ⟨y, rfl⟩ := kl_one hl
  obtain ⟨b, o, rfl, hb0, hf0, hqy⟩ := kid_one hq
  have hb : b < w.heap.size := Nat.lt_of_lt_of_le hb0 hw0.size
  have hf := hf0.below hw0 hb0
  have HQ := Lib.hid hq
  have HQY := Lib.hid hqy
  obtain ⟨ky, sy, ny, py, cy, ys⟩ := y
  have HY : Hid (QOw w0 m (.mk k s n (some ⟨b, o, none⟩) c [.mk ky sy ny py cy ys]) → QOw w0 m (.mk ky sy ny py cy ys)) := fun h => h.kids _ (show _ ∈ [_] by simp)
  obtain ⟨W, hW, hBW, hS, hC⟩ := arg2r w (.int .i64 k) (.string s) (.int .i64 n) (.slice (some ⟨b, o, none⟩) 1 c)
  have HC := Lib.hid hC
  have HBW := Lib.hid hBW
  obtain ⟨B0, B1⟩ := HC.out W (Below.refl _ _)
  have HB1 := Lib.hid B1
  obtain ⟨k0, k1, k2, k3, _⟩ := box4Q B0
  obtain ⟨r0, r1, r2, r3, r4⟩ := box4Q B1
  obtain ⟨c0, c1, c2, c3⟩ : W.cell? ⟨b, o, none⟩ = some (.int .i64 ky) ∧ W.cell? ⟨b, o + 1, none⟩ = some (.string sy) ∧ W.cell? ⟨b, o + 2, none⟩ = some (.int .i64 ny) ∧ W.cell? ⟨b, o + 3, none⟩ = some (.slice py ys.length cy) := hf.below hBW hb
  obtain ⟨V, hV⟩ : ∃ V : World, V = W.alloc (.cells #[.int .i64 ky, .string sy, .int .i64 ny, .slice py ys.length cy] 24) := ⟨_, rfl⟩
  have hBV : Below W.heap.size W V := by rw [hV]; exact (Below.refl _ _).alloc (Nat.le_refl _) _
  have HBV := Lib.hid (HBW.out.trans (hBV.mono HBW.out.size))
  obtain ⟨B2, B3⟩ := HC.out V hBV
  have HB3 := Lib.hid B3
  obtain ⟨v0, v1, v2, v3, _⟩ := box4Q B2
  have B4 : V.heap[w.heap.size + 1 + 1]? = some (.cells #[.int .i64 ky, .string sy, .int .i64 ny, .slice py ys.length cy] 24 (0, 0)) := by
    have := hanQ W (.cells #[.int .i64 ky, .string sy, .int .i64 ny, .slice py ys.length cy] 24)
    rw [hS, ← hV] at this
    exact this
  obtain ⟨y0, y1, y2, y3, _⟩ := box4Q B4
  obtain ⟨z0, z1, z2, z3, z4⟩ := box4Q B3
  have hQ : qrule (qabs (.mk k s n (some ⟨b, o, none⟩) c [.mk ky sy ny py cy ys])) = if ky = k ∧ sy.data.toList = s.data.toList ∧ ny = n then (qabs (.mk ky sy ny py cy ys), true) else (qabs (.mk k s n (some ⟨b, o, none⟩) c [.mk ky sy ny py cy ys]), false) := by
    show (if k = 5 ∨ k = 6 then _ else if k = 8 ∨ k = 10 then _ else if k = 9 ∨ k = 11 then _ else if k = 14 ∨ k = 15 then _ else _) = _
    rw [if_neg (by omega), if_neg (by omega), if_neg (by omega), if_pos hk]
    rfl
  have hst := name_beq sy s
  have e5 := ibne (show k ≠ 5 by omega)
  have e6 := ibne (show k ≠ 6 by omega)
  have e8 := ibne (show k ≠ 8 by omega)
  have e10 := ibne (show k ≠ 10 by omega)
  have e9 := ibne (show k ≠ 9 by omega)
  have e11 := ibne (show k ≠ 11 by omega)
  have e14 : (k == 14) = true ∨ (k == 14) = false ∧ (k == 15) = true := by rcases hk with g | g; exact .inl (ibeq g); exact .inr ⟨ibne (by omega), ibeq g⟩
  show Calls Tryd.prog 28 #[.agg #[.int .i64 k, .string s, .int .i64 n, .slice (some ⟨b, o, none⟩) 1 c]] w _
  go_enter Tryd.func28, Tryd.ntmps28
  go_upto_region 1 with fail
  rw [← hW]
  clear hW hq hE hch hnd hl hk B0 B1 hC hBW hqy hf hf0 hb hb0
  rcases e14 with e14 | ⟨e14, e15⟩
  all_goals
    go_upto_region 14 with fail
    rw [← hV]
    clear hV hBV k0 k1 k2 k3 r0 r1 r2 r3 r4 c0 c1 c2 c3 B2 B3 B4
    by_cases g1 : ky = k
    · have f1 := ibeq g1
      by_cases g2 : sy.data.toList = s.data.toList
      · have f2 : (sy.toList == s.toList) = true := by rw [hst]; exact decide_eq_true g2
        by_cases g3 : ny = n
        · have f3 := ibeq g3
          have HQE : Hid (qrule (qabs (.mk k s n (some ⟨b, o, none⟩) c [.mk ky sy ny py cy ys])) = (qabs (.mk ky sy ny py cy ys), true)) := by show _ = _; rw [hQ, if_pos ⟨g1, g2, g3⟩]
          clear hQ g1 g2 g3 hst
          go_wp2
          refine bodyPost_ret (v := .tuple #[(QT.mk ky sy ny py cy ys).v, .bool true]) (results_ctQ Tryd.results28 _ _ (w.heap.size + 1) 24 _ (0, 0) _ _ rfl rfl (box4Q_all HB3.out _ _ _ _) Tryd.underlying24 rfl (by kernel_rfl)) rfl (rule_out (below_set4Q HBV.out (Nat.le_succ _) _ _ _ _) HQE.out HQY.out HY.out)
        · have f3 := ibne g3
          have HQE : Hid (qrule (qabs (.mk k s n (some ⟨b, o, none⟩) c [.mk ky sy ny py cy ys])) = (qabs (.mk k s n (some ⟨b, o, none⟩) c [.mk ky sy ny py cy ys]), false)) := by show _ = _; rw [hQ, if_neg (fun h => g3 h.2.2)]
          clear hQ g1 g2 g3 hst
          go_wp2
          refine bodyPost_ret (v := .tuple #[(QT.mk k s n (some ⟨b, o, none⟩) c [.mk ky sy ny py cy ys]).v, .bool false]) (results_ctQ Tryd.results28 _ _ (w.heap.size + 1) 24 _ (0, 0) _ _ rfl rfl (box4Q_all HB3.out _ _ _ _) Tryd.underlying24 rfl (by kernel_rfl)) rfl (rule_out (below_set4Q HBV.out (Nat.le_succ _) _ _ _ _) HQE.out HQ.out id)
      · have f2 : (sy.toList == s.toList) = false := by rw [hst]; exact decide_eq_false g2
        have HQE : Hid (qrule (qabs (.mk k s n (some ⟨b, o, none⟩) c [.mk ky sy ny py cy ys])) = (qabs (.mk k s n (some ⟨b, o, none⟩) c [.mk ky sy ny py cy ys]), false)) := by show _ = _; rw [hQ, if_neg (fun h => g2 h.2.1)]
        clear hQ g1 g2 hst
        go_wp2
        refine bodyPost_ret (v := .tuple #[(QT.mk k s n (some ⟨b, o, none⟩) c [.mk ky sy ny py cy ys]).v, .bool false]) (results_ctQ Tryd.results28 _ _ (w.heap.size + 1) 24 _ (0, 0) _ _ rfl rfl (box4Q_all HB3.out _ _ _ _) Tryd.underlying24 rfl (by kernel_rfl)) rfl (rule_out (below_set4Q HBV.out (Nat.le_succ _) _ _ _ _) HQE.out HQ.out id)
    · have f1 := ibne g1
      have HQE : Hid (qrule (qabs (.mk k s n (some ⟨b, o, none⟩) c [.mk ky sy ny py cy ys])) = (qabs (.mk k s n (some ⟨b, o, none⟩) c [.mk ky sy ny py cy ys]), false)) := by show _ = _; rw [hQ, if_neg (fun h => g1 h.1)]
      clear hQ g1 hst
      go_wp2
      refine bodyPost_ret (v := .tuple #[(QT.mk k s n (some ⟨b, o, none⟩) c [.mk ky sy ny py cy ys]).v, .bool false]) (results_ctQ Tryd.results28 _ _ (w.heap.size + 1) 24 _ (0, 0) _ _ rfl rfl (box4Q_all HB3.out _ _ _ _) Tryd.underlying24 rfl (by kernel_rfl)) rfl (rule_out (below_set4Q HBV.out (Nat.le_succ _) _ _ _ _) HQE.out HQ.out id)
end Go.Proofs.YtcegmcnknkjcpaaDoor
