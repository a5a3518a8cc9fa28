/- The walks of norm.two, norm.walks and norm.rule. Conditions: the ask lies in memory and is well formed; the tables read as listed. -/
import Derived.Test.YtcegmcnknkjcpaaDoorAskText2W
import Derived.Test.YtcegmcnknkjcpaaDoorNormP
import Derived.Test.YtcegmcnknkjcpaaDoorAskAppW
import Derived.Test.YtcegmcnknkjcpaaDoorBoxQ
import Derived.Deep.RegionHeld3
namespace Go.Proofs.YtcegmcnknkjcpaaDoor
open Go.RowKit Go.Shelf
/-- a list of two that was laid anew -/
def NewTwo (t' : QT) (n : Nat) (t : QT) (w0 w w' : World) : Prop :=
  ∃ (k : Int) (nb : Nat) (a b : QT), t' = .mk k ⟨#[]⟩ 0 (some ⟨nb, 0, none⟩) 2 [a, b] ∧ QIn w0 a ∧ QIn w0 b ∧ w.heap.size ≤ nb ∧
    w'.heap[nb]? = some (.cells #[.int .i64 a.kind, .string a.name, .int .i64 a.num, .slice a.p a.xs.length a.cap, .int .i64 b.kind, .string b.name, .int .i64 b.num, .slice b.p b.xs.length b.cap] 24 (0, 0)) ∧ (QOw w0 n t → QOw w0 n a ∧ QOw w0 n b)
/-- what a rule answers: an ask out of those that lay there, or of two of them, and whether a rule fitted -/
def RulePost (t : QT) (n : Nat) (q : QA × Bool) (w0 w : World) (e : Ending) (w' : World) : Prop :=
  (∃ t' : QT, e = .returned (.tuple #[t'.v, .bool q.2]) ∧ qabs t' = q.1 ∧ ((QIn w0 t' ∧ (QOw w0 n t → QOw w0 n t')) ∨ NewTwo t' n t w0 w w')) ∧ Below w.heap.size w w'
theorem rule_out {w0 w u : World} {t t' : QT} {n : Nat} {q : QA × Bool} {b : Bool} (hb : Below w.heap.size w u) (h1 : q = (qabs t', b)) (h3 : QIn w0 t') (h4 : QOw w0 n t → QOw w0 n t') : RulePost t n q w0 w (.returned (.tuple #[t'.v, .bool b])) u := by
  subst h1
  exact ⟨⟨t', rfl, rfl, .inl ⟨h3, h4⟩⟩, hb⟩
theorem rule_new {w0 w u : World} {t t' : QT} {n : Nat} {q : QA × Bool} {b : Bool} (hb : Below w.heap.size w u) (h1 : q = (qabs t', b)) (h : NewTwo t' n t w0 w u) : RulePost t n q w0 w (.returned (.tuple #[t'.v, .bool b])) u := by
  subst h1
  exact ⟨⟨t', rfl, rfl, .inr h⟩, hb⟩
/-- behind a rule, where what lay there and the new list stay -/
theorem NewTwo.there {t' : QT} {n : Nat} {t : QT} {w0 w w' u : World} (h : NewTwo t' n t w0 w w') (hu : Below w0.heap.size w0 u) (hs : w'.heap.size ≤ u.heap.size) (hk : ∀ b, w.heap.size ≤ b → b < w'.heap.size → u.heap[b]? = w'.heap[b]?) :
    QIn u t' ∧ (n ≤ w.heap.size → QOw w0 n t → QOw u n t') := by
  obtain ⟨k, nb, a, b, rfl, ha, hb, hnb, hh, ho⟩ := h
  have hlt := (Array.getElem?_eq_some_iff.1 hh).1
  have hh2 := (hk nb hnb hlt).trans hh
  have hc : ∀ i v, #[Value.int .i64 a.kind, .string a.name, .int .i64 a.num, .slice a.p a.xs.length a.cap, .int .i64 b.kind, .string b.name, .int .i64 b.num, .slice b.p b.xs.length b.cap][i]? = some v → u.cell? ⟨nb, i, none⟩ = some v := by
    intro i v hv
    simp only [World.cell?, hh2]
    exact hv
  refine ⟨QIn.of (by show 0 ≤ _; omega) (by show 2 ≤ 2; omega) (by show 2 ≤ _; omega) (QsIn.mk fun j x hx => ?_), fun hn h => ?_⟩
  · match j, hx with
    | 0, hx =>
      have hx : some a = some x := hx
      injection hx with hx
      subst hx
      exact ⟨⟨nb, 0, rfl, by omega, hc 0 _ rfl, hc 1 _ rfl, hc 2 _ rfl, hc 3 _ rfl⟩, ha.below hu⟩
    | 1, hx =>
      have hx : some b = some x := hx
      injection hx with hx
      subst hx
      exact ⟨⟨nb, 0, rfl, by omega, hc 4 _ rfl, hc 5 _ rfl, hc 6 _ rfl, hc 7 _ rfl⟩, hb.below hu⟩
    | j + 2, hx => exact absurd hx (by show ([] : List QT)[j]? ≠ _; simp)
  · obtain ⟨h1, h2⟩ := ho h
    refine .mk (.inr ⟨nb, _, rfl, by omega, by omega, hh2, rfl, by decide⟩) fun x hx => ?_
    simp at hx
    rcases hx with rfl | rfl
    · exact h1.later hu
    · exact h2.later hu
theorem kid_one {w : World} {k : Int} {s : ByteArray} {n : Int} {p : Option Addr} {c : Nat} {y : QT} (h : QIn w (.mk k s n p c [y])) : ∃ b o, p = some ⟨b, o, none⟩ ∧ b < w.heap.size ∧ Four w b o y ∧ QIn w y := by
  obtain ⟨⟨b, o, h1, h2, h3⟩, h4⟩ := h.kids.at (j := 0) (x := y) rfl
  exact ⟨b, o, h1, h2, by simpa using h3, h4⟩
theorem ibeq {x y : Int} (h : x = y) : (x == y) = true := by rw [beq_iff_eq]; exact h
theorem ibne {x y : Int} (h : x ≠ y) : (x == y) = false := by rw [beq_eq_false_iff_ne]; exact h
set_option maxHeartbeats 8000000 in
set_option maxRecDepth 100000 in
theorem walks_ok (wh pt : Int) (hwp : (wh = 8 ∧ pt = 10) ∨ (wh = 9 ∧ pt = 11)) (k : Int) (hk : k = wh ∨ k = pt) (s : ByteArray) (n : Int) (p : Option Addr) (c : Nat) (y : QT) (w0 w : World) (hw0 : Below w0.heap.size w0 w) (m : Nat) (hq : QIn w0 (.mk k s n p c [y])) (hch : qchk qpat (qabs (.mk k s n p c [y])) = 0) :
    Calls Tryd.prog 37 #[(QT.mk k s n p c [y]).v, .int .i64 wh, .int .i64 pt] w (RulePost (.mk k s n p c [y]) m (qwalks wh pt k s.data.toList n (qabs y)) w0 w) := by
  obtain ⟨hnd, hys⟩ := qchk_zero.1 (show qchk qpat (.mk k s.data.toList n [qabs y]) = 0 from hch)
  have hcy := hys (qabs y) (by simp)
  obtain ⟨b, o, rfl, hb0, hf0, hqy⟩ := kid_one hq
  have hb : b < w.heap.size := Nat.lt_of_lt_of_le hb0 hw0.size
  have hf := hf0.below hw0 hb0
  have HQ := Lib.hid hq
  have HQY := Lib.hid hqy
  have hn : 0 ≤ n ∧ n ≤ 100 := by rcases node_cases hnd with h | h | h | h | h | h | h | h | h | h <;> omega
  obtain ⟨ky, sy, ny, py, cy, ys⟩ := y
  have hyn : ky = pt → 0 ≤ ny ∧ ny ≤ 100 := by
    intro e
    have hnd2 := (qchk_zero.1 (show qchk qpat (.mk ky sy.data.toList ny (qabss ys)) = 0 from hcy)).1
    rcases node_cases hnd2 with h | h | h | h | h | h | h | h | h | h <;> omega
  obtain ⟨W, hW, hBW, hS, hC⟩ := arg2r w (.int .i64 k) (.string s) (.int .i64 n) (.slice (some ⟨b, o, none⟩) 1 c)
  have HC := Lib.hid hC
  have HBW := Lib.hid hBW
  obtain ⟨B0, B1⟩ := HC.out W (Below.refl _ _)
  obtain ⟨k0, k1, k2, k3, _⟩ := box4Q B0
  obtain ⟨c0, c1, c2, c3⟩ : W.cell? ⟨b, o, none⟩ = some (.int .i64 ky) ∧ W.cell? ⟨b, o + 1, none⟩ = some (.string sy) ∧ W.cell? ⟨b, o + 2, none⟩ = some (.int .i64 ny) ∧ W.cell? ⟨b, o + 3, none⟩ = some (.slice py ys.length cy) := hf.below hBW hb
  obtain ⟨V, hV⟩ : ∃ V : World, V = W.alloc (.cells #[.int .i64 ky, .string sy, .int .i64 ny, .slice py ys.length cy] 24) := ⟨_, rfl⟩
  have hBV : Below W.heap.size W V := by rw [hV]; exact (Below.refl _ _).alloc (Nat.le_refl _) _
  have HBV := Lib.hid (HBW.out.trans (hBV.mono HBW.out.size))
  obtain ⟨B2, B3⟩ := HC.out V hBV
  have HB3 := Lib.hid B3
  obtain ⟨v0, v1, v2, v3, _⟩ := box4Q B2
  have B4 : V.heap[w.heap.size + 1 + 1]? = some (.cells #[.int .i64 ky, .string sy, .int .i64 ny, .slice py ys.length cy] 24 (0, 0)) := by
    have := hanQ W (.cells #[.int .i64 ky, .string sy, .int .i64 ny, .slice py ys.length cy] 24)
    rw [hS, ← hV] at this
    exact this
  obtain ⟨y0, y1, y2, y3, _⟩ := box4Q B4
  obtain ⟨r0, r1, r2, r3, r4⟩ := box4Q B3
  show Calls Tryd.prog 37 #[.agg #[.int .i64 k, .string s, .int .i64 n, .slice (some ⟨b, o, none⟩) 1 c], .int .i64 wh, .int .i64 pt] w _
  have hQ : qwalks wh pt k s.data.toList n (qabs (.mk ky sy ny py cy ys)) =
      if k = pt ∧ n = 0 then (qabs (.mk ky sy ny py cy ys), true) else if ky = 2 then (qabs (.mk ky sy ny py cy ys), true)
      else if k = wh ∧ (ky = wh ∨ ky = pt) then (.mk wh [] 0 (qabss ys), true) else if ky = wh then (qabs (.mk ky sy ny py cy ys), true)
      else if ky = pt ∧ n + ny ≤ 100 then (.mk pt [] (n + ny) (qabss ys), true) else (.mk k s.data.toList n [qabs (.mk ky sy ny py cy ys)], false) := rfl
  have HEND : Hid (∀ (t' : QT) (B : Bool), qwalks wh pt k s.data.toList n (qabs (.mk ky sy ny py cy ys)) = (qabs t', B) → QIn w0 t' → (QOw w0 m (.mk k s n (some ⟨b, o, none⟩) c [.mk ky sy ny py cy ys]) → QOw w0 m t') →
      RulePost (.mk k s n (some ⟨b, o, none⟩) c [.mk ky sy ny py cy ys]) m (qwalks wh pt k s.data.toList n (qabs (.mk ky sy ny py cy ys))) w0 w (.returned (.tuple #[t'.v, .bool B]))
        ((((V.setCell ⟨w.heap.size + 1, 0, none⟩ (.int .i64 t'.kind)).setCell ⟨w.heap.size + 1, 1, none⟩ (.string t'.name)).setCell ⟨w.heap.size + 1, 2, none⟩ (.int .i64 t'.num)).setCell ⟨w.heap.size + 1, 3, none⟩ (.slice t'.p t'.xs.length t'.cap))) := by
    show ∀ (t' : QT) (B : Bool), _
    intro t' B h1 h2 h3
    exact rule_out (below_set4Q HBV.out (Nat.le_succ _) _ _ _ _) h1 h2 h3
  have HY : Hid (QOw w0 m (.mk k s n (some ⟨b, o, none⟩) c [.mk ky sy ny py cy ys]) → QOw w0 m (.mk ky sy ny py cy ys)) := fun h => h.kids _ (show _ ∈ [_] by simp)
  have HX : Hid (∀ (k' n' : Int), QIn w0 (.mk k' ⟨#[]⟩ n' py cy ys) ∧ (QOw w0 m (.mk k s n (some ⟨b, o, none⟩) c [.mk ky sy ny py cy ys]) → QOw w0 m (.mk k' ⟨#[]⟩ n' py cy ys))) := by
    show ∀ k' n' : Int, _
    intro k' n'
    have h1 := HQY.out
    refine ⟨QIn.of (by show 0 ≤ _; omega) h1.small.2.1 h1.small.2.2 h1.kids, fun h => ?_⟩
    have h2 := HY.out h
    exact QOw.of h2.place h2.kids
  go_enter Tryd.func37, Tryd.ntmps37
  rw [hW] at k0 k1 k2 k3 c0 c1 c2 c3
  go_upto_region 2 with fail
  rw [← hW, ← hV]
  clear hW hV hq hch hnd hys hcy hqy hf hf0 hb hb0 hBW hC B0 B1 B2 B3 B4 hBV k0 k1 k2 k3 c0 c1 c2 c3 hS HBV HBW HC
  by_cases g1 : k = pt
  · have e1 := ibeq g1
    by_cases g2 : n = 0
    · have e2 := ibeq g2
      have HQE : Hid (qwalks wh pt k s.data.toList n (qabs (.mk ky sy ny py cy ys)) = (qabs (QT.mk ky sy ny py cy ys), true)) := by show _ = _; rw [hQ, if_pos ⟨g1, g2⟩]; try rfl
      clear hQ g1 g2
      go_wp2
      refine bodyPost_ret (v := .tuple #[(QT.mk ky sy ny py cy ys).v, .bool true]) (results_ctQ Tryd.results37 _ _ (w.heap.size + 1) 24 _ (0, 0) _ _ rfl rfl (box4Q_all HB3.out _ _ _ _) Tryd.underlying24 rfl (by kernel_rfl)) rfl (HEND.out (QT.mk ky sy ny py cy ys) true HQE.out (HQY.out) (HY.out))
    have e2 := ibne g2
    have gk : ¬ k = wh := by omega
    have e3 := ibne gk
    by_cases g3 : ky = 2
    · have e4 := ibeq g3
      have HQE : Hid (qwalks wh pt k s.data.toList n (qabs (.mk ky sy ny py cy ys)) = (qabs (QT.mk ky sy ny py cy ys), true)) := by show _ = _; rw [hQ, if_neg (fun h => g2 h.2), if_pos g3]; try rfl
      clear hQ g1 g2 gk g3
      go_wp2
      refine bodyPost_ret (v := .tuple #[(QT.mk ky sy ny py cy ys).v, .bool true]) (results_ctQ Tryd.results37 _ _ (w.heap.size + 1) 24 _ (0, 0) _ _ rfl rfl (box4Q_all HB3.out _ _ _ _) Tryd.underlying24 rfl (by kernel_rfl)) rfl (HEND.out (QT.mk ky sy ny py cy ys) true HQE.out (HQY.out) (HY.out))
    have e4 := ibne g3
    by_cases g4 : ky = wh
    · have e5 := ibeq g4
      have HQE : Hid (qwalks wh pt k s.data.toList n (qabs (.mk ky sy ny py cy ys)) = (qabs (QT.mk ky sy ny py cy ys), true)) := by show _ = _; rw [hQ, if_neg (fun h => g2 h.2), if_neg g3, if_neg (fun h => gk h.1), if_pos g4]; try rfl
      clear hQ g1 g2 gk g3 g4
      go_wp2
      refine bodyPost_ret (v := .tuple #[(QT.mk ky sy ny py cy ys).v, .bool true]) (results_ctQ Tryd.results37 _ _ (w.heap.size + 1) 24 _ (0, 0) _ _ rfl rfl (box4Q_all HB3.out _ _ _ _) Tryd.underlying24 rfl (by kernel_rfl)) rfl (HEND.out (QT.mk ky sy ny py cy ys) true HQE.out (HQY.out) (HY.out))
    have e5 := ibne g4
    by_cases g5 : ky = pt
    · have e6 := ibeq g5
      obtain ⟨l1, l2⟩ := hyn g5
      by_cases g6 : n + ny ≤ 100
      · have hw6 : True := trivial
        have HQE : Hid (qwalks wh pt k s.data.toList n (qabs (.mk ky sy ny py cy ys)) = (qabs (QT.mk pt ⟨#[]⟩ (n + ny) py cy ys), true)) := by show _ = _; rw [hQ, if_neg (fun h => g2 h.2), if_neg g3, if_neg (fun h => gk h.1), if_neg g4, if_pos ⟨g5, g6⟩]; try rfl
        clear hQ g1 g2 gk g3 g4 g5
        go_wp2
        refine bodyPost_ret (v := .tuple #[(QT.mk pt ⟨#[]⟩ (n + ny) py cy ys).v, .bool true]) (results_ctQ Tryd.results37 _ _ (w.heap.size + 1) 24 _ (0, 0) _ _ rfl rfl (box4Q_all HB3.out _ _ _ _) Tryd.underlying24 rfl (by kernel_rfl)) rfl (HEND.out (QT.mk pt ⟨#[]⟩ (n + ny) py cy ys) true HQE.out ((HX.out pt (n + ny)).1) ((HX.out pt (n + ny)).2))
      · have hw6 : True := trivial
        have HQE : Hid (qwalks wh pt k s.data.toList n (qabs (.mk ky sy ny py cy ys)) = (qabs (QT.mk k s n (some ⟨b, o, none⟩) c [QT.mk ky sy ny py cy ys]), false)) := by show _ = _; rw [hQ, if_neg (fun h => g2 h.2), if_neg g3, if_neg (fun h => gk h.1), if_neg g4, if_neg (fun h => g6 h.2)]; try rfl
        clear hQ g1 g2 gk g3 g4 g5
        go_wp2
        refine bodyPost_ret (v := .tuple #[(QT.mk k s n (some ⟨b, o, none⟩) c [QT.mk ky sy ny py cy ys]).v, .bool false]) (results_ctQ Tryd.results37 _ _ (w.heap.size + 1) 24 _ (0, 0) _ _ rfl rfl (box4Q_all HB3.out _ _ _ _) Tryd.underlying24 rfl (by kernel_rfl)) rfl (HEND.out (QT.mk k s n (some ⟨b, o, none⟩) c [QT.mk ky sy ny py cy ys]) false HQE.out (HQ.out) (id))
    · have e6 := ibne g5
      have HQE : Hid (qwalks wh pt k s.data.toList n (qabs (.mk ky sy ny py cy ys)) = (qabs (QT.mk k s n (some ⟨b, o, none⟩) c [QT.mk ky sy ny py cy ys]), false)) := by show _ = _; rw [hQ, if_neg (fun h => g2 h.2), if_neg g3, if_neg (fun h => gk h.1), if_neg g4, if_neg (fun h => g5 h.1)]; try rfl
      clear hQ g1 g2 gk g3 g4 g5
      go_wp2
      refine bodyPost_ret (v := .tuple #[(QT.mk k s n (some ⟨b, o, none⟩) c [QT.mk ky sy ny py cy ys]).v, .bool false]) (results_ctQ Tryd.results37 _ _ (w.heap.size + 1) 24 _ (0, 0) _ _ rfl rfl (box4Q_all HB3.out _ _ _ _) Tryd.underlying24 rfl (by kernel_rfl)) rfl (HEND.out (QT.mk k s n (some ⟨b, o, none⟩) c [QT.mk ky sy ny py cy ys]) false HQE.out (HQ.out) (id))
  · have e1 := ibne g1
    have gk : k = wh := by omega
    have e3 := ibeq gk
    by_cases g3 : ky = 2
    · have e4 := ibeq g3
      have HQE : Hid (qwalks wh pt k s.data.toList n (qabs (.mk ky sy ny py cy ys)) = (qabs (QT.mk ky sy ny py cy ys), true)) := by show _ = _; rw [hQ, if_neg (fun h => g1 h.1), if_pos g3]; try rfl
      clear hQ g1 gk g3
      go_wp2
      refine bodyPost_ret (v := .tuple #[(QT.mk ky sy ny py cy ys).v, .bool true]) (results_ctQ Tryd.results37 _ _ (w.heap.size + 1) 24 _ (0, 0) _ _ rfl rfl (box4Q_all HB3.out _ _ _ _) Tryd.underlying24 rfl (by kernel_rfl)) rfl (HEND.out (QT.mk ky sy ny py cy ys) true HQE.out (HQY.out) (HY.out))
    have e4 := ibne g3
    by_cases g4 : ky = wh
    · have e5 := ibeq g4
      have HQE : Hid (qwalks wh pt k s.data.toList n (qabs (.mk ky sy ny py cy ys)) = (qabs (QT.mk wh ⟨#[]⟩ 0 py cy ys), true)) := by show _ = _; rw [hQ, if_neg (fun h => g1 h.1), if_neg g3, if_pos ⟨gk, .inl g4⟩]; try rfl
      clear hQ g1 gk g3 g4
      go_wp2
      refine bodyPost_ret (v := .tuple #[(QT.mk wh ⟨#[]⟩ 0 py cy ys).v, .bool true]) (results_ctQ Tryd.results37 _ _ (w.heap.size + 1) 24 _ (0, 0) _ _ rfl rfl (box4Q_all HB3.out _ _ _ _) Tryd.underlying24 rfl (by kernel_rfl)) rfl (HEND.out (QT.mk wh ⟨#[]⟩ 0 py cy ys) true HQE.out ((HX.out wh 0).1) ((HX.out wh 0).2))
    have e5 := ibne g4
    by_cases g5 : ky = pt
    · have e6 := ibeq g5
      have HQE : Hid (qwalks wh pt k s.data.toList n (qabs (.mk ky sy ny py cy ys)) = (qabs (QT.mk wh ⟨#[]⟩ 0 py cy ys), true)) := by show _ = _; rw [hQ, if_neg (fun h => g1 h.1), if_neg g3, if_pos ⟨gk, .inr g5⟩]; try rfl
      clear hQ g1 gk g3 g4 g5
      go_wp2
      refine bodyPost_ret (v := .tuple #[(QT.mk wh ⟨#[]⟩ 0 py cy ys).v, .bool true]) (results_ctQ Tryd.results37 _ _ (w.heap.size + 1) 24 _ (0, 0) _ _ rfl rfl (box4Q_all HB3.out _ _ _ _) Tryd.underlying24 rfl (by kernel_rfl)) rfl (HEND.out (QT.mk wh ⟨#[]⟩ 0 py cy ys) true HQE.out ((HX.out wh 0).1) ((HX.out wh 0).2))
    · have e6 := ibne g5
      have HQE : Hid (qwalks wh pt k s.data.toList n (qabs (.mk ky sy ny py cy ys)) = (qabs (QT.mk k s n (some ⟨b, o, none⟩) c [QT.mk ky sy ny py cy ys]), false)) := by show _ = _; rw [hQ, if_neg (fun h => g1 h.1), if_neg g3, if_neg (fun h => h.2.elim g4 g5), if_neg g4, if_neg (fun h => g5 h.1)]; try rfl
      clear hQ g1 gk g3 g4 g5
      go_wp2
      refine bodyPost_ret (v := .tuple #[(QT.mk k s n (some ⟨b, o, none⟩) c [QT.mk ky sy ny py cy ys]).v, .bool false]) (results_ctQ Tryd.results37 _ _ (w.heap.size + 1) 24 _ (0, 0) _ _ rfl rfl (box4Q_all HB3.out _ _ _ _) Tryd.underlying24 rfl (by kernel_rfl)) rfl (HEND.out (QT.mk k s n (some ⟨b, o, none⟩) c [QT.mk ky sy ny py cy ys]) false HQE.out (HQ.out) (id))
end Go.Proofs.YtcegmcnknkjcpaaDoor
