/- The walks of ask.Text and norm.text. Conditions: the ask lies in memory; the tables read as listed. -/
import Derived.Test.YtcegmcnknkjcpaaDoorAskTextW
namespace Go.Proofs.YtcegmcnknkjcpaaDoor
open Go.RowKit Go.Shelf
theorem qE_chk {pat : List UInt8 → Bool} {x : QA} (h : qE pat x = 0) : qcnt x ≤ 60 ∧ qchk pat x = 0 := by
  unfold qE at h
  split at h
  · cases h
  · exact ⟨by omega, h⟩
set_option maxHeartbeats 4000000 in
set_option maxRecDepth 100000 in
theorem TextA_ok (t : QT) (w : World) (hq : QIn w t) (hT : TxtTabs w) (hc : qcnt (qabs t) ≤ 1099511627776) : Calls Tryd.prog 16 #[t.v] w fun e w' =>
    e = .returned (.tuple #[.string (if qE qpat (qabs t) = 0 then qtx (qtxt (qabs t)) else ⟨#[]⟩), .int .i64 (qE qpat (qabs t))]) ∧ Below w.heap.size w w' := by
  obtain ⟨k, s, n, p, c, xs⟩ := t
  obtain ⟨W, hW, hBW, hS, hC⟩ := arg1 w (.int .i64 k) (.string s) (.int .i64 n) (.slice p xs.length c)
  have HC := Lib.hid hC
  have HBW := Lib.hid hBW
  have HCH := Lib.hid (CheckA_ok _ W (hq.below hBW) (hT.ask.below hBW) hc)
  have HTX : Hid (qE qpat (qabs (.mk k s n p c xs)) = 0 → ∀ (u : World), Below W.heap.size W u → Calls Tryd.prog 24 #[(QT.mk k s n p c xs).v] u (TextPost (.mk k s n p c xs) u)) := by
    show _ → _
    intro h u hu
    obtain ⟨h1, h2⟩ := qE_chk h
    exact text_ok _ u (hq.below (hBW.trans (hu.mono hBW.size))) (hT.below (hBW.trans (hu.mono hBW.size))) h2 (by omega)
  obtain ⟨k0, k1, k2, k3⟩ := HC.out W (Below.refl _ _)
  rw [hW] at k0 k1 k2 k3
  show Calls Tryd.prog 16 #[.agg #[.int .i64 k, .string s, .int .i64 n, .slice p xs.length c]] w _
  obtain ⟨E, hE⟩ : ∃ E, qE qpat (qabs (.mk k s n p c xs)) = E := ⟨_, rfl⟩
  rw [hE] at HCH HTX ⊢
  obtain ⟨X, hX⟩ : ∃ X, qtx (qtxt (qabs (.mk k s n p c xs))) = X := ⟨_, rfl⟩
  unfold TextPost at HTX
  rw [hX] at HTX ⊢
  clear hq hT hBW hS hC hc hE hX
  go_enter Tryd.func16, Tryd.ntmps16
  by_cases h0 : E = 0
  · subst h0
    have HT2 := Lib.hid (HTX.out rfl)
    go_wp2_with (first
      | (go_at_call 18; rw [← hW]; refine HCH.out.mono ?_; rintro e w2 ⟨rfl, hb⟩; have HB0 := Lib.hid hb; have HB := Lib.hid (HBW.out.trans (hb.mono HBW.out.size)); obtain ⟨u0, u1, u2, u3⟩ := HC.out w2 hb; clear hb)
      | (go_at_call 24; refine (HT2.out _ HB0.out).mono ?_; rintro e w3 ⟨rfl, hb⟩; have HB3 := Lib.hid (HB.out.trans (hb.mono HB.out.size)); clear hb))
    go_ret2
    exact ⟨by first | rfl | (rw [if_pos rfl]; rfl), HB3.out⟩
  · obtain ⟨i1, i2⟩ := int_ne' h0
    have HNE : Hid (¬ E = 0) := h0
    clear h0
    go_wp2_with (go_at_call 18; rw [← hW]; refine HCH.out.mono ?_; rintro e w2 ⟨rfl, hb⟩; have HB := Lib.hid (HBW.out.trans (hb.mono HBW.out.size)); clear hb)
    go_ret2
    exact ⟨by first | rfl | (rw [if_neg HNE.out]; rfl), HB.out⟩
set_option maxHeartbeats 4000000 in
set_option maxRecDepth 100000 in
theorem textN_ok (t : QT) (w : World) (hq : QIn w t) (hT : TxtTabs w) (hc : qE qpat (qabs t) = 0) : Calls Tryd.prog 38 #[t.v] w (TextPost t w) := by
  obtain ⟨k, s, n, p, c, xs⟩ := t
  obtain ⟨W, hW, hBW, hS, hC⟩ := arg1 w (.int .i64 k) (.string s) (.int .i64 n) (.slice p xs.length c)
  have HBW := Lib.hid hBW
  have hx := TextA_ok _ W (hq.below hBW) (hT.below hBW) (by have := (qE_chk hc).1; omega)
  rw [hc, if_pos rfl] at hx
  have HX := Lib.hid hx
  obtain ⟨k0, k1, k2, k3⟩ := hC W (Below.refl _ _)
  rw [hW] at k0 k1 k2 k3
  show Calls Tryd.prog 38 #[.agg #[.int .i64 k, .string s, .int .i64 n, .slice p xs.length c]] w _
  clear hq hT hBW hS hC hc hx
  unfold TextPost
  generalize qtx (qtxt (qabs (.mk k s n p c xs))) = X at *
  go_enter Tryd.func38, Tryd.ntmps38
  go_wp2_with (go_at_call 16; rw [← hW]; refine HX.out.mono ?_; rintro e w2 ⟨rfl, hb⟩; have HB := Lib.hid (HBW.out.trans (hb.mono HBW.out.size)); clear hb)
  go_ret
  exact ⟨rfl, HB.out⟩
end Go.Proofs.YtcegmcnknkjcpaaDoor
