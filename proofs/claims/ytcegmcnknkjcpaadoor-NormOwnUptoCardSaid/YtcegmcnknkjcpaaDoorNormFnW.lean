/- The walks of norm.Norm, norm.Size and norms. Conditions: the ask lies in memory; the tables read as listed. -/
import Derived.Test.YtcegmcnknkjcpaaDoorNormW
namespace Go.Proofs.YtcegmcnknkjcpaaDoor
open Go.RowKit Go.Shelf
def nilT : QT := .mk 0 ⟨#[]⟩ 0 none 0 []
theorem nilT_in (w : World) : QIn w nilT := QIn.of (by show 0 ≤ _; omega) (Nat.le_refl _) (by show 0 ≤ _; omega) trivial
theorem nilT_ow (w : World) (n : Nat) : QOw w n nilT := .mk (.inl ⟨rfl, rfl, rfl⟩) (fun _ h => by cases h)
def qNorm (x : QA) : QA := if qE qpat x = 0 then qnrm x else .mk 0 [] 0 []
def NormFPost (t : QT) (w : World) (e : Ending) (w' : World) : Prop := ∃ t' : QT, e = .returned (.tuple #[t'.v, .int .i64 (qE qpat (qabs t))]) ∧ qabs t' = qNorm (qabs t) ∧ QIn w' t' ∧ QOw w' w.heap.size t' ∧ Below w.heap.size w w'
theorem norm_fin {t t' : QT} {w u : World} {E : Int} (hE : qE qpat (qabs t) = E) (h1 : qabs t' = qNorm (qabs t)) (h2 : QIn u t') (h3 : QOw u (w.heap.size + 2) t') (hb : Below w.heap.size w u) (u0 u1 u2 u3 : Value) :
    NormFPost t w (.returned (.tuple #[t'.v, .int .i64 E])) ((((u.setCell ⟨w.heap.size + 1, 0, none⟩ u0).setCell ⟨w.heap.size + 1, 1, none⟩ u1).setCell ⟨w.heap.size + 1, 2, none⟩ u2).setCell ⟨w.heap.size + 1, 3, none⟩ u3) := by
  have hsz := (below_set4Q (b := w.heap.size + 1) (Below.refl 0 u) (Nat.zero_le _) u0 u1 u2 u3).size
  have hk : ∀ b, w.heap.size + 2 ≤ b → b < u.heap.size → ((((u.setCell ⟨w.heap.size + 1, 0, none⟩ u0).setCell ⟨w.heap.size + 1, 1, none⟩ u1).setCell ⟨w.heap.size + 1, 2, none⟩ u2).setCell ⟨w.heap.size + 1, 3, none⟩ u3).heap[b]? = u.heap[b]? := fun b hb1 _ => set4Q_other _ _ _ _ _ _ _ (by omega)
  exact ⟨t', by rw [hE], h1, h2.keep hsz h3 hk, (h3.keep hsz hk).lower (Nat.le_add_right _ _), below_set4Q hb (Nat.le_succ _) _ _ _ _⟩
set_option maxHeartbeats 4000000 in
set_option maxRecDepth 100000 in
theorem NormF_ok (t : QT) (w : World) (hq : QIn w t) (hT : TxtTabs w) (hc : qcnt (qabs t) ≤ 1099511627776) : Calls Tryd.prog 9 #[t.v] w (NormFPost t w) := by
  obtain ⟨k, s, n, p, c, xs⟩ := t
  obtain ⟨W, hW, hBW, hS, hC⟩ := arg2r w (.int .i64 k) (.string s) (.int .i64 n) (.slice p xs.length c)
  have HS := Lib.hid hS
  have HC := Lib.hid hC
  have HBW := Lib.hid hBW
  have HCH := Lib.hid (CheckA_ok _ W (hq.below hBW) (hT.ask.below hBW) hc)
  have HN : Hid (qE qpat (qabs (.mk k s n p c xs)) = 0 → ∀ (u : World), Below W.heap.size W u → Calls Tryd.prog 19 #[(QT.mk k s n p c xs).v] u (NormPost (.mk k s n p c xs) u)) := by
    show _ → _
    intro h u hu
    exact normW_ok _ u (hq.below (hBW.trans (hu.mono hBW.size))) (hT.below (hBW.trans (hu.mono hBW.size))) h
  obtain ⟨B0, B1⟩ := HC.out W (Below.refl _ _)
  obtain ⟨k0, k1, k2, k3, _⟩ := box4Q B0
  show Calls Tryd.prog 9 #[.agg #[.int .i64 k, .string s, .int .i64 n, .slice p xs.length c]] w _
  obtain ⟨E, hE⟩ : ∃ E, qE qpat (qabs (.mk k s n p c xs)) = E := ⟨_, rfl⟩
  have HE := Lib.hid hE
  rw [hE] at HCH HN
  clear hq hT hBW hS hC hc hE B0 B1
  go_enter Tryd.func9, Tryd.ntmps9
  go_upto_region 1 with fail
  rw [← hW]
  clear hW
  by_cases h0 : E = 0
  · subst h0
    have HT2 := Lib.hid (HN.out rfl)
    go_wp2_with (first
      | (go_at_call 18; refine HCH.out.mono ?_; rintro e w2 ⟨rfl, hb⟩; have HB0 := Lib.hid hb; obtain ⟨u0, u1, u2, u3, _⟩ := box4Q (HC.out w2 hb).1; clear hb)
      | (go_at_call 19; refine (HT2.out _ HB0.out).mono ?_; rintro e w3 ⟨⟨k', s', n', p', c', xs'⟩, he, ht1, ht2, ht3, hb⟩; obtain rfl : e = .returned (.agg #[.int .i64 k', .string s', .int .i64 n', .slice p' xs'.length c']) := he; have HT1 := Lib.hid ht1; have HTI := Lib.hid ht2; have HTO := Lib.hid ht3; have HB3 := Lib.hid (HB0.out.trans (hb.mono HB0.out.size)); have HR := Lib.hid (HC.out w3 HB3.out).2; obtain ⟨z0, z1, z2, z3, z4⟩ := box4Q HR.out; clear ht1 ht2 ht3 hb))
    refine bodyPost_ret (v := .tuple #[(QT.mk k' s' n' p' c' xs').v, .int .i64 0]) (results_ctQ Tryd.results9 _ _ (w.heap.size + 1) 24 _ (0, 0) _ _ rfl rfl (box4Q_all HR.out _ _ _ _) Tryd.underlying24 rfl (by kernel_rfl)) rfl
      (norm_fin HE.out ?_ HTI.out (HTO.out.lower (by have := HB0.out.size; have := HS.out; omega)) (HBW.out.trans (HB3.out.mono HBW.out.size)) _ _ _ _)
    rw [HT1.out]
    unfold qNorm
    rw [if_pos HE.out]
  · obtain ⟨i1, i2⟩ := int_ne' h0
    have HNE : Hid (¬ E = 0) := h0
    clear h0
    go_wp2_with (go_at_call 18; refine HCH.out.mono ?_; rintro e w2 ⟨rfl, hb⟩; have HB0 := Lib.hid hb; have HR := Lib.hid (HC.out w2 hb).2; obtain ⟨z0, z1, z2, z3, z4⟩ := box4Q HR.out; clear hb)
    refine bodyPost_ret (v := .tuple #[nilT.v, .int .i64 E]) (results_ctQ Tryd.results9 _ _ (w.heap.size + 1) 24 _ (0, 0) _ _ rfl rfl (box4Q_all HR.out _ _ _ _) Tryd.underlying24 rfl (by kernel_rfl)) rfl
      (norm_fin HE.out ?_ (nilT_in _) (nilT_ow _ _) (HBW.out.trans (HB0.out.mono HBW.out.size)) _ _ _ _)
    unfold qNorm
    rw [HE.out, if_neg HNE.out]
    rfl
def qSize (x : QA) : Int := if qE qpat x = 0 then (qcnt x : Int) else 0
set_option maxHeartbeats 4000000 in
set_option maxRecDepth 100000 in
theorem SizeF_ok (t : QT) (w : World) (hq : QIn w t) (hT : AskTabs w) (hc : qcnt (qabs t) ≤ 1099511627776) : Calls Tryd.prog 12 #[t.v] w fun e w' => e = .returned (.tuple #[.int .i64 (qSize (qabs t)), .int .i64 (qE qpat (qabs t))]) ∧ Below w.heap.size w w' := by
  obtain ⟨k, s, n, p, c, xs⟩ := t
  obtain ⟨W, hW, hBW, hS, hC⟩ := arg1 w (.int .i64 k) (.string s) (.int .i64 n) (.slice p xs.length c)
  have HC := Lib.hid hC
  have HBW := Lib.hid hBW
  have HCH := Lib.hid (CheckA_ok _ W (hq.below hBW) (hT.below hBW) hc)
  have HN : Hid (∀ (u : World), Below W.heap.size W u → Calls Tryd.prog 21 #[(QT.mk k s n p c xs).v] u fun e w' => e = .returned (.int .i64 (qcnt (qabs (.mk k s n p c xs)) : Int)) ∧ Below u.heap.size u w') := by
    show ∀ u : World, _
    intro u hu
    exact sizeN_ok _ u (hq.below (hBW.trans (hu.mono hBW.size))) hc
  obtain ⟨k0, k1, k2, k3⟩ := HC.out W (Below.refl _ _)
  show Calls Tryd.prog 12 #[.agg #[.int .i64 k, .string s, .int .i64 n, .slice p xs.length c]] w _
  obtain ⟨E, hE⟩ : ∃ E, qE qpat (qabs (.mk k s n p c xs)) = E := ⟨_, rfl⟩
  obtain ⟨Z, hZ⟩ : ∃ Z : Int, qSize (qabs (.mk k s n p c xs)) = Z := ⟨_, rfl⟩
  obtain ⟨m, hm⟩ : ∃ m : Nat, qcnt (qabs (.mk k s n p c xs)) = m := ⟨_, rfl⟩
  have hZ2 : Z = if E = 0 then (m : Int) else 0 := by rw [← hZ, ← hE, ← hm]; rfl
  rw [hm] at HN
  rw [hE] at HCH
  rw [hE, hZ]
  clear hq hT hBW hS hC hc hE hZ hm
  go_enter Tryd.func12, Tryd.ntmps12
  go_upto_region 1 with fail
  rw [← hW]
  clear hW
  by_cases h0 : E = 0
  · subst h0
    rw [if_pos rfl] at hZ2
    subst hZ2
    go_wp2_with (first
      | (go_at_call 18; refine HCH.out.mono ?_; rintro e w2 ⟨rfl, hb⟩; have HB0 := Lib.hid hb; obtain ⟨u0, u1, u2, u3⟩ := HC.out w2 hb; clear hb)
      | (go_at_call 21; refine (HN.out _ HB0.out).mono ?_; rintro e w3 ⟨rfl, hb⟩; have HB3 := Lib.hid (HBW.out.trans ((HB0.out.trans (hb.mono HB0.out.size)).mono HBW.out.size)); clear hb))
    go_ret2
    exact ⟨rfl, HB3.out⟩
  · rw [if_neg h0] at hZ2
    subst hZ2
    obtain ⟨i1, i2⟩ := int_ne' h0
    clear h0
    go_wp2_with (go_at_call 18; refine HCH.out.mono ?_; rintro e w2 ⟨rfl, hb⟩; have HB := Lib.hid (HBW.out.trans (hb.mono HBW.out.size)); clear hb)
    go_ret2
    exact ⟨rfl, HB.out⟩
set_option maxHeartbeats 4000000 in
set_option maxRecDepth 100000 in
theorem norms_ok (w : World) (hT : AskTabs w) : Calls Tryd.prog 7 #[] w fun e w' => e = .returned (.bool true) ∧ Below w.heap.size w w' := by
  have h : Calls Tryd.prog 12 #[.agg #[.int .i64 2, .string ⟨#[]⟩, .int .i64 0, .slice none 0 0]] w fun e w' => e = .returned (.tuple #[.int .i64 1, .int .i64 0]) ∧ Below w.heap.size w w' := by
    have e1 : qE qpat (qabs (.mk 2 ⟨#[]⟩ 0 none 0 [])) = 0 := by decide
    have h := SizeF_ok (.mk 2 ⟨#[]⟩ 0 none 0 []) w (QIn.of (by show 0 ≤ _; omega) (Nat.le_refl _) (by show 0 ≤ _; omega) trivial) hT (by decide)
    unfold qSize at h
    rw [e1, if_pos rfl] at h
    exact h
  have HS := Lib.hid h
  clear h hT
  go_enter Tryd.func7, Tryd.ntmps7
  go_wp2_with (go_at_call 12; refine HS.out.mono ?_; rintro e w2 ⟨rfl, hb⟩; have HB := Lib.hid hb; clear hb)
  go_ret
  exact ⟨rfl, HB.out⟩
end Go.Proofs.YtcegmcnknkjcpaaDoor
