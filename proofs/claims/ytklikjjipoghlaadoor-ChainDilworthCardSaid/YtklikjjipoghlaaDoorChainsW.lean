/- The walk of chain.Chains. Conditions: the rows read as listed. -/
import Derived.Test.YtklikjjipoghlaaDoorApartW
import Derived.Test.YtklikjjipoghlaaDoorNestW
namespace Go.Proofs.YtklikjjipoghlaaDoor
open Go.RowKit
theorem tops_succ (ah : List Int) (j : Nat) : topsL ah (j + 1) = if vl ah j = -1 then topsL ah j ++ [j] else topsL ah j := by
  unfold topsL
  rw [List.range_succ, List.filter_append]
  by_cases h : vl ah j = -1
  · rw [if_pos h]; simp [h]
  · rw [if_neg h]; simp [h]
theorem chns_yes {nx ah : List Int} {j : Nat} (h : vl ah j = -1) : chns nx ah (j + 1) = chns nx ah j ++ [chn nx j] := by
  unfold chns; rw [tops_succ, if_pos h, List.map_append]; rfl
theorem chns_no {nx ah : List Int} {j : Nat} (h : vl ah j ≠ -1) : chns nx ah (j + 1) = chns nx ah j := by
  unfold chns; rw [tops_succ, if_neg h]
theorem chns_len (nx ah : List Int) (n : Nat) : (chns nx ah n).length = (topsL ah n).length := by simp [chns]
theorem tops_le (ah : List Int) (n : Nat) : (topsL ah n).length ≤ n := by
  have := List.length_filter_le (fun i => decide (vl ah i = -1)) (List.range n)
  rw [List.length_range] at this; exact this
theorem pth_lt {R : List B} {nx ah : List Int} (h : Pr R nx ah (-1)) {j m k : Nat} (hj : j < R.length) (hk : pth nx j m = k) : k < R.length := by
  cases m with
  | zero => have : (j : Int) = k := hk; omega
  | succ m => obtain ⟨q, _, hv⟩ := pth_prev hk; exact pr_lt h hv
/-- what Chains answers of right rows -/
def ChainsPost (r : List B) (w : World) (e : Ending) (w' : World) : Prop :=
  ((∃ (nx ah : List Int) (o : List Nat) (g : Option Addr) (c : Nat), e = .returned (.tuple #[.slice g (chns nx ah r.length).length c, .int .i64 0]) ∧ KOrd r o 0#64 ∧ Paired (clr r) nx ah ∧ Nest w' w.heap.size (.slice g (chns nx ah r.length).length c) (chns nx ah r.length)) ∨
    (∃ (o : List Nat) (left : B), e = .returned (.tuple #[.slice none 0 0, .int .i64 8]) ∧ left ≠ 0#64 ∧ KOrd r o left ∧ Stuck r left)) ∧ Below w.heap.size w w'
theorem Nest.mono {w : World} {b b' : Nat} {v : Value} {LL : List (List Nat)} (h : Nest w b v LL) (hb : b' ≤ b) : Nest w b' v LL := by
  obtain ⟨hs, h1, h2⟩ := h
  refine ⟨hs, World.ownsRow.mono h1 hb, fun t ht => ?_⟩
  obtain ⟨p, c, h3, h4⟩ := h2 t ht
  exact ⟨p, c, h3, World.ownsRow.mono h4 hb⟩
set_option maxHeartbeats 8000000 in
set_option maxRecDepth 100000 in
theorem Chains_yes (p : Option Addr) (n c : Nat) (r : List B) (h : chkR r = 0) (w : World) (hR : RowsAt w p n r) (hT : Tab w) :
    Calls Tryd.prog 19 #[.slice p n c] w (ChainsPost r w) := by
  have H := Lib.hid h
  have HV := Lib.hid (chkR_zero.1 h)
  have h64 := (chkR_zero.1 h).1
  have hl := hR.len
  subst hl
  clear h
  go_enter Tryd.func19, Tryd.ntmps19
  go_wp2_with fail
  refine (chainBelow_yes p _ c r H.out w hR hT).mono ?_
  rintro e w1 (⟨o, p1, g, c1, cg, rfl, hO, hR1, _, hb1⟩ | ⟨o, left, rfl, hne, hO, hS, hb1⟩)
  · have HO := Lib.hid hO
    have HT1 := Lib.hid (hT.below hb1)
    have HR1 := Lib.hid hR1
    have HB1 := Lib.hid hb1
    have HVC := Lib.hid (valid_clr HV.out)
    have HPC : Hid (Calls Tryd.prog 52 #[.slice p1 r.length c1] w1 (PairPost (clr r) p1 c1 w1)) := by
      show Calls _ _ _ _ _
      have hl := clr_len r
      have := pair_ok (clr r) HVC.out p1 c1 w1 (by rw [hl]; exact hR1) HT1.out
      rwa [hl] at this
    have HRL : Hid ((clr r).length = r.length) := clr_len r
    have HST : Hid (Str (clr r)) := by show Str _; exact str_clr HV.out hO
    obtain ⟨R, hRR⟩ : ∃ R, R = clr r := ⟨_, rfl⟩
    rw [← hRR] at HR1 HVC HPC HRL HST
    have HRR := Lib.hid hRR
    clear hR1 hb1 hO hR hT hRR
    go_wp2_with (go_at_call 52; refine HPC.out.mono ?_; rintro e w2 ⟨bp, bn, ba, nx, ah, s0, rfl, hPA, hPD, hB2⟩; have HPA := Lib.hid hPA; have HPD := Lib.hid hPD; have HB2 := Lib.hid hB2; rw [HRL.out] at HPA; clear hPA hPD hB2)
    have HF2 : Hid (∀ u : World, Below w2.heap.size w2 u → Below w.heap.size w u) := by
      show ∀ u : World, _
      intro u hu
      exact below_next HB1.out (below_next HB2.out hu)
    have HSZ : Hid (w.heap.size ≤ w2.heap.size) := by
      show _ ≤ _
      exact Nat.le_trans HB1.out.size HB2.out.size
    go_loopg [25, 8] r.length (fun g v t wi => ∃ j : Nat, g + j = r.length ∧ v = .int .i64 j ∧ Hid (Nest wi w2.heap.size t (chns nx ah j)) ∧ Hid (Below w2.heap.size w2 wi))
    case atStart => exact ⟨0, by omega, rfl, Nest.nil _ _, Below.refl _ _⟩
    case round =>
      obtain ⟨j, hgj, rfl, HN, HB⟩ := hrel
      obtain ⟨k0, k1, k2, k3, _⟩ := b4 (HPA.out.below HB.out).box
      by_cases hlt : j < r.length
      · have hca := own_iv_at (HPA.out.below HB.out).oa hlt
        have hg1 := HPD.out.1.ga j
        obtain ⟨z, hz⟩ : ∃ z, z = vl ah j := ⟨_, rfl⟩
        rw [← hz] at hca hg1
        have HZ := Lib.hid hz
        clear hz
        rcases int_cases hg1 with rfl | ⟨q, rfl⟩
        · have HCN := Lib.hid (chns_yes (nx := nx) HZ.out.symm)
          obtain ⟨w3, hw3⟩ : ∃ w3 : World, w3 = wr := ⟨_, rfl⟩
          subst hw3
          have hlen : (chns nx ah j).length ≤ 64 := by rw [chns_len]; have := tops_le ah j; omega
          go_wp2
          clear hca
          go_loopg [10, 11] 66 (fun g v t wi => ∃ (m : Nat) (z : Int), g + m = 66 ∧ m ≤ 65 ∧ t = .int .i64 z ∧ Hid (z = pth nx j m) ∧ Hid (∀ t, t < m → 0 ≤ pth nx j t) ∧ Hid (wi.ownsRow w3.heap.size 3 1 v m (ints (pthL nx j m))) ∧ Hid (Below w3.heap.size w3 wi))
          case atStart => exact ⟨0, (j : Int), by omega, by omega, rfl, rfl, fun t ht => by omega, World.ownsRow_nil _ _ _ _, Below.refl _ _⟩
          case round =>
            obtain ⟨m, z, hgm, hm65, rfl, HZM, HPM, HOW, HBi⟩ := hrel
            clear k0 k1 k2 k3
            have hz1 : -1 ≤ z := by rw [HZM.out]; exact pth_neg (fun q => HPD.out.1.gn q)
            rcases int_cases hz1 with rfl | ⟨q, rfl⟩
            · have HCH : Hid (chn nx j = pthL nx j m) := by show _ = _; exact chn_end HPM.out (by rw [← HZM.out]; decide) hm65
              obtain ⟨l, hl⟩ : ∃ l, l = pthL nx j m := ⟨_, rfl⟩
              have hml : m = l.length := by rw [hl, pthL_len]
              rw [← hl] at HCH HOW
              clear hl HZM HPM
              subst hml
              obtain ⟨gr, cr, rfl, hfb⟩ := own_form HOW.out
              obtain ⟨W, hW⟩ : ∃ W : World, W = wr.alloc (.cells #[.slice gr l.length cr] 24) := ⟨_, rfl⟩
              have hszi := HBi.out.size
              have hbW : Below w3.heap.size w3 W := by rw [hW]; exact HBi.out.alloc hszi _
              have hlW : W.ownsRow w2.heap.size 3 1 (.slice gr l.length cr) l.length (ints l) := by
                rw [hW]; exact World.ownsRow.mono (HOW.out.alloc _) HB.out.size
              obtain ⟨hs, h1, h2⟩ := HN.out.below hbW
              have HLW := Lib.hid hlW
              have H1 := Lib.hid h1
              have H2 := Lib.hid h2
              have HBW := Lib.hid hbW
              have hWs : W.heap.size = wr.heap.size + 1 := by rw [hW]; simp
              have hs2 := HB.out.size
              obtain ⟨_, _, hv0, hfb0⟩ := own_form h1
              have HFB := Lib.hid hfb0
              clear hlW h1 h2 hbW hfb hfb0 hv0
              rw [hW] at H1
              have HWE := Lib.hid hW
              clear hW
              go_wp2_with (at_builtin; refine app_row _ rfl _ _ rfl w2.heap.size _ (chns nx ah j).length hs rfl H1.out wr.heap.size (.slice gr l.length cr) rfl rfl ?c1 (by omega) ?c2 ?_; rotate_right; intro v' w5 hown5 hgrow5)
              case c1 => simp
              case c2 => simp; omega
              rw [← HWE.out] at hgrow5
              have HN5 : Hid (Nest w5 w2.heap.size v' (chns nx ah (j + 1))) := by
                show Nest _ _ _ _
                rw [HCN.out, HCH.out]
                have h1 := H1.out
                rw [← HWE.out] at h1
                exact Nest.snoc h1 H2.out HLW.out hgrow5 hown5
              have HB5 : Hid (Below w2.heap.size w2 w5) := by
                show Below _ _ _
                have h6 : Below w2.heap.size w2 W := below_next HB.out HBW.out
                exact h6.grown hgrow5 (by have := h6.size; omega) (fun k hk => (HFB.out k hk).1)
              clear hown5 hgrow5 H1
              go_wp2
              go_roundg (r.length - (j + 1))
              case measure => omega
              case rel => exact ⟨j + 1, by omega, by go_num, HN5, HB5⟩
            · have hmq : m ≤ 64 := by
                have h1 := HST.out
                have := pth_cnt HPD.out.1 h1 HZM.out.symm
                omega
              have hqr : q < r.length := by
                have := pth_lt HPD.out.1 (by rw [HRL.out]; exact hlt) HZM.out.symm
                rwa [HRL.out] at this
              have HPS := Lib.hid (pthL_succ HZM.out.symm)
              have HST2 := Lib.hid (pth_step HZM.out.symm)
              have hszi := HBi.out.size
              obtain ⟨gr, cr, rfl, hfb⟩ := own_form HOW.out
              have HFB := Lib.hid hfb
              clear hfb
              go_wp2_with (at_builtin; refine app_int _ rfl _ _ rfl w3.heap.size _ m _ rfl (HOW.out.alloc _) wr.heap.size (.int .i64 (q : Int)) rfl rfl ?c1 (by omega) ?c2 ?_; rotate_right; intro v' w5 hown5 hgrow5; rw [← ints_snoc, ← HPS.out] at hown5; have hb5 : Below w3.heap.size w3 w5 := (HBi.out.alloc hszi _).grown hgrow5 (by simp; omega) (fun k hk => (HFB.out k hk).1); have HB5 := Lib.hid hb5; have HO5 := Lib.hid hown5; obtain ⟨k0, k1, k2, k3, _⟩ := b4 ((HPA.out.below HB.out).below HB5.out).box; have hcn := own_iv_at ((HPA.out.below HB.out).below HB5.out).on_ hqr; rw [← HST2.out] at hcn; clear hb5 hown5 hgrow5)
              case c1 => simp
              case c2 => simp; omega
              have HZ2 : Hid (∃ z2, z2 = pth nx j (m + 1)) := ⟨_, rfl⟩
              go_roundg (66 - (m + 1))
              case measure => omega
              case rel =>
                refine ⟨m + 1, _, by omega, by omega, rfl, rfl, ?_, HO5, HB5⟩
                show ∀ t, _
                intro t ht
                rcases Nat.lt_or_ge t m with h1 | h1
                · exact HPM.out t h1
                · have : t = m := by omega
                  subst this
                  rw [← HZM.out]; omega
        · have HCN := Lib.hid (chns_no (nx := nx) (ah := ah) (j := j) (by rw [← HZ.out]; omega))
          go_wp2
          go_roundg (r.length - (j + 1))
          case measure => omega
          case rel => exact ⟨j + 1, by omega, by go_num, by show Nest _ _ _ _; rw [HCN.out]; exact HN.out, HB⟩
      · obtain rfl : j = r.length := by omega
        obtain ⟨g8, c8, rfl, _⟩ := HN.out.form
        have HF : Hid (ChainsPost r w (.returned (.tuple #[.slice g8 (chns nx ah r.length).length c8, .int .i64 0])) wr) := by
          show ChainsPost _ _ _ _
          refine ⟨.inl ⟨nx, ah, o, g8, c8, rfl, HO.out, ?_, HN.out.mono HSZ.out⟩, HF2.out _ HB.out⟩
          have := HPD.out
          rwa [HRR.out] at this
        go_wp2
        go_ret2
        exact HF.out
  · have HO := Lib.hid hO
    have HS := Lib.hid hS
    have HN := Lib.hid hne
    clear hR hT hO hS hne
    go_wp2
    go_ret2
    exact ⟨.inr ⟨o, left, rfl, HN.out, HO.out, HS.out⟩, hb1⟩
end Go.Proofs.YtklikjjipoghlaaDoor
