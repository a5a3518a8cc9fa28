/- The walks of the laws ChainChains and ChainDilworth, whole. Conditions: the table reads as listed. -/
import Derived.Test.YtklikjjipoghlaaDoorChainsLawW
import Derived.Test.YtklikjjipoghlaaDoorPairT
namespace Go.Proofs.YtklikjjipoghlaaDoor
open Go.RowKit
set_option maxHeartbeats 1000000 in
theorem Chains_no (p : Option Addr) (n c : Nat) (r : List B) (h : chkR r ≠ 0) (w : World) (hR : RowsAt w p n r) :
    Calls Tryd.prog 19 #[.slice p n c] w fun e w' => e = .returned (.tuple #[.slice none 0 0, .int .i64 (chkR r)]) ∧ w = w' := by
  obtain ⟨h1, h2⟩ := int_ne h
  have H := Lib.hid h
  clear h
  go_enter Tryd.func19, Tryd.ntmps19
  go_wp2_with (go_at_call 48; refine (chainBelow_no p _ c r H.out w hR).mono ?_; rintro e w' ⟨rfl, rfl⟩)
  go_ret2
  exact ⟨rfl, rfl⟩
set_option maxHeartbeats 1000000 in
theorem Apart_no (p : Option Addr) (n c : Nat) (r : List B) (h : chkR r ≠ 0) (w : World) (hR : RowsAt w p n r) :
    Calls Tryd.prog 22 #[.slice p n c] w fun e w' => e = .returned (.tuple #[.int .u64 0, .int .i64 (chkR r)]) ∧ w = w' := by
  obtain ⟨h1, h2⟩ := int_ne h
  have H := Lib.hid h
  clear h
  go_enter Tryd.func22, Tryd.ntmps22
  go_wp2_with (go_at_call 48; refine (chainBelow_no p _ c r H.out w hR).mono ?_; rintro e w' ⟨rfl, rfl⟩)
  go_ret2
  exact ⟨rfl, rfl⟩
set_option maxHeartbeats 1000000 in
theorem chainChains_walk (p : Option Addr) (n c : Nat) (r : List B) (w : World) (hR : RowsAt w p n r) (hT : Tab w) :
    Calls Tryd.prog 4 #[.slice p n c] w fun e w' => e = .returned (.bool true) ∧ Below w.heap.size w w' := by
  by_cases h : chkR r = 0
  · exact chainChains_yes p n c r h w hR hT
  · obtain ⟨h1, h2⟩ := int_ne h
    have H := Lib.hid h
    clear h
    go_enter Tryd.func4, Tryd.ntmps4
    go_wp2_with fail
    refine (chains_below w hT).mono ?_
    rintro e w1 ⟨rfl, hb1⟩
    have hR1 := hR.below hb1
    go_wp2_with (go_at_call 19; refine (Chains_no p _ c r H.out w1 hR1).mono ?_; rintro e w' ⟨rfl, rfl⟩)
    go_ret
    exact ⟨rfl, hb1⟩
open Classical in
set_option maxHeartbeats 2000000 in
/-- is none of a set below another one -/
theorem apart_ok (R : List B) (pc : Option Addr) (cc : Nat) (s : B) (b : Nat) (w : World) (hC : RowsAt w pc R.length R) (hb : w.cell? ⟨b, 0, none⟩ = some (.slice pc R.length cc)) (hT : Tab w) :
    Calls Tryd.prog 23 #[.int .u64 (un s), .pointer (some ⟨b, 0, none⟩)] w fun e w' => e = .returned (.bool (decide (AP R s))) ∧ Below w.heap.size w w' := by
  have HC := Lib.hid hC
  have hblt : b < w.heap.size := World.block_lt_of_cell? w _ hb
  go_enter Tryd.func23, Tryd.ntmps23
  go_wp2_with (go_at_call 16; refine (List_ok s _ hT).mono ?_; rintro e w2 ⟨gl, cl, rfl, hownl, hb2⟩)
  have HB := Lib.hid hb2
  have HL := Lib.hid (Reads.of_own hownl)
  have HC2 := Lib.hid (hC.below hb2)
  have hb0 : w2.cell? ⟨b, 0, none⟩ = some (.slice pc R.length cc) := by rw [hb2.cell (p := ⟨b, 0, none⟩) hblt]; exact hb
  have HCL := Lib.hid (cnt_lst s)
  have hcs := cnt_le s
  clear hownl hb2 hC hT hb
  go_loopg [9] (cnt s) (fun g v wi => ∃ j : Nat, g + j = cnt s ∧ v = .int .i64 j ∧ Hid (∀ n ∈ (lst s).take j, n < R.length ∧ row R n &&& s = 0#64) ∧ wi = w2)
  case atStart => exact ⟨0, by omega, rfl, (fun n hn => by cases hn), rfl⟩
  case round =>
    obtain ⟨j, hgj, rfl, HA, hw⟩ := hrel
    subst hw
    by_cases hlt : j < cnt s
    · have hjl : j < (lst s).length := by rw [← HCL.out]; exact hlt
      obtain ⟨al, rfl, _, hcl⟩ := HL.out.int_at hlt
      have hm := mem_lst.1 (getD_mem hjl)
      have HTK : Hid ((lst s).take (j + 1) = (lst s).take j ++ [(lst s).getD j 0]) := by show _ = _; rw [List.take_succ_eq_append_getElem hjl, getD_at hjl]
      have HM := Lib.hid hm
      clear hm hjl
      generalize (lst s).getD j 0 = k at *
      by_cases hk : k < R.length
      · obtain ⟨ad, rfl, _, hcr⟩ := HC2.out.cell hk
        obtain ⟨x, hx⟩ : ∃ x, x = row R k := ⟨_, rfl⟩
        rw [← hx] at hcr
        have HX := Lib.hid hx
        clear hx
        by_cases hz : x &&& s = 0#64
        · have e0 : (un (x &&& s) : Int) = 0 := un_zero_int hz
          have HN : Hid (∀ n ∈ (lst s).take (j + 1), n < R.length ∧ row R n &&& s = 0#64) := by
            show ∀ n, _
            intro n hn
            rw [HTK.out] at hn
            rcases List.mem_append.1 hn with h1 | h1
            · exact HA.out n h1
            · have : n = k := by simpa using h1
              subst this
              exact ⟨hk, by rw [← HX.out]; exact hz⟩
          clear hz
          go_wp2
          go_roundg (cnt s - (j + 1))
          case measure => omega
          case rel => exact ⟨j + 1, by omega, by go_num, HN, rfl⟩
        · have e0 := un_ne0 hz
          have e1 : ((un (x &&& s) : Int) != 0) = true := by rw [bne, e0]; rfl
          have HF : Hid (decide (AP R s) = false) := by
            show _ = _
            refine decide_eq_false fun h => hz ?_
            rw [HX.out]; exact (h k HM.out).2
          clear hz
          go_wp2
          go_ret
          exact ⟨by rw [HF.out]; rfl, HB.out⟩
      · have HF : Hid (decide (AP R s) = false) := by
          show _ = _
          exact decide_eq_false fun h => hk (h k HM.out).1
        go_wp2
        go_ret
        exact ⟨by rw [HF.out]; rfl, HB.out⟩
    · obtain rfl : j = cnt s := by omega
      have HF : Hid (decide (AP R s) = true) := by
        show _ = _
        refine decide_eq_true fun n hn => HA.out n ?_
        rw [HCL.out, List.take_length]; exact mem_lst.2 hn
      go_wp2
      go_ret
      exact ⟨by rw [HF.out]; rfl, HB.out⟩
open Classical in
set_option maxHeartbeats 4000000 in
set_option maxRecDepth 100000 in
theorem dilworth_yes (p : Option Addr) (n c : Nat) (r : List B) (x : B) (h : chkR r = 0) (w : World) (hR : RowsAt w p n r) (hT : Tab w) :
    Calls Tryd.prog 5 #[.slice p n c, .int .u64 (un x : Int)] w fun e w' => e = .returned (.bool true) ∧ Below w.heap.size w w' := by
  have hl := hR.len
  subst hl
  have H := Lib.hid h
  have HV := Lib.hid (chkR_zero.1 h)
  have h64 := (chkR_zero.1 h).1
  have HBG := Lib.hid hR.big
  clear h
  go_enter Tryd.func5, Tryd.ntmps5
  go_wp2_with fail
  refine (chains_below w hT).mono ?_
  rintro e w1 ⟨rfl, hb1⟩
  have hR1 := hR.below hb1
  have hT1 := hT.below hb1
  clear hR hT
  go_wp2_with fail
  refine (Chains_yes p _ c r H.out w1 hR1 hT1).mono ?_
  rintro e w2 ⟨⟨nx, ah, o, g, cg, rfl, hO, hPD, hN⟩ | ⟨o, left, rfl, hne, hO, hS⟩, hb2⟩
  · have hR2 := hR1.below hb2
    have hT2 := hT1.below hb2
    have hb12 := below_next hb1 hb2
    have HO := Lib.hid hO
    have HPD := Lib.hid hPD
    clear hO hPD hN hb1 hb2 hR1 hT1
    go_wp2_with fail
    refine (Apart_yes p _ c r H.out w2 hR2 hT2).mono ?_
    rintro e w3 ⟨⟨nx', ah', T, L, o', rfl, hO', hPD', hE⟩ | ⟨o', left, rfl, hne, hO', hS⟩, hb3⟩
    · have hR3 := hR2.below hb3
      have hT3 := hT2.below hb3
      have hb13 := below_next hb12 hb3
      have HRL : Hid ((clr r).length = r.length) := clr_len r
      have HSZ : Hid (cnt (T &&& ~~~L) = (chns nx ah r.length).length) := by
        show _ = _
        have hs := str_clr HV.out HO.out
        have h1 := apend_cnt hPD'.1 hs hE
        have h2 := tops_same HPD.out hPD'
        rw [h1, ← h2, chns_len, HRL.out]
      have HAP : Hid (AP (clr r) (T &&& ~~~L)) := by show AP _ _; exact apend_ap hE
      have HLE : Hid (AP (clr r) x → cnt x ≤ (chns nx ah r.length).length) := by
        show _ → _
        intro hx
        have := ap_le HPD.out.1 (str_clr HV.out HO.out) hx
        rwa [HRL.out, ← chns_len nx] at this
      clear hO' hPD' hE hb12 hb3 hR2 hT2
      generalize T &&& ~~~L = S at *
      generalize (chns nx ah r.length).length = m at *
      go_wp2_with fail
      refine (Close_yes p _ c r H.out w3 hR3 hT3).mono ?_
      rintro e w4 ⟨g2, c2, rfl, hown2, hb4⟩
      have HCL : Hid (RowsAt w4 g2 r.length (clr r)) := by show RowsAt _ _ _ _; exact rows_own hown2 HRL.out HBG.out
      have HB4 := Lib.hid (below_next hb13 hb4)
      have HT4 := Lib.hid (hT3.below hb4)
      clear hown2 hb4 hb13 hR3 hT3
      have HOK : Hid (allOk [(0 : Int), 0] = true) := by show _ = _; rfl
      obtain ⟨W, hW⟩ : ∃ W : World, W = w4.alloc (.cells #[.slice g2 r.length c2] 22) := ⟨_, rfl⟩
      have hBW : Below w4.heap.size w4 W := by rw [hW]; exact (Below.refl _ _).alloc (Nat.le_refl _) _
      have hWs : W.heap.size = w4.heap.size + 1 := by rw [hW]; simp
      have hWc : W.cell? ⟨w4.heap.size, 0, none⟩ = some (.slice g2 r.length c2) := by rw [hW, World.cell?_alloc_at _ _ _ _ rfl]; rfl
      have HA : Hid (∀ (s : B) (u : World), Below W.heap.size W u → Calls Tryd.prog 23 #[.int .u64 (un s), .pointer (some ⟨w4.heap.size, 0, none⟩)] u fun e w' => e = .returned (.bool (decide (AP (clr r) s))) ∧ Below W.heap.size W w') := by
        show ∀ (s : B) (u : World), _
        intro s u hu
        have hcu : u.cell? ⟨w4.heap.size, 0, none⟩ = some (.slice g2 r.length c2) := by rw [hu.cell (p := ⟨w4.heap.size, 0, none⟩) (by show w4.heap.size < _; omega)]; exact hWc
        have hCu : RowsAt u g2 (clr r).length (clr r) := by rw [HRL.out]; exact (HCL.out.below hBW).below hu
        refine (apart_ok (clr r) g2 c2 s w4.heap.size u hCu (by rw [HRL.out]; exact hcu) ((HT4.out.below hBW).below hu)).mono ?_
        rintro e w' ⟨he, hb⟩
        exact ⟨he, hu.trans (hb.mono hu.size)⟩
      have HBW : Hid (Below w.heap.size w W) := by show Below _ _ _; exact below_next HB4.out hBW
      have HA1 : Hid (Calls Tryd.prog 23 #[.int .u64 (un S), .pointer (some ⟨w4.heap.size, 0, none⟩)] (W.alloc (.cells #[.int .i64 0, .int .i64 0] 25)) fun e w' => e = .returned (.bool true) ∧ Below W.heap.size W w') := by
        show Calls _ _ _ _ _
        have := HA.out S _ ((Below.refl _ W).alloc (Nat.le_refl _) (.cells #[.int .i64 0, .int .i64 0] 25))
        rwa [decide_eq_true HAP.out] at this
      have HE1 : Hid (((cnt S : Nat) : Int) = (m : Int)) := by show _ = _; rw [HSZ.out]
      have HGD : Hid (Calls Tryd.prog 21 #[.slice (some ⟨w4.heap.size + 1, 0, none⟩) 2 2] (W.alloc (.cells #[.int .i64 0, .int .i64 0] 25)) fun e w' => e = .returned (.bool true) ∧ W.alloc (.cells #[.int .i64 0, .int .i64 0] 25) = w') := by
        show Calls _ _ _ _ _
        have hg := good2 0 0 W
        rw [hWs, HOK.out] at hg
        exact hg
      rw [hW] at HA1 HGD
      clear hBW hWs hWc HCL HT4
      by_cases hx : AP (clr r) x
      · have hle : (cnt x : Int) ≤ (m : Int) := by have := HLE.out hx; omega
        have HA2 : Hid (∀ u : World, Below W.heap.size W u → Calls Tryd.prog 23 #[.int .u64 (un x), .pointer (some ⟨w4.heap.size, 0, none⟩)] u fun e w' => e = .returned (.bool true) ∧ Below W.heap.size W w') := by
          show ∀ u : World, _
          intro u hu
          have := HA.out x u hu
          rwa [decide_eq_true hx] at this
        clear hx HA HLE
        go_wp2_with (first
          | (go_at_call 21; refine HGD.out.mono ?_; rintro e w' ⟨rfl, rfl⟩)
          | (go_at_call 24; refine (count_ok _ _).mono ?_; (first | rw [HE1.out] | skip); rintro e w' ⟨rfl, rfl⟩)
          | (go_at_call 23; refine (HA2.out _ HB5.out).mono ?_; rintro e w6 ⟨rfl, hb6⟩; have HB6 := Lib.hid hb6; clear hb6)
          | (go_at_call 23; refine HA1.out.mono ?_; rw [← hW]; rintro e w5 ⟨rfl, hb5⟩; have HB5 := Lib.hid hb5; clear hb5))
        go_ret
        exact ⟨rfl, below_next HBW.out HB6.out⟩
      · have HA2 : Hid (∀ u : World, Below W.heap.size W u → Calls Tryd.prog 23 #[.int .u64 (un x), .pointer (some ⟨w4.heap.size, 0, none⟩)] u fun e w' => e = .returned (.bool false) ∧ Below W.heap.size W w') := by
          show ∀ u : World, _
          intro u hu
          have := HA.out x u hu
          rwa [decide_eq_false hx] at this
        clear hx HA HLE
        go_wp2_with (first
          | (go_at_call 21; refine HGD.out.mono ?_; rintro e w' ⟨rfl, rfl⟩)
          | (go_at_call 24; refine (count_ok _ _).mono ?_; (first | rw [HE1.out] | skip); rintro e w' ⟨rfl, rfl⟩)
          | (go_at_call 23; refine (HA2.out _ HB5.out).mono ?_; rintro e w6 ⟨rfl, hb6⟩; have HB6 := Lib.hid hb6; clear hb6)
          | (go_at_call 23; refine HA1.out.mono ?_; rw [← hW]; rintro e w5 ⟨rfl, hb5⟩; have HB5 := Lib.hid hb5; clear hb5))
        go_ret
        exact ⟨rfl, below_next HBW.out HB6.out⟩
    · exact absurd ((stuck_zero_iff HO.out (fun n hn => by rw [has_zero] at hn; cases hn) hO' hS).1 rfl) hne
  · have hR2 := hR1.below hb2
    have hT2 := hT1.below hb2
    have hb12 := below_next hb1 hb2
    have HO := Lib.hid hO
    have HS := Lib.hid hS
    have HNE := Lib.hid hne
    clear hO hS hne hb1 hb2 hR1 hT1
    go_wp2_with fail
    refine (Apart_yes p _ c r H.out w2 hR2 hT2).mono ?_
    rintro e w3 ⟨⟨nx', ah', T, L, o', rfl, hO', hPD', hE⟩ | ⟨o', left', rfl, hne, hO', hS⟩, hb3⟩
    · exact absurd ((stuck_zero_iff hO' (fun n hn => by rw [has_zero] at hn; cases hn) HO.out HS.out).1 rfl) HNE.out
    · have hb13 := below_next hb12 hb3
      clear hO' hS hne hR2 hT2
      go_wp2
      go_ret
      exact ⟨rfl, hb13⟩
set_option maxHeartbeats 1000000 in
theorem dilworth_walk (p : Option Addr) (n c : Nat) (r : List B) (x : B) (w : World) (hR : RowsAt w p n r) (hT : Tab w) :
    Calls Tryd.prog 5 #[.slice p n c, .int .u64 (un x : Int)] w fun e w' => e = .returned (.bool true) ∧ Below w.heap.size w w' := by
  by_cases h : chkR r = 0
  · exact dilworth_yes p n c r x h w hR hT
  · obtain ⟨h1, h2⟩ := int_ne h
    have H := Lib.hid h
    have he : (chkR r == chkR r) = true := by simp
    clear h
    go_enter Tryd.func5, Tryd.ntmps5
    go_wp2_with fail
    refine (chains_below w hT).mono ?_
    rintro e w1 ⟨rfl, hb1⟩
    have hR1 := hR.below hb1
    go_wp2_with (first | (go_at_call 19; refine (Chains_no p _ c r H.out w1 hR1).mono ?_; rintro e w' ⟨rfl, rfl⟩) | (go_at_call 22; refine (Apart_no p _ c r H.out w1 hR1).mono ?_; rintro e w' ⟨rfl, rfl⟩))
    go_ret
    exact ⟨rfl, hb1⟩
end Go.Proofs.YtklikjjipoghlaaDoor
