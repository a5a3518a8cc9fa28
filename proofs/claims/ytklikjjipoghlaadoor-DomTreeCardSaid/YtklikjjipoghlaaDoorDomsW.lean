/- The walks through dom.Doms, dom.Over and the fact doms. Conditions: the table reads as listed. -/
import Derived.Test.YtklikjjipoghlaaDoorDomRowW
import Derived.Test.YtklikjjipoghlaaDoorDomChain
namespace Go.Proofs.YtklikjjipoghlaaDoor
open Go.RowKit
theorem izs_snoc (l : List Int) (x : Int) : izs (l ++ [x]) = izs l ++ [.int .i64 x] := by unfold izs; rw [List.map_append]; rfl
/-- what Doms answers of right rows and a right root -/
def DomsPost (r : List B) (root : Nat) (w : World) (e : Ending) (w' : World) : Prop :=
  ∃ (D : List B) (ds : List Int) (g : Option Addr) (cg : Nat), e = .returned (.tuple #[.slice g r.length cg, .int .i64 0]) ∧ DomDone r root D ∧ DomsL r D ds ∧ w'.ownsRow w.heap.size 3 1 (.slice g r.length cg) r.length (izs ds) ∧ Below w.heap.size w w'
theorem dom_in {r D : List B} {root : Nat} (hv : Valid r) (hr : root < r.length) (h : DomInv r root D) {n j : Nat} (hj : has (row D n) j = true) : j < r.length := by
  have h64 : root < 64 := by have := hv.1; omega
  exact ball_in hv (s := 1#64 <<< root) (fun k hk => by rw [has_one' h64] at hk; omega) 64 _ (h.inside n j hj)
set_option maxRecDepth 100000 in
set_option maxHeartbeats 4000000 in
theorem Doms_yes (p : Option Addr) (n c : Nat) (r : List B) (root : Nat) (h : chkD r [(root : Int)] = 0) (w : World) (hR : RowsAt w p n r) (hT : Tab w) :
    Calls Tryd.prog 34 #[.slice p n c, .int .i64 (root : Int)] w (DomsPost r root w) := by
  have hl := hR.len
  subst hl
  have HBG := Lib.hid hR.big
  have H := Lib.hid h
  obtain ⟨hv, hin⟩ := chkD_in h
  have hr : root < r.length := by have := hin (root : Int) (by simp); omega
  have h64 := hv.1
  have HV := Lib.hid hv
  clear h hv hin
  have hb1 : Below w.heap.size w (w.alloc (.cells #[.int .i64 (root : Int)] 3)) := (Below.refl _ _).alloc (Nat.le_refl _) _
  have hR1 := hR.below hb1
  have hT1 := hT.below hb1
  go_enter Tryd.func34, Tryd.ntmps34
  go_wp2_with (go_at_call 62; refine (checkD_ok _ _ _ r _ 1 _ _ [(root : Int)] _ hR1 (errs_reads w [(root : Int)] _) (by omega)).mono ?_; rw [H.out]; rintro e w' ⟨rfl, rfl⟩)
  refine (over_ok p _ c r HV.out root hr _ hR1 hT1).mono ?_
  rintro e w2 ⟨D, g, cg, rfl, hD, hown, hb2⟩
  have hRD := rows_own hown hD.1.len HBG.out
  have hT2 := hT1.below hb2
  have hb12 := below_next hb1 hb2
  have HD := Lib.hid hD
  clear hown hD hb1 hb2 hR hR1 hT hT1
  go_wp2_with fail
  go_loopw [8, 24] (fun v i wr => ∃ (k : Nat) (ds : List Int), k ≤ r.length ∧ i = .int .i64 k ∧ Hid (ds.length = k ∧ ∀ m, m < k → ∃ xs, SortD D m xs ∧ ds.getD m 0 = idomOf xs) ∧ wr.ownsRow w2.heap.size 3 1 v k (izs ds) ∧ Below w2.heap.size w2 wr) (fun _ i _ => r.length - (intOf i).toNat)
  case atStart => exact ⟨0, [], Nat.zero_le _, rfl, ⟨rfl, fun m hm => absurd hm (by omega)⟩, World.ownsRow_nil _ _ _ _, Below.refl _ _⟩
  case round =>
    obtain ⟨k, ds, hk, rfl, HK, hown, hbr⟩ := hrel
    obtain ⟨wo, rfl⟩ : ∃ wo : World, wo = wr := ⟨_, rfl⟩
    obtain ⟨gd, cd, rfl, hfb⟩ := own_form hown
    by_cases hlt : k < r.length
    · have hDr := hRD.below hbr
      have hTr := hT2.below hbr
      have hszr := hbr.size
      have HIN : Hid (∀ j, has (row D k) j = true → j < r.length) := fun j hj => dom_in HV.out hr HD.out.1 hj
      have hcx := cnt_le (row D k)
      go_wp2_with fail
      refine (row_ok D g _ cg k hlt HIN.out wo hDr hTr).mono ?_
      rintro e w3 ⟨xs, gx, cx, rfl, hp, hs, hownx, hb3⟩
      have hxl : xs.length ≤ 64 := by rw [hp.length_eq, ← cnt_lst]; exact hcx
      have hxr := Reads.of_own hownx
      have hown3 := own_below hown hb3
      have hb23 := below_next hbr hb3
      have hsz3 := hb23.size
      have HN : Hid (∀ x : Int, x = idomOf xs → (ds ++ [x]).length = k + 1 ∧ ∀ m, m < k + 1 → ∃ xs, SortD D m xs ∧ (ds ++ [x]).getD m 0 = idomOf xs) := by
        show ∀ x, _ → _
        intro x hx
        obtain ⟨h1, h2⟩ := HK.out
        refine ⟨by rw [List.length_append, h1]; rfl, fun m hm => ?_⟩
        rcases Nat.lt_or_ge m k with h3 | h3
        · obtain ⟨ys, h4, h5⟩ := h2 m h3
          refine ⟨ys, h4, ?_⟩
          rw [List.getD_eq_getElem?_getD, List.getElem?_append_left (by omega), ← List.getD_eq_getElem?_getD]; exact h5
        · have : m = k := by omega
          subst this
          refine ⟨xs, ⟨hp, hs⟩, ?_⟩
          rw [← hx, List.getD_eq_getElem?_getD, List.getElem?_append_right (by omega), h1]; simp
      have HOW := Lib.hid hown3
      have HBB := Lib.hid hb23
      have HFB : Hid (∀ b, (Value.slice gd k cd).ownBlock = some b → w2.heap.size ≤ b ∧ b < w3.heap.size) := by
        obtain ⟨_, _, _, h⟩ := own_form hown3
        exact h
      clear hown hown3 hb23 hb3 hbr hp hs hownx hDr hTr hfb HK
      by_cases h1 : 1 < xs.length
      · obtain ⟨ad, rfl, _, hc⟩ := hxr.int_at (k := xs.length - 2) (by omega)
        have HX : Hid ((xs.getD (xs.length - 2) 0 : Int) = idomOf xs) := by show _ = idomOf xs; unfold idomOf; rw [if_pos h1]
        have HNN := Lib.hid (HN.out _ HX.out)
        have HIS := Lib.hid (izs_snoc ds (xs.getD (xs.length - 2) 0 : Int))
        clear hxr HN HX
        have hi2 : ((xs.length : Int) - 2).toNat = xs.length - 2 := by omega
        have i1 : (0 : Int) ≤ (xs.length : Int) - 2 := by omega
        generalize xs.getD (xs.length - 2) 0 = y at *
        go_wp2_with (at_builtin; refine app_int _ rfl _ _ rfl w2.heap.size _ k _ rfl (HOW.out.alloc _) w3.heap.size (.int .i64 (y : Int)) rfl rfl ?c1 (by omega) ?c2 ?_; rotate_right; intro v' w4 hown4 hgrow4)
        case c1 => simp
        case c2 => simp; omega
        rw [← HIS.out] at hown4
        have hb4 : Below w2.heap.size w2 w4 := (HBB.out.alloc hsz3 _).grown hgrow4 (by simp; omega) (fun k hk => (HFB.out k hk).1)
        clear hgrow4 hc
        go_wp2
        go_roundw
        case rel => exact ⟨k + 1, _, by omega, by go_num, HNN.out, hown4, hb4⟩
        case measure => simp [intOf]; omega
      · have HX : Hid ((-1 : Int) = idomOf xs) := by show _ = idomOf xs; unfold idomOf; rw [if_neg h1]
        have HNN := Lib.hid (HN.out _ HX.out)
        have HIS := Lib.hid (izs_snoc ds (-1 : Int))
        clear hxr HN HX
        go_wp2_with (at_builtin; refine app_int _ rfl _ _ rfl w2.heap.size _ k _ rfl (HOW.out.alloc _) w3.heap.size (.int .i64 (-1)) rfl rfl ?c1 (by omega) ?c2 ?_; rotate_right; intro v' w4 hown4 hgrow4)
        case c1 => simp
        case c2 => simp; omega
        rw [← HIS.out] at hown4
        have hb4 : Below w2.heap.size w2 w4 := (HBB.out.alloc hsz3 _).grown hgrow4 (by simp; omega) (fun k hk => (HFB.out k hk).1)
        clear hgrow4
        go_wp2
        go_roundw
        case rel => exact ⟨k + 1, _, by omega, by go_num, HNN.out, hown4, hb4⟩
        case measure => simp [intOf]; omega
    · obtain rfl : k = r.length := by omega
      have HBB := Lib.hid (below_next hb12 hbr)
      have HOW := Lib.hid (World.ownsRow.mono hown hb12.size)
      clear hown hbr hRD hT2 hfb hb12
      go_wp2
      go_ret2
      exact ⟨D, ds, gd, cd, rfl, HD.out, HK.out, HOW.out, HBB.out⟩
set_option maxHeartbeats 1000000 in
theorem Doms_no (p : Option Addr) (n c : Nat) (r : List B) (root : Int) (h : chkD r [root] ≠ 0) (w : World) (hR : RowsAt w p n r) :
    Calls Tryd.prog 34 #[.slice p n c, .int .i64 root] w
      fun e w' => e = .returned (.tuple #[.slice none 0 0, .int .i64 (chkD r [root])]) ∧ Below w.heap.size w w' := by
  obtain ⟨h1, h2⟩ := int_ne h
  clear h
  have hb1 : Below w.heap.size w (w.alloc (.cells #[.int .i64 root] 3)) := (Below.refl _ _).alloc (Nat.le_refl _) _
  have hR1 := hR.below hb1
  go_enter Tryd.func34, Tryd.ntmps34
  go_wp2_with (go_at_call 62; refine (checkD_ok _ _ _ r _ 1 _ _ [root] _ hR1 (errs_reads w [root] _) (by omega)).mono ?_; rintro e w' ⟨rfl, rfl⟩)
  go_ret2
  exact ⟨rfl, hb1⟩
/-- what Over answers of right numbers -/
def OverPost (r : List B) (root n : Nat) (w : World) (e : Ending) (w' : World) : Prop :=
  ∃ (D : List B) (xs : List Nat) (g : Option Addr) (cg : Nat), e = .returned (.tuple #[.slice g xs.length cg, .int .i64 0]) ∧ DomDone r root D ∧ SortD D n xs ∧ w'.ownsRow w.heap.size 3 1 (.slice g xs.length cg) xs.length (ints xs) ∧ Below w.heap.size w w'
set_option maxHeartbeats 2000000 in
theorem Over_yes (p : Option Addr) (n c : Nat) (r : List B) (root m : Nat) (h : chkD r [(root : Int), (m : Int)] = 0) (w : World) (hR : RowsAt w p n r) (hT : Tab w) :
    Calls Tryd.prog 35 #[.slice p n c, .int .i64 (root : Int), .int .i64 (m : Int)] w (OverPost r root m w) := by
  have hl := hR.len
  subst hl
  have HBG := Lib.hid hR.big
  have H := Lib.hid h
  obtain ⟨hv, hin⟩ := chkD_in h
  have hr : root < r.length := by have := hin (root : Int) (by simp); omega
  have hm : m < r.length := by have := hin (m : Int) (by simp); omega
  have h64 := hv.1
  have HV := Lib.hid hv
  clear h hv hin
  have hb1 : Below w.heap.size w (w.alloc (.cells #[.int .i64 (root : Int), .int .i64 (m : Int)] 3)) := (Below.refl _ _).alloc (Nat.le_refl _) _
  have hR1 := hR.below hb1
  have hT1 := hT.below hb1
  go_enter Tryd.func35, Tryd.ntmps35
  go_wp2_with (go_at_call 62; refine (checkD_ok _ _ _ r _ 2 _ _ [(root : Int), (m : Int)] _ hR1 (errs_reads w [(root : Int), (m : Int)] _) (by omega)).mono ?_; rw [H.out]; rintro e w' ⟨rfl, rfl⟩)
  refine (over_ok p _ c r HV.out root hr _ hR1 hT1).mono ?_
  rintro e w2 ⟨D, g, cg, rfl, hD, hown, hb2⟩
  have hRD := rows_own hown hD.1.len HBG.out
  have hT2 := hT1.below hb2
  have hb12 := below_next hb1 hb2
  have HD := Lib.hid hD
  have HIN : Hid (∀ j, has (row D m) j = true → j < r.length) := fun j hj => dom_in HV.out hr hD.1 hj
  clear hown hD hb1 hb2 hR hR1 hT hT1
  go_wp2_with fail
  refine (row_ok D g _ cg m hm HIN.out w2 hRD hT2).mono ?_
  rintro e w3 ⟨xs, gx, cx, rfl, hp, hs, hownx, hb3⟩
  have HS : Hid (SortD D m xs) := ⟨hp, hs⟩
  have HBB := Lib.hid (below_next hb12 hb3)
  have HOW := Lib.hid (World.ownsRow.mono hownx hb12.size)
  clear hp hs hownx hb3 hb12 hRD hT2
  go_wp2
  go_ret2
  exact ⟨D, xs, gx, cx, rfl, HD.out, HS.out, HOW.out, HBB.out⟩
set_option maxHeartbeats 1000000 in
theorem Over_no (p : Option Addr) (n c : Nat) (r : List B) (root m : Int) (h : chkD r [root, m] ≠ 0) (w : World) (hR : RowsAt w p n r) :
    Calls Tryd.prog 35 #[.slice p n c, .int .i64 root, .int .i64 m] w
      fun e w' => e = .returned (.tuple #[.slice none 0 0, .int .i64 (chkD r [root, m])]) ∧ Below w.heap.size w w' := by
  obtain ⟨h1, h2⟩ := int_ne h
  clear h
  have hb1 : Below w.heap.size w (w.alloc (.cells #[.int .i64 root, .int .i64 m] 3)) := (Below.refl _ _).alloc (Nat.le_refl _) _
  have hR1 := hR.below hb1
  go_enter Tryd.func35, Tryd.ntmps35
  go_wp2_with (go_at_call 62; refine (checkD_ok _ _ _ r _ 2 _ _ [root, m] _ hR1 (errs_reads w [root, m] _) (by omega)).mono ?_; rintro e w' ⟨rfl, rfl⟩)
  go_ret2
  exact ⟨rfl, hb1⟩
theorem doms_two {D : List B} {ds : List Int} (h : DomDone [2#64, 0#64] 0 D) (hd : DomsL [2#64, 0#64] D ds) : ds.getD 0 0 = -1 ∧ ds.getD 1 0 = 0 := by
  have hv : Valid [2#64, 0#64] := chkR_zero.1 knots_rows
  refine ⟨doms_root hv (by decide) h hd, ?_⟩
  have he : has (row [2#64, 0#64] 0) 1 = true := by decide +kernel
  have hr : Rch [2#64, 0#64] 0 1 := .tail (.refl 0) he
  obtain ⟨xs, s, e⟩ := hd.2 1 (by decide)
  rw [e]
  have h1 := s.first hv (by decide) h hr
  obtain ⟨h2, h3⟩ := s.last hv (by decide) h hr
  have hl2 : xs.length ≤ 2 := by
    have h4 : xs.length ≤ (List.range 2).length := List.Nodup.length_le_of_subset s.nodup (fun y hy => by
      rw [List.mem_range]
      have h5 := s.perm.mem_iff.1 hy
      exact dom_in hv (by decide) h.1 (mem_lst.1 h5))
    simpa using h4
  have hl : xs.length = 2 := by
    rcases Nat.lt_or_ge xs.length 2 with h4 | h4
    · have : xs.length - 1 = 0 := by omega
      rw [this, h1] at h3
      cases h3
    · omega
  unfold idomOf
  rw [if_pos (by omega), hl, h1]; rfl
set_option maxHeartbeats 1000000 in
theorem doms_below (w : World) (hT : Tab w) : Calls Tryd.prog 32 #[] w fun e w' => e = .returned (.bool true) ∧ Below w.heap.size w w' := by
  have hb1 : Below w.heap.size w (w.alloc (.cells #[.int .u64 2, .int .u64 0] 28)) := (Below.refl _ _).alloc (Nat.le_refl _) _
  have hR := rows_two w 2#64 0#64
  have hck : chkD [2#64, 0#64] [((0 : Nat) : Int)] = 0 := chkD_zero.2 ⟨knots_rows, by simp⟩
  have HCK := Lib.hid hck
  clear hck
  go_enter Tryd.func32, Tryd.ntmps32
  go_wp2_with fail
  refine (Doms_yes _ _ _ [2#64, 0#64] 0 HCK.out _ hR (hT.below hb1)).mono ?_
  rintro e w1 ⟨D, ds, g, cg, rfl, hD, hL, hown, hb2⟩
  obtain ⟨h0, h1⟩ := doms_two hD hL
  have hLr := Reads.of_own hown
  obtain ⟨ad, rfl, _, hc⟩ := hLr.izs_at (k := 0) (by simp)
  obtain ⟨ad', had, _, hc2⟩ := hLr.izs_at (k := 1) (by simp)
  injection had with had
  subst had
  rw [h0] at hc
  rw [h1] at hc2
  have hb := below_next hb1 hb2
  clear h0 h1 hD hL hown hLr hb1 hb2 hR hT
  have hc0 : w1.cell? ad = some (.int .i64 (-1)) := by simpa [Addr.add] using hc
  clear hc
  have hc1 := hc2
  simp only [Addr.add, Nat.one_ne_zero, if_false] at hc1
  clear hc2
  go_wp2
  go_ret
  exact ⟨rfl, hb⟩
end Go.Proofs.YtklikjjipoghlaaDoor
