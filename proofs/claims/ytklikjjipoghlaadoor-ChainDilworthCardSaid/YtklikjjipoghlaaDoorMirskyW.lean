/- The walk through the law ChainMirsky. Conditions: the table reads as listed. -/
import Derived.Test.YtklikjjipoghlaaDoorLevelW
import Derived.Deep.QuietTactic
import Derived.BigQuiet
namespace Go.Proofs.YtklikjjipoghlaaDoor
open Go.RowKit
/-- a level is one more than the highest of the first j -/
theorem top_next (L xs : List Nat) {j : Nat} (h : j < xs.length) : max ((topOf L (xs.take j) : Int) - 1) (L.getD (xs.getD j 0) 0 : Int) = (topOf L (xs.take (j + 1)) : Int) - 1 := by
  rw [topOf_take L xs h]; omega
theorem has_quiet {s : B} {n : Int} {v : Bool} {w : World} {k : Nat} (h : hasI s n = v) : Calls Tryd.prog 18 #[.int .u64 (un s), .int .i64 n] (w.drewN k) fun e w' => e = .returned (.bool v) ∧ ∃ m, w' = w.drewN m :=
  (has_ok s n _).mono fun _ _ ⟨h1, h2⟩ => ⟨by rw [h1, h], k, h2.symm⟩
set_option maxRecDepth 100000 in
set_option maxHeartbeats 4000000 in
theorem mirsky_yes (p : Option Addr) (n c : Nat) (r : List B) (a b : Int) (h : chkR r = 0) (w : World) (hR : RowsAt w p n r) (hT : Tab w) :
    Calls Tryd.prog 3 #[.slice p n c, .int .i64 a, .int .i64 b] w fun e w' => e = .returned (.bool true) ∧ Below w.heap.size w w' := by
  have hl := hR.len
  subst hl
  have H := Lib.hid h
  have HV := Lib.hid (chkR_zero.1 h)
  have h64 := (chkR_zero.1 h).1
  have HBG := Lib.hid hR.big
  clear h
  go_enter Tryd.func3, Tryd.ntmps3
  go_wp2_with fail
  refine (chains_below w hT).mono ?_
  rintro e w1 ⟨rfl, hb1⟩
  have hR1 := hR.below hb1
  have hT1 := hT.below hb1
  clear hR hT
  go_wp2_with fail
  refine (Levels_yes p _ c r H.out w1 hR1 hT1).mono ?_
  rintro e w2 (⟨L, g, cg, rfl, hL, hown, hb2⟩ | ⟨o, left, rfl, hne, hO, hS, hb2⟩)
  · have hR2 := hR1.below hb2
    have hT2 := hT1.below hb2
    have hb12 := below_next hb1 hb2
    have HL := Lib.hid hL
    clear hb1 hb2 hR1 hT1 hL
    go_wp2_with fail
    go_loopw [35] (fun i wr => ∃ k : Nat, k ≤ r.length ∧ i = .int .i64 k ∧ Below w2.heap.size w2 wr) (fun i _ => r.length - (intOf i).toNat)
    case atStart => exact ⟨0, Nat.zero_le _, rfl, Below.refl _ _⟩
    case round =>
      obtain ⟨k, hk, rfl, hbr⟩ := hrel
      obtain ⟨wo, rfl⟩ : ∃ wo : World, wo = wr := ⟨_, rfl⟩
      have hRr := hR2.below hbr
      have hTr := hT2.below hbr
      by_cases hlt : k < r.length
      · obtain ⟨ad, rfl, _, hc⟩ := hRr.cell hlt
        have hlk : Hid (L.getD k 0 = topOf L (lst (row r k))) := HL.out.2.1 k hlt
        have hin : Hid (∀ j, has (row r k) j = true → j < r.length) := fun j hj => HV.out.2 k j hj
        have hle := HL.out.2.2 k
        generalize row r k = x at *
        have hcx := cnt_le x
        have hlx := Lib.hid (cnt_lst x)
        go_wp2_with (go_at_call 16; refine (List_ok x _ hTr).mono ?_; rintro e w3 ⟨gl, cl, rfl, hownl, hb3⟩)
        have hb23 := below_next hbr hb3
        have hLr := Reads.of_own (own_below hown hb23)
        have hXr := Reads.of_own hownl
        have hb02 := Lib.hid hb23
        clear hRr hTr hbr hb3 hownl hc hb23
        go_loop [11, 43] (fun t i => ∃ j : Nat, j ≤ cnt x ∧ i = .int .i64 j ∧ t = .int .i64 ((topOf L ((lst x).take j) : Int) - 1)) (fun _ i => cnt x - (intOf i).toNat)
        case atStart => exact ⟨0, Nat.zero_le _, rfl, rfl⟩
        case round =>
          obtain ⟨j, hj, rfl, rfl⟩ := hrel
          by_cases hjl : j < cnt x
          · have hjl' : j < (lst x).length := by rw [← hlx.out]; exact hjl
            have hq : (lst x).getD j 0 < r.length := hin.out _ (mem_lst.1 (getD_mem hjl'))
            have HTN := Lib.hid (top_next L (lst x) hjl')
            obtain ⟨al, rfl, _, hcl⟩ := hXr.int_at hjl
            obtain ⟨ag, rfl, _, hcg⟩ := hLr.int_at hq
            clear hXr hLr hjl'
            generalize (lst x).getD j 0 = q at *
            generalize L.getD q 0 = v at *
            generalize topOf L ((lst x).take j) = m at *
            go_wp2
            go_round
            case rel => exact ⟨j + 1, by omega, by go_num, by rw [← HTN.out]⟩
            case measure => simp [intOf]; omega
          · obtain rfl : j = cnt x := by omega
            have ht : topOf L ((lst x).take (cnt x)) = L.getD k 0 := by rw [hlk.out, hlx.out, List.take_length]
            rw [ht]
            obtain ⟨ag, rfl, _, hcg⟩ := hLr.int_at hlt
            clear ht hXr hLr
            generalize L.getD k 0 = m at *
            go_wp2
            go_roundw
            case rel => exact ⟨k + 1, by omega, by go_num, hb02.out⟩
            case measure => simp [intOf]; omega
      · obtain rfl : k = r.length := by omega
        have hown3 := own_below hown hbr
        have hb13 := below_next hb12 hbr
        clear hR2 hT2 hown hb12 hbr
        go_wp2_with fail
        refine (Close_yes p _ c r H.out wo hRr hTr).mono ?_
        rintro e w4 ⟨g2, c2, rfl, hown2, hb4⟩
        have hC := rows_own hown2 (clr_len r) HBG.out
        have hLr := Reads.of_own (own_below hown3 hb4)
        have hb := below_next hb13 hb4
        clear hown2 hown3 hb13 hb4 hRr hTr
        by_cases hab : 0 ≤ a ∧ a < r.length ∧ 0 ≤ b ∧ b < r.length
        · obtain ⟨a, rfl⟩ := Int.eq_ofNat_of_zero_le hab.1
          obtain ⟨b, rfl⟩ := Int.eq_ofNat_of_zero_le hab.2.2.1
          have ha : a < r.length := by omega
          have hb' : b < r.length := by omega
          obtain ⟨ac, rfl, _, hcc⟩ := hC.cell ha
          obtain ⟨al, rfl, _, hca⟩ := hLr.int_at ha
          obtain ⟨al', hal', _, hcb⟩ := hLr.int_at hb'
          injection hal' with hal'
          subst hal'
          have HLT : Hid (has (row (clr r) a) b = true → L.getD b 0 < L.getD a 0) := fun hh => lev_clr HL.out ha hh
          clear hC hLr hab
          have i1 : (0 : Int) ≤ (a : Int) := by omega
          have i2 : (a : Int) < (r.length : Int) := by omega
          have i3 : (0 : Int) ≤ (b : Int) := by omega
          have i4 : (b : Int) < (r.length : Int) := by omega
          generalize row (clr r) a = x at *
          generalize L.getD a 0 = y at *
          generalize L.getD b 0 = z at *
          cases hx : has x b
          · have HX : Hid (hasI x (b : Int) = false) := by show hasI x _ = false; unfold hasI; rw [Int.toNat_natCast, hx]; simp
            clear hx HLT
            go_wp2
            go_quiet ((go_at_call 18; exact has_quiet HX.out))
            go_wp2
            go_ret
            exact ⟨rfl, below_draws hb _⟩
          · have HX : Hid (hasI x (b : Int) = true) := by show hasI x _ = true; unfold hasI; rw [Int.toNat_natCast, hx]; simp
            have hlt : (z : Int) < (y : Int) := by have := HLT.out hx; omega
            clear hx HLT
            go_wp2
            go_quiet ((go_at_call 18; exact has_quiet HX.out))
            go_wp2
            go_ret
            exact ⟨rfl, below_draws hb _⟩
        · have hcs : a < 0 ∨ (0 ≤ a ∧ (r.length : Int) ≤ a) ∨ (0 ≤ a ∧ a < r.length ∧ b < 0) ∨ (0 ≤ a ∧ a < r.length ∧ 0 ≤ b ∧ (r.length : Int) ≤ b) := by omega
          clear hab hC hLr
          rcases hcs with h1 | ⟨h1, h2⟩ | ⟨h1, h2, h3⟩ | ⟨h1, h2, h3, h4⟩
          all_goals
            go_wp2
            go_ret
            exact ⟨rfl, hb⟩
  · have hb := below_next hb1 hb2
    clear hb1 hb2 hR1 hT1 hne hO hS
    go_wp2
    go_ret
    exact ⟨rfl, hb⟩
set_option maxHeartbeats 1000000 in
theorem mirsky_walk (p : Option Addr) (n c : Nat) (r : List B) (a b : Int) (w : World) (hR : RowsAt w p n r) (hT : Tab w) :
    Calls Tryd.prog 3 #[.slice p n c, .int .i64 a, .int .i64 b] w fun e w' => e = .returned (.bool true) ∧ Below w.heap.size w w' := by
  by_cases h : chkR r = 0
  · exact mirsky_yes p n c r a b h w hR hT
  · obtain ⟨h1, h2⟩ := int_ne h
    have H := Lib.hid h
    clear h
    go_enter Tryd.func3, Tryd.ntmps3
    go_wp2_with fail
    refine (chains_below w hT).mono ?_
    rintro e w1 ⟨rfl, hb1⟩
    have hR1 := hR.below hb1
    go_wp2_with (go_at_call 15; refine (Levels_no p _ c r H.out w1 hR1).mono ?_; rintro e w' ⟨rfl, rfl⟩)
    go_ret
    exact ⟨rfl, hb1⟩
end Go.Proofs.YtklikjjipoghlaaDoor
