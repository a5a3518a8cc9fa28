/- The walks through reach.Close and chain.below. Conditions: the table reads as listed. -/
import Derived.Test.YtklikjjipoghlaaDoorKnotW
import Derived.Test.YtklikjjipoghlaaDoorLevel
import Derived.Test.YtklikjjipoghlaaDoorAppU
namespace Go.Proofs.YtklikjjipoghlaaDoor
open Go.RowKit
theorem clr_snoc (r : List B) {k : Nat} (h : k < r.length) : u64s ((clr r).take (k + 1)) = u64s ((clr r).take k) ++ [.int .u64 (un (cls r (row r k)) : Int)] := by
  rw [List.take_succ_eq_append_getElem (by rw [clr_len]; exact h)]
  unfold u64s
  rw [List.map_append]
  unfold clr row
  simp [h]
set_option maxRecDepth 100000 in
set_option maxHeartbeats 2000000 in
theorem Close_yes (p : Option Addr) (n c : Nat) (r : List B) (h : chkR r = 0) (w : World) (hR : RowsAt w p n r) (hT : Tab w) :
    Calls Tryd.prog 17 #[.slice p n c] w
      fun e w' => ∃ (g : Option Addr) (cg : Nat), e = .returned (.tuple #[.slice g n cg, .int .i64 0]) ∧ w'.ownsRow w.heap.size 28 1 (.slice g n cg) n (u64s (clr r)) ∧ Below w.heap.size w w' := by
  have H := Lib.hid h
  have HV := Lib.hid (chkR_zero.1 h)
  have h64 := (chkR_zero.1 h).1
  have hl := hR.len
  subst hl
  clear h
  go_enter Tryd.func17, Tryd.ntmps17
  go_wp2_with (go_at_call 50; refine (Check_ok _ _ _ r _ hR).mono ?_; rw [H.out]; rintro e w' ⟨rfl, rfl⟩)
  go_loopw [5, 15] (fun v i wr => ∃ k : Nat, k ≤ r.length ∧ i = .int .i64 k ∧ wr.ownsRow w.heap.size 28 1 v k (u64s ((clr r).take k)) ∧ Below w.heap.size w wr) (fun _ i _ => r.length - (intOf i).toNat)
  case atStart => exact ⟨0, Nat.zero_le _, rfl, World.ownsRow_nil _ _ _ _, Below.refl _ _⟩
  case round =>
    obtain ⟨k, hk, rfl, hown, hbr⟩ := hrel
    obtain ⟨wo, rfl⟩ : ∃ wo : World, wo = wr := ⟨_, rfl⟩
    obtain ⟨g, cg, rfl, hfb⟩ := own_form hown
    by_cases hlt : k < r.length
    · have hRr := hR.below hbr
      have hTr := hT.below hbr
      have hszr := hbr.size
      obtain ⟨ad, rfl, hb, hc⟩ := hRr.cell hlt
      have HIN : Hid (∀ j, has (row r k) j = true → j < r.length) := fun j hj => HV.out.2 k j hj
      have HS := Lib.hid (clr_snoc r hlt)
      have HBR := Lib.hid hbr
      have HOW := Lib.hid hown
      have HFB := Lib.hid hfb
      clear hbr hown hfb hR hT hb
      generalize row r k = x at *
      go_wp2_with (first | (go_at_call 51; refine (from_all _ _ _ r HV.out x HIN.out _ hRr hTr).mono ?_; rintro e w' ⟨rfl, rfl⟩) | (at_builtin; refine app_u64 _ rfl _ _ rfl w.heap.size _ k _ rfl (HOW.out.alloc _) wo.heap.size (.int .u64 (un (cls r x) : Int)) rfl rfl ?c1 (by omega) ?c2 ?_; rotate_right; intro v' w2 hown2 hgrow2))
      case c1 => simp
      case c2 => simp; omega
      rw [← HS.out] at hown2
      have hb2 : Below w.heap.size w w2 := (HBR.out.alloc hszr _).grown hgrow2 (by simp; omega) (fun k hk => (HFB.out k hk).1)
      clear hgrow2 hRr hTr hc
      go_wp2
      go_roundw
      case rel => exact ⟨k + 1, by omega, by go_num, hown2, hb2⟩
      case measure => simp [intOf]; omega
    · obtain rfl : k = r.length := by omega
      have hall : (clr r).take r.length = clr r := by rw [← clr_len r]; exact List.take_length
      rw [hall] at hown
      clear hall
      go_wp2
      go_ret2
      exact ⟨g, cg, rfl, hown, hbr⟩
/-- what below answers of right rows -/
def BelowPost (r : List B) (w : World) (e : Ending) (w' : World) : Prop :=
  (∃ (o : List Nat) (p1 g : Option Addr) (c1 cg : Nat), e = .returned (.tuple #[.slice p1 r.length c1, .slice g o.length cg, .int .i64 0]) ∧ KOrd r o 0#64 ∧ RowsAt w' p1 r.length (clr r) ∧ w'.ownsRow w.heap.size 3 1 (.slice g o.length cg) o.length (ints o) ∧ Below w.heap.size w w') ∨
  (∃ (o : List Nat) (left : B), e = .returned (.tuple #[.slice none 0 0, .slice none 0 0, .int .i64 8]) ∧ left ≠ 0#64 ∧ KOrd r o left ∧ Stuck r left ∧ Below w.heap.size w w')
set_option maxHeartbeats 1000000 in
theorem chainBelow_yes (p : Option Addr) (n c : Nat) (r : List B) (h : chkR r = 0) (w : World) (hR : RowsAt w p n r) (hT : Tab w) :
    Calls Tryd.prog 48 #[.slice p n c] w (BelowPost r w) := by
  have H := Lib.hid h
  have hl := hR.len
  have HB := Lib.hid hR.big
  subst hl
  clear h
  go_enter Tryd.func48, Tryd.ntmps48
  go_wp2_with fail
  refine (Order_yes p _ c r H.out w hR hT).mono ?_
  rintro e w1 (⟨o, g, cg, rfl, hO, hS, hown, hb1⟩ | ⟨o, left, rfl, hne, hO, hS, hb1⟩)
  · have hR1 := hR.below hb1
    have hT1 := hT.below hb1
    have HO := Lib.hid hO
    clear hO hS hR hT
    go_wp2_with fail
    refine (Close_yes p _ c r H.out w1 hR1 hT1).mono ?_
    rintro e w2 ⟨g2, c2, rfl, hown2, hb2⟩
    have hB := Lib.hid (rows_own hown2 (clr_len r) HB.out)
    have hOW := Lib.hid (own_below hown hb2)
    have hb := below_next hb1 hb2
    clear hown hown2 hb1 hb2 hR1 hT1
    go_wp2
    go_ret3
    exact .inl ⟨o, g2, g, c2, cg, rfl, HO.out, hB.out, hOW.out, hb⟩
  · have HO := Lib.hid hO
    have HS := Lib.hid hS
    have HN := Lib.hid hne
    clear hR hT hO hS hne
    go_wp2
    go_ret3
    exact .inr ⟨o, left, rfl, HN.out, HO.out, HS.out, hb1⟩
set_option maxHeartbeats 1000000 in
theorem chainBelow_no (p : Option Addr) (n c : Nat) (r : List B) (h : chkR r ≠ 0) (w : World) (hR : RowsAt w p n r) :
    Calls Tryd.prog 48 #[.slice p n c] w fun e w' => e = .returned (.tuple #[.slice none 0 0, .slice none 0 0, .int .i64 (chkR r)]) ∧ w = w' := by
  obtain ⟨h1, h2⟩ := int_ne h
  have H := Lib.hid h
  clear h
  go_enter Tryd.func48, Tryd.ntmps48
  go_wp2_with (go_at_call 44; refine (Order_no p _ c r H.out w hR).mono ?_; rintro e w' ⟨rfl, rfl⟩)
  go_ret3
  exact ⟨rfl, rfl⟩
set_option maxHeartbeats 1000000 in
theorem Close_no (p : Option Addr) (n c : Nat) (r : List B) (h : chkR r ≠ 0) (w : World) (hR : RowsAt w p n r) :
    Calls Tryd.prog 17 #[.slice p n c] w fun e w' => e = .returned (.tuple #[.slice none 0 0, .int .i64 (chkR r)]) ∧ w = w' := by
  obtain ⟨h1, h2⟩ := int_ne h
  clear h
  go_enter Tryd.func17, Tryd.ntmps17
  go_wp2_with (go_at_call 50; refine (Check_ok _ _ _ r _ hR).mono ?_; rintro e w' ⟨rfl, rfl⟩)
  go_ret2
  exact ⟨rfl, rfl⟩
end Go.Proofs.YtklikjjipoghlaaDoor
