/- The walks through the laws DomOrder and DomRules. Conditions: the table reads as listed. -/
import Derived.Test.YtklikjjipoghlaaDoorDomsW
namespace Go.Proofs.YtklikjjipoghlaaDoor
open Go.RowKit
/-- what Rules answers, whatever it is asked -/
def RulesPost (r : List B) (root a b : Int) (w : World) (e : Ending) (w' : World) : Prop :=
  ∃ v : Bool, e = .returned (.tuple #[.bool v, .int .i64 (chkD r [root, a, b])]) ∧ (chkD r [root, a, b] = 0 → RulesV r root.toNat a.toNat b.toNat v) ∧ (chkD r [root, a, b] ≠ 0 → v = false) ∧ Below w.heap.size w w'
theorem Rules_any (p : Option Addr) (n c : Nat) (r : List B) (root a b : Int) (w : World) (hR : RowsAt w p n r) (hT : Tab w) :
    Calls Tryd.prog 33 #[.slice p n c, .int .i64 root, .int .i64 a, .int .i64 b] w (RulesPost r root a b w) := by
  by_cases h : chkD r [root, a, b] = 0
  · obtain ⟨_, hin⟩ := chkD_in h
    obtain ⟨root, rfl⟩ := Int.eq_ofNat_of_zero_le (hin root (by simp)).1
    obtain ⟨a, rfl⟩ := Int.eq_ofNat_of_zero_le (hin a (by simp)).1
    obtain ⟨b, rfl⟩ := Int.eq_ofNat_of_zero_le (hin b (by simp)).1
    refine (Rules_yes p n c r root a b h w hR hT).mono ?_
    rintro e w' ⟨v, rfl, hv, hb⟩
    exact ⟨v, by rw [h], fun _ => hv, fun h2 => absurd h h2, hb⟩
  · refine (Rules_no p n c r root a b h w hR).mono ?_
    rintro e w' ⟨rfl, hb⟩
    exact ⟨false, rfl, fun h2 => absurd h2 h, fun _ => rfl, hb⟩
set_option maxRecDepth 100000 in
set_option maxHeartbeats 4000000 in
theorem domOrder_walk (p : Option Addr) (n c : Nat) (r : List B) (root a b d : Int) (w : World) (hR : RowsAt w p n r) (hT : Tab w) :
    Calls Tryd.prog 9 #[.slice p n c, .int .i64 root, .int .i64 a, .int .i64 b, .int .i64 d] w fun e w' => e = .returned (.bool true) ∧ Below w.heap.size w w' := by
  go_enter Tryd.func9, Tryd.ntmps9
  go_wp2_with fail
  refine (doms_below w hT).mono ?_
  rintro e w1 ⟨rfl, hb1⟩
  have hR1 := hR.below hb1
  have hT1 := hT.below hb1
  clear hR hT
  go_wp2_with fail
  refine (Rules_any p _ c r root a b w1 hR1 hT1).mono ?_
  rintro e w2 ⟨x, rfl, hx, hx0, hb2⟩
  have hR2 := hR1.below hb2
  have hT2 := hT1.below hb2
  have hb12 := below_next hb1 hb2
  have HX := Lib.hid hx
  clear hR1 hT1 hb1 hb2 hx hx0
  go_wp2_with fail
  refine (Rules_any p _ c r root b d w2 hR2 hT2).mono ?_
  rintro e w3 ⟨y, rfl, hy, hy0, hb3⟩
  have hR3 := hR2.below hb3
  have hT3 := hT2.below hb3
  have hb13 := below_next hb12 hb3
  have HY := Lib.hid hy
  clear hR2 hT2 hb12 hb3 hy hy0
  go_wp2_with fail
  refine (Rules_any p _ c r root a d w3 hR3 hT3).mono ?_
  rintro e w4 ⟨z, rfl, hz, hz0, hb4⟩
  have hR4 := hR3.below hb4
  have hT4 := hT3.below hb4
  have hb14 := below_next hb13 hb4
  have HZ := Lib.hid hz
  clear hR3 hT3 hb13 hb4 hz hz0
  go_wp2_with fail
  refine (Rules_any p _ c r root b a w4 hR4 hT4).mono ?_
  rintro e w5 ⟨u, rfl, hu, hu0, hb5⟩
  have hb15 := below_next hb14 hb5
  have HU := Lib.hid hu
  clear hR4 hT4 hb14 hb5 hu hu0
  have HL : Hid (allOk [chkD r [root, a, b], chkD r [root, b, d], chkD r [root, a, d], chkD r [root, b, a]] = true → (x = true → y = true → z = true) ∧ (x = true → u = true → a = b)) := by
    show _ → _
    intro h
    simp only [allOk, List.all_cons, List.all_nil, Bool.and_true, Bool.and_eq_true, decide_eq_true_eq] at h
    obtain ⟨h1, h2, h3, h4⟩ := h
    have k1 := HX.out h1
    have k2 := HY.out h2
    have k3 := HZ.out h3
    have k4 := HU.out h4
    refine ⟨fun e1 e2 => k3.2 (rules_trans (k1.1 e1) (k2.1 e2)), fun e1 e2 => ?_⟩
    have := rules_anti (k1.1 e1) (k4.1 e2)
    obtain ⟨_, hin⟩ := chkD_in h1
    have i1 := (hin a (by simp)).1
    have i2 := (hin b (by simp)).1
    omega
  clear HX HY HZ HU
  generalize chkD r [root, a, b] = e1 at *
  generalize chkD r [root, b, d] = e2 at *
  generalize chkD r [root, a, d] = e3 at *
  generalize chkD r [root, b, a] = e4 at *
  have hb16 : Below w.heap.size w (w5.alloc (.cells #[.int .i64 e1, .int .i64 e2, .int .i64 e3, .int .i64 e4] 25)) := hb15.alloc hb15.size _
  cases hok : allOk [e1, e2, e3, e4]
  · have HOK := Lib.hid hok
    clear hok HL
    go_wp2_with (go_at_call 21; refine (good4 _ _ _ _ w5).mono ?_; rw [HOK.out]; rintro e w' ⟨rfl, rfl⟩)
    go_ret
    exact ⟨rfl, hb16⟩
  · obtain ⟨l1, l2⟩ := HL.out hok
    have HOK := Lib.hid hok
    clear hok HL
    cases x
    · clear l1 l2
      go_wp2_with (go_at_call 21; refine (good4 _ _ _ _ w5).mono ?_; rw [HOK.out]; rintro e w' ⟨rfl, rfl⟩)
      go_ret
      exact ⟨rfl, hb16⟩
    · cases u
      · cases y
        · clear l1 l2
          go_wp2_with (go_at_call 21; refine (good4 _ _ _ _ w5).mono ?_; rw [HOK.out]; rintro e w' ⟨rfl, rfl⟩)
          go_ret
          exact ⟨rfl, hb16⟩
        · have hzt := l1 rfl rfl
          subst hzt
          clear l1 l2
          go_wp2_with (go_at_call 21; refine (good4 _ _ _ _ w5).mono ?_; rw [HOK.out]; rintro e w' ⟨rfl, rfl⟩)
          go_ret
          exact ⟨rfl, hb16⟩
      · have hab := l2 rfl rfl
        subst hab
        cases y
        · clear l1 l2
          go_wp2_with (go_at_call 21; refine (good4 _ _ _ _ w5).mono ?_; rw [HOK.out]; rintro e w' ⟨rfl, rfl⟩)
          go_ret
          exact ⟨by simp, hb16⟩
        · have hzt := l1 rfl rfl
          subst hzt
          clear l1 l2
          go_wp2_with (go_at_call 21; refine (good4 _ _ _ _ w5).mono ?_; rw [HOK.out]; rintro e w' ⟨rfl, rfl⟩)
          go_ret
          exact ⟨by simp, hb16⟩
end Go.Proofs.YtklikjjipoghlaaDoor
