/- The walk through knot.order: the order as far as it goes, and those that are left. Conditions: the table reads as listed. -/
import Derived.Test.YtklikjjipoghlaaDoorKahn
import Derived.Deep.LoopGhost
namespace Go.Proofs.YtklikjjipoghlaaDoor
open Go.RowKit
set_option maxRecDepth 100000 in
set_option maxHeartbeats 4000000 in
theorem order_ok (p : Option Addr) (n c : Nat) (r : List B) (hv : Valid r) (w : World) (hR : RowsAt w p n r) (hT : Tab w) :
    Calls Tryd.prog 66 #[.slice p n c] w
      fun e w' => ∃ (o : List Nat) (left : B) (g : Option Addr) (cg : Nat), e = .returned (.tuple #[.slice g o.length cg, .int .u64 (un left)]) ∧ KOrd r o left ∧ Stuck r left ∧ w'.ownsRow w.heap.size 3 1 (.slice g o.length cg) o.length (ints o) ∧ Below w.heap.size w w' := by
  have hl := hR.len
  subst hl
  have hbig := hR.big
  unfold maxLen at hbig
  have h64 := hv.1
  have HV := Lib.hid hv
  clear hv
  go_enter Tryd.func66, Tryd.ntmps66
  go_wp2_with (go_at_call 20; refine (Below_ok _ h64 _).mono ?_; rintro e w' ⟨rfl, rfl⟩)
  go_loopw [4, 6] (fun l v wr => ∃ (o : List Nat) (left : B), l = .int .u64 (un left) ∧ Hid (KOrd r o left) ∧ wr.ownsRow w.heap.size 3 1 v o.length (ints o) ∧ Below w.heap.size w wr) (fun l _ _ => (intOf l).toNat)
  case atStart => exact ⟨[], _, rfl, kord_nil h64, World.ownsRow_nil _ _ _ _, Below.refl _ _⟩
  case round =>
    obtain ⟨o, left, rfl, HO, hown, hbr⟩ := hrel
    obtain ⟨wo, rfl⟩ : ∃ wo : World, wo = wr := ⟨_, rfl⟩
    have hRr := hR.below hbr
    have hTr := hT.below hbr
    have hszr := hbr.size
    go_wp2_with (go_at_call 40; refine (Next_ok _ _ _ hTr).mono ?_; rw [nextV_parts]; rintro e w' ⟨rfl, rfl⟩)
    go_loop [7, 8, 9] (fun i x b => ∃ (m : Nat), m ≤ 64 ∧ i = .int .i64 (-1) ∧ x = .int .i64 (nextI left m) ∧ b = .bool (nextB left m) ∧ Hid (∀ k, k < m → has left k = true → row r k &&& left ≠ 0#64)) (fun _ x b => muIs x b)
    case atStart => exact ⟨0, by omega, rfl, rfl, rfl, show ∀ k, _ from fun k hk => absurd hk (by omega)⟩
    case round =>
      obtain ⟨m, hm, rfl, rfl, rfl, HM⟩ := hrel
      cases hnb : nextB left m
      · -- nobody can be next
        have hst : Stuck r left := by
          intro a ha
          have hne : row r a &&& left ≠ 0#64 := by
            rcases Nat.lt_or_ge a m with h1 | h1
            · exact HM.out a h1 ha
            · rw [next_false hnb a h1] at ha; cases ha
          obtain ⟨k, hk⟩ := exists_of_ne hne
          rw [has_and, Bool.and_eq_true] at hk
          exact ⟨k, hk⟩
        have HS := Lib.hid hst
        obtain ⟨g, cg, rfl, _⟩ := own_form hown
        clear hst HM hnb hRr hR
        go_wp2
        go_ret2
        exact ⟨o, left, g, cg, rfl, HO.out, HS.out, hown, hbr⟩
      · obtain ⟨j, hj, hmj, hj64, hsj, hno⟩ := next_true hnb
        have hjr : j < r.length := ((HO.out.left_iff j).1 hsj).1
        obtain ⟨ad, rfl, hb, hc⟩ := hRr.cell hjr
        rw [hj]
        have hol : o.length ≤ 64 := kord_len HV.out HO.out
        by_cases hz : row r j &&& left = 0#64
        · have e0 : (un (row r j &&& left) : Int) = 0 := un_zero_int hz
          have HN := Lib.hid (kord_snoc HV.out HO.out hsj hz)
          have HC := Lib.hid (clear_lt hsj)
          obtain ⟨g, cg, rfl, hfb⟩ := own_form hown
          have HIS : Hid (ints (o ++ [j]) = ints o ++ [.int .i64 (j : Int)]) := ints_snoc o j
          have HBR := Lib.hid hbr
          have HOW := Lib.hid hown
          have HFB := Lib.hid hfb
          clear hz HM hno hsj hb hRr hR hnb hj hown hbr hfb
          generalize row r j = x at *
          go_wp2_with (at_builtin; refine app_int _ rfl _ _ rfl w.heap.size _ o.length _ rfl (HOW.out.alloc _) wo.heap.size (.int .i64 (j : Int)) rfl rfl ?c1 (by omega) ?c2 ?_; rotate_right; intro v' w2 hown2 hgrow2)
          case c2 => omega
          case roundEnd =>
            rw [← HIS.out] at hown2
            have hb2 : Below w.heap.size w w2 := (HBR.out.alloc hszr _).grown hgrow2 (by simp; omega) (fun k hk => (HFB.out k hk).1)
            refine ⟨⟨o ++ [j], _, rfl, HN.out, by simpa using hown2, hb2⟩, ?_⟩
            have := HC.out
            simp [intOf]; omega
        · have e0 := un_ne0 hz
          have HN : Hid (∀ k, k < j + 1 → has left k = true → row r k &&& left ≠ 0#64) := by
            show ∀ k, _
            intro k hk hlk
            rcases Nat.lt_or_ge k m with h1 | h1
            · exact HM.out k h1 hlk
            · rcases Nat.lt_or_ge k j with h2 | h2
              · rw [hno k h1 h2] at hlk; cases hlk
              · have : k = j := by omega
                subst this; exact hz
          have HMU := Lib.hid (mu_next left j hj64)
          have HE : Hid (((j : Int) + 1).toNat = j + 1) := by show ((j : Int) + 1).toNat = j + 1; omega
          clear hz HM hno hsj hb hRr hR hnb hj
          generalize row r j = x at *
          go_wp2_with (go_at_call 40; refine (Next_ok _ _ _ hTr).mono ?_; rw [HE.out, nextV_parts]; rintro e w' ⟨rfl, rfl⟩)
          go_round
          case rel => exact ⟨j + 1, by omega, rfl, rfl, rfl, HN.out⟩
          case measure => exact HMU.out
end Go.Proofs.YtklikjjipoghlaaDoor
