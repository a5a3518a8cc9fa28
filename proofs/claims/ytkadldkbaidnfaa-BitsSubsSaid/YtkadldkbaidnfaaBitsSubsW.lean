/- The walk through the law BitsSubs. Conditions: none. -/
import Derived.Test.YtkadldkbaidnfaaBitsNextW
import Derived.Test.YtkadldkbaidnfaaPopW
namespace Go.Proofs.Ytkadldkbaidnfaa
open Go.RowKit
theorem rk_lt (n s t : Nat) : rk n s t < 2 ^ pop n s := by
  induction n generalizing s t with
  | zero => simp [rk, pop]
  | succ n ih =>
    rw [pop_succ]
    unfold rk
    have := ih (s / 2) (t / 2)
    rcases Nat.mod_two_eq_zero_or_one s with h | h
    · simp [h]; exact this
    · simp only [h, if_true]
      rw [Nat.add_comm 1, Nat.pow_succ]; omega
theorem cut_self {s t : B} (h : un t &&& un s = un t) : cutB s t = t := by
  have h0 : un (outB s t) = 0 := sub_out h
  unfold cutB; rw [if_pos h0]
set_option maxRecDepth 100000 in
set_option maxHeartbeats 200000 in
theorem bitsSubs_walk (s : B) (w : World) :
    Calls Try.prog 5 #[.int .u64 (un s)] w fun e w' => e = .returned (.bool true) ∧ Grown w w' := by
  by_cases hc : 10 < cnt s
  · go_enter Try.func5, Try.ntmps5
    go_wp2_with fail
    refine (sets_true w).mono ?_
    rintro e w' ⟨rfl, hg⟩
    go_wp2_with (go_at_call 10; refine (count_ok _ _).mono ?_; rintro e w' ⟨rfl, rfl⟩)
    go_ret
    exact ⟨rfl, hg⟩
  · have hP : 2 ^ cnt s ≤ 2 ^ 10 := Nat.pow_le_pow_right (by omega) (by omega)
    have hP1 : 0 < 2 ^ cnt s := Nat.two_pow_pos _
    have hp2 : ((2 ^ cnt s : Nat) : Int) = (2 : Int) ^ cnt s := Int.natCast_pow 2 _
    have hq : (2 : Int) ^ cnt s ≤ 1024 ∧ 0 < (2 : Int) ^ cnt s := by omega
    have HP : Hid (((2 ^ cnt s : Nat) : Int) = (2 : Int) ^ cnt s) := hp2
    clear hp2 hP hP1
    go_enter Try.func5, Try.ntmps5
    go_wp2_with fail
    refine (sets_true w).mono ?_
    rintro e w' ⟨rfl, hg⟩
    go_wp2_with (go_at_call 10; refine (count_ok _ _).mono ?_; rintro e w' ⟨rfl, rfl⟩)
    go_loop [3, 4] (fun n t => ∃ x : B, Hid (un x &&& un s = un x) ∧ n = .int .i64 ((rk 64 (un s) (un x) + 1 : Nat) : Int) ∧ t = .int .u64 (un x)) (fun _ t => un s - (intOf t).toNat)
    case atStart => exact ⟨0#64, by show un 0#64 &&& un s = un 0#64; simp [un], by rw [show un 0#64 = 0 from rfl, rk_zero]; rfl, rfl⟩
    case round =>
      obtain ⟨x, hx, rfl, rfl⟩ := hrel
      have hcut := cut_self hx.out
      have hxs := sub_le _ _ hx.out
      have hk := rk_lt 64 (un s) (un x)
      have hkc : rk 64 (un s) (un x) + 1 ≤ 1024 := by
        have : (2 ^ pop 64 (un s) : Nat) ≤ 1024 := by have := HP.out; rw [← cnt_eq]; omega
        omega
      by_cases hlt : un x < un s
      · have hnx := nxt_facts (s := s) (t := x) (by rw [hcut]; exact hlt)
        rw [hcut] at hnx
        obtain ⟨f1, f2, _, _, f5⟩ := hnx
        have e0 : (un (nxtB s x &&& ~~~s) : Int) = 0 := by rw [sub_out f1]; rfl
        have e1 : ltB (cutB s x) (nxtB s x) = true := by unfold ltB; rw [hcut]; simpa using f2
        have f6 := sub_le _ _ f1
        have HR : Hid (un (nxtB s x) &&& un s = un (nxtB s x) ∧ rk 64 (un s) (un (nxtB s x)) = rk 64 (un s) (un x) + 1) := ⟨f1, f5⟩
        clear f1 f5 hk hcut
        generalize rk 64 (un s) (un x) = r at *
        go_wp2_with (first | (go_at_call 9; refine (Sub_ok _ _ _).mono ?_; rintro e w' ⟨rfl, rfl⟩) | (go_at_call 10; refine (count_ok _ _).mono ?_; rintro e w' ⟨rfl, rfl⟩))
        go_round
        case rel => exact ⟨nxtB s x, HR.out.1, by rw [HR.out.2]; go_num, rfl⟩
        case measure => simp [intOf]; omega
      · have he : un x = un s := by omega
        obtain rfl : x = s := un_inj he
        have e1 : ltB (cutB x x) (nxtB x x) = false := by
          have := nxt_end (s := x) (t := x) (by rw [hcut])
          unfold ltB; rw [this]; simp
        have e0 : (un (nxtB x x) : Int) = 0 := by have := nxt_end (s := x) (t := x) (by rw [hcut]); omega
        have hr := rk_self 64 (un x)
        have e2 : ((rk 64 (un x) (un x) : Int) + 1 == (2 : Int) ^ cnt x) = true := by
          have h1 : ((rk 64 (un x) (un x) + 1 : Nat) : Int) = ((2 ^ cnt x : Nat) : Int) := by rw [hr, cnt_eq]
          rw [HP.out] at h1
          simpa using h1
        clear hr hk hcut he hlt
        generalize rk 64 (un x) (un x) = r at *
        go_wp2_with (first | (go_at_call 9; refine (Sub_ok _ _ _).mono ?_; rintro e w' ⟨rfl, rfl⟩) | (go_at_call 10; refine (count_ok _ _).mono ?_; rintro e w' ⟨rfl, rfl⟩))
        go_ret
        exact ⟨by simp, hg⟩
end Go.Proofs.Ytkadldkbaidnfaa
