/- The walks through package span's order, Right, and math's bit functions. Conditions: none. -/
import Derived.Test.YtlhhcgiifgkngaaDoorRows
import Derived.Test.YtlhhcgiifgkngaaDoorSpan
import Derived.Lib.Hide
import Derived.Outline
import Derived.WalkLawsBesides
import Derived.Laws.FloatArith
namespace Go.Proofs.YtlhhcgiifgkngaaDoor
open Go.RowKit
theorem run_bits (b : Nat) (w : World) : (callFunc 39 #[.float .f64 b]).run Tryd.prog w = .ok (.value (.int .u64 (b : Int))) w := by
  rw [run_callFunc_extern Tryd.func39 (by kernel_rfl) (by kernel_rfl) (by kernel_rfl) (e := Extern.MathFloatBits.float64bits) (by kernel_rfl)]
  rfl
theorem run_frombits (x : B) (w : World) : (callFunc 79 #[.int .u64 (un x : Int)]).run Tryd.prog w = .ok (.value (.float .f64 (un x))) w := by
  rw [run_callFunc_extern Tryd.func79 (by kernel_rfl) (by kernel_rfl) (by kernel_rfl) (e := Extern.MathFloatBits.float64frombits) (by kernel_rfl)]
  rfl
attribute [go_sem] run_bits run_frombits
set_option maxHeartbeats 400000 in
theorem key_ok (x : B) (w : World) : Calls Tryd.prog 122 #[.float .f64 (un x)] w fun e w' => e = .returned (.int .u64 (un (keyB x))) ∧ w = w' := by
  have h63 := shr63 x
  by_cases h : SG ≤ un x
  · have e : Hid (keyB x = ~~~x) := by show keyB x = _; unfold keyB; rw [if_pos h]
    rw [decide_eq_true h] at h63
    clear h
    go_enter Tryd.func122, Tryd.ntmps122
    go_wp2
    go_ret
    exact ⟨by rw [e.out]; rfl, rfl⟩
  · have e : Hid (keyB x = x ||| TOP) := by show keyB x = _; unfold keyB; rw [if_neg h]
    rw [decide_eq_false h] at h63
    clear h
    have ho := or_top x
    go_enter Tryd.func122, Tryd.ntmps122
    go_wp2
    go_ret
    exact ⟨by rw [e.out]; rfl, rfl⟩
set_option maxHeartbeats 400000 in
theorem cmp_ok (x y : B) (w : World) : Calls Tryd.prog 121 #[.int .u64 (un x), .int .u64 (un y)] w fun e w' => e = .returned (.int .i64 (cmpN (un x) (un y))) ∧ w = w' := by
  have hne : ∀ z : B, ((un z : Int) != (un z : Int)) = false := fun z => by simp
  have hx := hne x
  have hy := hne y
  clear hne
  rcases Nat.lt_trichotomy (un x) (un y) with h | h | h
  · have e : Hid (cmpN (un x) (un y) = -1) := by show cmpN _ _ = _; unfold cmpN; rw [if_pos h]
    go_enter Tryd.func121, Tryd.ntmps121
    go_wp2
    go_ret
    exact ⟨by rw [e.out]; rfl, rfl⟩
  · have e : Hid (cmpN (un x) (un y) = 0) := by show cmpN _ _ = _; unfold cmpN; rw [if_neg (by omega), if_neg (by omega)]
    have h1 : ¬ un x < un y := by omega
    have h2 : ¬ un y < un x := by omega
    clear h
    go_enter Tryd.func121, Tryd.ntmps121
    go_wp2
    go_ret
    exact ⟨by rw [e.out]; rfl, rfl⟩
  · have e : Hid (cmpN (un x) (un y) = 1) := by show cmpN _ _ = _; unfold cmpN; rw [if_neg (by omega), if_pos h]
    have h1 : ¬ un x < un y := by omega
    go_enter Tryd.func121, Tryd.ntmps121
    go_wp2
    go_ret
    exact ⟨by rw [e.out]; rfl, rfl⟩
set_option maxHeartbeats 400000 in
theorem spord_ok (x y : B) (w : World) : Calls Tryd.prog 77 #[.float .f64 (un x), .float .f64 (un y)] w fun e w' => e = .returned (.int .i64 (ordN (un x) (un y))) ∧ w = w' := by
  have e : Hid (ordN (un x) (un y) = cmpN (un (keyB x)) (un (keyB y))) := by show ordN _ _ = _; rw [un_keyB, un_keyB]; rfl
  go_enter Tryd.func77, Tryd.ntmps77
  go_wp2_with (first | (go_at_call 122; refine (key_ok _ _).mono ?_; rintro e w' ⟨rfl, rfl⟩) | (go_at_call 121; refine (cmp_ok _ _ _).mono ?_; rintro e w' ⟨rfl, rfl⟩))
  go_ret
  exact ⟨by rw [e.out]; rfl, rfl⟩
set_option maxHeartbeats 400000 in
theorem signbit_ok (x : B) (w : World) : Calls Tryd.prog 176 #[.float .f64 (un x)] w fun e w' => e = .returned (.bool (sgn (un x))) ∧ w = w' := by
  have h0 : decide (wrap64 (un x : Int) < 0) = sgn (un x) := by
    have hx := un_lt x
    unfold sgn SG
    rw [Bool.eq_iff_iff]; simp [wrap64]; omega
  have H0 := Lib.hid h0
  clear h0
  go_enter Tryd.func176, Tryd.ntmps176
  go_wp2
  go_ret
  exact ⟨by rw [← H0.out]; rfl, rfl⟩
set_option maxHeartbeats 400000 in
theorem isnan_ok (x : Nat) (w : World) : Calls Tryd.prog 119 #[.float .f64 x] w fun e w' => e = .returned (.bool (Ieee.double.order x x != some .eq)) ∧ w = w' := by
  go_enter Tryd.func119, Tryd.ntmps119
  go_wp2
  go_ret
  exact ⟨rfl, rfl⟩
def NANB : B := 9221120237041090561#64
def INFB : B := 9218868437227405312#64
theorem un_infB : un INFB = INF := by decide
set_option maxHeartbeats 400000 in
theorem nan_ok (w : World) : Calls Tryd.prog 120 #[] w fun e w' => e = .returned (.float .f64 (un NANB)) ∧ w = w' := by
  have h := run_frombits NANB
  have e : (un NANB : Int) = 9221120237041090561 := by decide
  rw [e] at h
  clear e
  go_enter Tryd.func120, Tryd.ntmps120
  go_wp2
  go_ret
  exact ⟨rfl, rfl⟩
set_option maxHeartbeats 400000 in
theorem right_ok (x : B) (w : World) : Calls Tryd.prog 130 #[.float .f64 (un x)] w fun e w' => e = .returned (.bool (rightN (un x))) ∧ w = w' := by
  have e := Lib.hid (right_eq (un_lt x))
  go_enter Tryd.func130, Tryd.ntmps130
  go_wp2_with (go_at_call 176; refine (signbit_ok _ _).mono ?_; rintro e w' ⟨rfl, rfl⟩)
  · go_ret
    exact ⟨by rw [← e.out]; rfl, rfl⟩
  · rename_i h
    have hf : rightN (un x) = false := by
      rw [← e.out]
      have h' : ¬ (Ieee.double.order (un x) 0 = some Ordering.gt ∨ Ieee.double.order (un x) 0 = some Ordering.eq) := h
      simp only [not_or] at h'
      simp [h'.1, h'.2]
    go_ret
    exact ⟨by rw [hf]; rfl, rfl⟩
def cmpB (x y : B) : Int := ordN (un x) (un y)
/-- the law on three times -/
theorem span_order_plain (a b c : B) : ordN (un b) (un a) = -(ordN (un a) (un b)) ∧ (ordN (un a) (un b) = 0 ↔ un a = un b) ∧ (ordN (un a) (un b) < 0 → ordN (un b) (un c) < 0 → ordN (un a) (un c) < 0) ∧
    (Ieee.double.order (un a) (un b) = some .lt → ordN (un a) (un b) < 0) ∧ (Ieee.double.order (un a) (un b) = some .gt → 0 < ordN (un a) (un b)) := by
  refine ⟨ord_swap _ _, ord_zero (un_lt a) (un_lt b), fun h1 h2 => ?_, fun h => ?_, fun h => ?_⟩
  · rcases ord_cases (un a) (un b) with ⟨_, h⟩ | ⟨_, h⟩ | ⟨_, h⟩ <;> rcases ord_cases (un b) (un c) with ⟨_, h'⟩ | ⟨_, h'⟩ | ⟨_, h'⟩ <;> first | omega | (rcases ord_cases (un a) (un c) with ⟨_, h''⟩ | ⟨_, h''⟩ | ⟨_, h''⟩ <;> omega)
  · have := order_lt_key (un_lt a) (un_lt b) h
    rcases ord_cases (un a) (un b) with ⟨_, h⟩ | ⟨_, h⟩ | ⟨_, h⟩ <;> omega
  · have := order_gt_key (un_lt a) (un_lt b) h
    rcases ord_cases (un a) (un b) with ⟨_, h⟩ | ⟨_, h⟩ | ⟨_, h⟩ <;> omega
end Go.Proofs.YtlhhcgiifgkngaaDoor
