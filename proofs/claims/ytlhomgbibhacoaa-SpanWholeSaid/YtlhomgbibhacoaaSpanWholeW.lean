/- The law SpanWhole, walked. Conditions: none. -/
import Derived.Test.YtlhomgbibhacoaaSpanEndsW
import Derived.Test.YtlhomgbibhacoaaWhole
namespace Go.Proofs.Ytlhomgbibhacoaa
open Go.RowKit
theorem un_abs (x : B) : un (x &&& ~~~TOP) = rung (un x) := by
  have hx := un_lt x
  unfold un rung SG
  have e : (~~~TOP : B).toNat = 2 ^ 63 - 1 := by decide
  rw [BitVec.toNat_and, e, Nat.and_two_pow_sub_one_eq_mod]
theorem rung_lt (x : Nat) : rung x < SG := Nat.mod_lt _ (by decide)
theorem rung_rung (x : Nat) : rung (rung x) = rung x := Nat.mod_mod _ _
theorem abs_any {a : Nat} (ha : W64 a) (w : World) : Calls Try.prog 12 #[.float .f64 a] w fun e w' => e = .returned (.float .f64 (rung a)) ∧ w = w' := by
  obtain ⟨x, rfl⟩ := ha.ex
  rw [← un_abs]
  exact abs_ok x w
theorem le53_yes {r : Nat} (h : r ≤ C53) : (FloatKind.f64.format.order r 4845873199050653696 == some Ordering.lt || FloatKind.f64.format.order r 4845873199050653696 == some Ordering.eq) = true := by
  have hC : C53 ≤ INF := by decide
  have h1 : FloatKind.f64.format.order r 4845873199050653696 = some (compare r C53) := order_pos (b := C53) (by omega) hC
  rw [h1]
  rcases Nat.lt_or_ge r C53 with g | g
  · rw [Nat.compare_eq_lt.2 g]; rfl
  · rw [Nat.compare_eq_eq.2 (by omega)]; rfl
theorem le53_no {r : Nat} (hr : r < SG) (h : C53 < r) : (FloatKind.f64.format.order r 4845873199050653696 == some Ordering.lt || FloatKind.f64.format.order r 4845873199050653696 == some Ordering.eq) = false := by
  have hC : C53 ≤ INF := by decide
  rcases Nat.lt_or_ge INF r with g | g
  · have hn : isN r = true := by unfold isN; rw [show rung r = r from Nat.mod_eq_of_lt hr]; simpa using g
    have h1 : FloatKind.f64.format.order r 4845873199050653696 = none := order_nan (.inl hn)
    rw [h1]; rfl
  · have h1 : FloatKind.f64.format.order r 4845873199050653696 = some (compare r C53) := order_pos (b := C53) g hC
    rw [h1, Nat.compare_eq_gt.2 h]; rfl
theorem lt1_yes {r : Nat} (h : r < C1) : (FloatKind.f64.format.order r 4607182418800017408 == some Ordering.lt) = true := by
  have hC : C1 ≤ INF := by decide
  have h1 : FloatKind.f64.format.order r 4607182418800017408 = some (compare r C1) := order_pos (b := C1) (by omega) hC
  rw [h1, Nat.compare_eq_lt.2 h]; rfl
theorem le_yes {r s : Nat} (h : r ≤ s) (hs : s ≤ INF) : (FloatKind.f64.format.order r s == some Ordering.lt || FloatKind.f64.format.order r s == some Ordering.eq) = true := by
  have h1 : FloatKind.f64.format.order r s = some (compare r s) := order_pos (by omega) hs
  rw [h1]
  rcases Nat.lt_or_ge r s with g | g
  · rw [Nat.compare_eq_lt.2 g]; rfl
  · rw [Nat.compare_eq_eq.2 (by omega)]; rfl
set_option maxHeartbeats 400000 in
theorem whole_yes (x : B) (h : rung (un x) ≤ C53) (w : World) : Calls Try.prog 11 #[.float .f64 (un x)] w fun e w' => e = .returned (.tuple #[.int .i64 (wholeI (un x)), .int .i64 0]) ∧ w = w' := by
  have hy := le53_yes h
  have hc := run_convert_float_int (P := Try.prog) w 22 2 .f64 .i64 (un x) (wholeI (un x)) (by kernel_rfl) (by kernel_rfl) (whole_int (un_lt x) h)
  clear h
  go_enter Try.func11, Try.ntmps11
  go_wp2_with (go_at_call 12; refine (abs_any (W64.un _) _).mono ?_; rintro e w' ⟨rfl, rfl⟩)
  go_ret2
  exact ⟨rfl, rfl⟩
set_option maxHeartbeats 400000 in
theorem whole_no (x : B) (h : C53 < rung (un x)) (w : World) : Calls Try.prog 11 #[.float .f64 (un x)] w fun e w' => (∃ k : Int, e = .returned (.tuple #[.int .i64 0, .int .i64 k]) ∧ (k == 0) = false) ∧ w = w' := by
  have hy := le53_no (rung_lt _) h
  clear h
  go_enter Try.func11, Try.ntmps11
  go_wp2_with (go_at_call 12; refine (abs_any (W64.un _) _).mono ?_; rintro e w' ⟨rfl, rfl⟩)
  go_ret2
  exact ⟨⟨_, rfl, rfl⟩, rfl⟩
set_option maxHeartbeats 1000000 in
theorem spanWhole_walk (x : B) (w : World) : Calls Try.prog 4 #[.float .f64 (un x)] w fun e w' => e = .returned (.bool true) ∧ Below w.heap.size w w' := by
  rcases Nat.lt_or_ge C53 (rung (un x)) with h | h
  · have HN := Lib.hid h
    have hy := le53_no (rung_lt _) h
    clear h
    go_enter Try.func4, Try.ntmps4
    go_wp2_with (first
      | (go_at_call 8; refine (spans_ok _).mono ?_; rintro e w1 ⟨rfl, hb⟩)
      | (go_at_call 11; refine (whole_no _ HN.out _).mono ?_; rintro e w' ⟨⟨k, rfl, hk⟩, rfl⟩)
      | (go_at_call 12; refine (abs_any (W64.un _) _).mono ?_; rintro e w' ⟨rfl, rfl⟩))
    go_ret
    exact ⟨rfl, hb⟩
  · have HN := Lib.hid h
    obtain ⟨d, d1, d2, d3⟩ := whole_rest (un_lt x) h
    obtain ⟨y1, y2⟩ := whole_back h
    have hC : C53 ≤ INF := by decide
    have hd := lt1_yes d3
    have hy := le_yes y2 (by omega)
    have W1 : W64 d := d2
    have W2 : W64 (Go.floatOfInt .f64 (wholeI (un x))) := y1
    have hs : ∀ w' : World, (binOp .sub 22 (.float .f64 (un x)) (.float .f64 (Go.floatOfInt .f64 (wholeI (un x))))).run Try.prog w' = .ok (.float .f64 d) w' :=
      fun w' => run_float_arith w' .sub 22 .f64 (un x) _ _ (by unfold floatBits; simp only [FloatKind.format]; exact d1)
    clear h d1 d2 d3 y1 y2 hC
    go_enter Try.func4, Try.ntmps4
    go_wp2_with (first
      | (go_at_call 8; refine (spans_ok _).mono ?_; rintro e w1 ⟨rfl, hb⟩)
      | (go_at_call 11; refine (whole_yes _ HN.out _).mono ?_; rintro e w' ⟨rfl, rfl⟩)
      | (go_at_call 12; refine (abs_any (by first | exact W64.un _ | exact W1 | exact W2) _).mono ?_; rintro e w' ⟨rfl, rfl⟩))
    go_ret
    exact ⟨rfl, hb⟩
end Go.Proofs.Ytlhomgbibhacoaa
