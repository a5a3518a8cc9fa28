/- The law SpanEnds, walked. Conditions: none. -/
import Derived.Test.YtlhomgbibhacoaaSpanOrderW
namespace Go.Proofs.Ytlhomgbibhacoaa
open Go.RowKit
theorem ends_closed : ordN (un TOP) 0 = -1 ∧ rightN (un TOP) = false ∧ rightN (un NANB) = false ∧ rightN (un INFB) = true ∧ rightN 0 = true := by decide +kernel
theorem key_neg {x : Nat} (h : SG ≤ x) : keyN x = 18446744073709551615 - x := by unfold keyN; rw [if_pos h]
theorem key_pos {x : Nat} (h : x < SG) : keyN x = x + SG := by unfold keyN; rw [if_neg (by omega)]
theorem ord_lt {a b : Nat} (h : keyN a < keyN b) : ordN a b = -1 := by rw [ordN_def, if_pos h]
theorem ord_gt {a b : Nat} (h : keyN b < keyN a) : ordN a b = 1 := by rw [ordN_def, if_neg (by omega), if_pos h]
theorem sgn_pos {x : Nat} (h : x < SG) : sgn x = false := by unfold sgn; simp; omega
theorem sgn_neg {x : Nat} (h : SG ≤ x) : sgn x = true := by unfold sgn; simpa using h
theorem nums : INF = 9218868437227405312 ∧ SG = 9223372036854775808 ∧ un NANB = 9221120237041090561 := by decide
theorem ends_nan {x : Nat} (hx : x < 18446744073709551616) (h : isN x = true) : rightN x = false ∧ ordN x (un INFB) = 1 - 2 * (if sgn x then 1 else 0) := by
  have h1 : INF < rung x := by unfold isN at h; simpa using h
  obtain ⟨n1, n2, _⟩ := nums
  have hr : rung x = x % SG := rfl
  have hI : INF < SG := by omega
  rw [un_infB]
  rcases Nat.lt_or_ge x SG with hs | hs
  · have hm : x % SG = x := Nat.mod_eq_of_lt hs
    constructor
    · unfold rightN; simp; omega
    · rw [sgn_pos hs, ord_gt (by rw [key_pos hs, key_pos hI]; omega)]; rfl
  · constructor
    · unfold rightN; simp; omega
    · rw [sgn_neg hs, ord_lt (by rw [key_neg hs, key_pos hI]; omega)]; rfl
theorem ends_num {x : Nat} (hx : x < 18446744073709551616) (h : isN x = false) : ordN x (un NANB) = -1 ∧ rightN x = decide (0 ≤ ordN x 0) := by
  have h1 : rung x ≤ INF := by unfold isN at h; simpa using h
  obtain ⟨n1, n2, n3⟩ := nums
  have hr : rung x = x % SG := rfl
  have hI : INF < SG := by omega
  have hN : un NANB < SG := by omega
  have h0 : (0 : Nat) < SG := by omega
  rcases Nat.lt_or_ge x SG with hs | hs
  · have hm : x % SG = x := Nat.mod_eq_of_lt hs
    constructor
    · exact ord_lt (by rw [key_pos hs, key_pos hN]; omega)
    · unfold rightN
      rw [Bool.eq_iff_iff, decide_eq_true_iff, decide_eq_true_iff]
      refine ⟨fun _ => ?_, fun _ => by omega⟩
      rcases ord_cases x 0 with ⟨e, g⟩ | ⟨e, g⟩ | ⟨e, g⟩
      · rw [key_pos hs, key_pos h0] at g; omega
      · omega
      · omega
  · constructor
    · exact ord_lt (by rw [key_neg hs, key_pos hN]; omega)
    · unfold rightN
      rw [ord_lt (b := 0) (by rw [key_neg hs, key_pos h0]; omega)]
      simp; omega
def W64 (a : Nat) : Prop := a < 18446744073709551616
theorem W64.un (x : B) : W64 (un x) := un_lt x
theorem W64.zero : W64 0 := by unfold W64; omega
theorem W64.of {a : Nat} (h : a ≤ INF) : W64 a := by unfold W64; unfold INF at h; omega
theorem W64.ex {a : Nat} (h : W64 a) : ∃ x : B, a = Go.Proofs.Ytlhomgbibhacoaa.un x :=
  ⟨BitVec.ofNat 64 a, by unfold W64 at h; unfold Go.Proofs.Ytlhomgbibhacoaa.un; rw [BitVec.toNat_ofNat]; omega⟩
theorem order_any {a b : Nat} (ha : W64 a) (hb : W64 b) (w : World) : Calls Try.prog 9 #[.float .f64 a, .float .f64 b] w fun e w' => e = .returned (.int .i64 (ordN a b)) ∧ w = w' := by
  obtain ⟨x, rfl⟩ := ha.ex
  obtain ⟨y, rfl⟩ := hb.ex
  exact order_ok x y w
theorem right_any {a : Nat} (ha : W64 a) (w : World) : Calls Try.prog 16 #[.float .f64 a] w fun e w' => e = .returned (.bool (rightN a)) ∧ w = w' := by
  obtain ⟨x, rfl⟩ := ha.ex
  exact right_ok x w
theorem w64 {a : Nat} (h : W64 a) : W64 a := h
set_option maxHeartbeats 400000 in
theorem signed_ok (x : B) (w : World) : Calls Try.prog 17 #[.float .f64 (un x)] w fun e w' => e = .returned (.int .i64 (if sgn (un x) then 1 else 0)) ∧ w = w' := by
  cases h : sgn (un x)
  · have H := Lib.hid h
    clear h
    go_enter Try.func17, Try.ntmps17
    go_wp2_with (go_at_call 31; refine (signbit_ok _ _).mono ?_; rintro e w' ⟨rfl, rfl⟩; rw [H.out])
    go_ret
    exact ⟨rfl, rfl⟩
  · have H := Lib.hid h
    clear h
    go_enter Try.func17, Try.ntmps17
    go_wp2_with (go_at_call 31; refine (signbit_ok _ _).mono ?_; rintro e w' ⟨rfl, rfl⟩; rw [H.out])
    go_ret
    exact ⟨rfl, rfl⟩
set_option maxHeartbeats 1000000 in
theorem spanEnds_walk (x : B) (w : World) : Calls Try.prog 5 #[.float .f64 (un x)] w fun e w' => e = .returned (.bool true) ∧ Below w.heap.size w w' := by
  obtain ⟨c1, c2, c3, c4, c5⟩ := ends_closed
  have C1 := Lib.hid c1
  have C2 := Lib.hid c2
  have C3 := Lib.hid c3
  have C4 := Lib.hid c4
  have C5 := Lib.hid c5
  clear c1 c2 c3 c4 c5
  have hn := nan_eq (un_lt x)
  cases hN : isN (un x)
  · have E := Lib.hid (ends_num (un_lt x) hN)
    rw [hN] at hn
    clear hN
    have hn' : (FloatKind.f64.format.order (un x) (un x) != some Ordering.eq) = false := hn
    clear hn
    have ⟨RV, RH⟩ : ∃ v : Bool, Hid (rightN (un x) = v ∧ v = decide (0 ≤ ordN (un x) 0)) := ⟨_, Lib.hid ⟨rfl, E.out.2⟩⟩
    go_enter Try.func5, Try.ntmps5
    go_wp2_with (first
      | (go_at_call 8; refine (spans_ok _).mono ?_; rintro e w1 ⟨rfl, hb⟩)
      | (go_at_call 13; refine (nan_ok _).mono ?_; rintro e w' ⟨rfl, rfl⟩)
      | (go_at_call 14; refine (inf_ok _).mono ?_; rintro e w' ⟨rfl, rfl⟩)
      | (go_at_call 15; refine (copysign_ok _).mono ?_; rintro e w' ⟨rfl, rfl⟩)
      | (go_at_call 17; refine (signed_ok _ _).mono ?_; rintro e w' ⟨rfl, rfl⟩)
      | (go_at_call 9; refine (order_any (by first | exact W64.un _ | exact W64.zero) (by first | exact W64.un _ | exact W64.zero) _).mono ?_; rintro e w' ⟨rfl, rfl⟩; first | rw [C1.out] | rw [E.out.1] | skip)
      | (go_at_call 16; refine (right_any (by first | exact W64.un _ | exact W64.zero) _).mono ?_; rintro e w' ⟨rfl, rfl⟩; first | rw [C2.out] | rw [C3.out] | rw [C4.out] | rw [C5.out] | rw [RH.out.1]))
    go_ret
    exact ⟨by rw [RH.out.2]; simp, hb⟩
  · have E := Lib.hid (ends_nan (un_lt x) hN)
    rw [hN] at hn
    clear hN
    have hn' : (FloatKind.f64.format.order (un x) (un x) != some Ordering.eq) = true := hn
    clear hn
    go_enter Try.func5, Try.ntmps5
    go_wp2_with (first
      | (go_at_call 8; refine (spans_ok _).mono ?_; rintro e w1 ⟨rfl, hb⟩)
      | (go_at_call 13; refine (nan_ok _).mono ?_; rintro e w' ⟨rfl, rfl⟩)
      | (go_at_call 14; refine (inf_ok _).mono ?_; rintro e w' ⟨rfl, rfl⟩)
      | (go_at_call 15; refine (copysign_ok _).mono ?_; rintro e w' ⟨rfl, rfl⟩)
      | (go_at_call 17; refine (signed_ok _ _).mono ?_; rintro e w' ⟨rfl, rfl⟩)
      | (go_at_call 9; refine (order_any (by first | exact W64.un _ | exact W64.zero) (by first | exact W64.un _ | exact W64.zero) _).mono ?_; rintro e w' ⟨rfl, rfl⟩; first | rw [C1.out] | rw [E.out.2])
      | (go_at_call 16; refine (right_any (by first | exact W64.un _ | exact W64.zero) _).mono ?_; rintro e w' ⟨rfl, rfl⟩; first | rw [C2.out] | rw [C3.out] | rw [C4.out] | rw [C5.out] | rw [E.out.1]))
    all_goals go_ret
    all_goals exact ⟨rfl, hb⟩
end Go.Proofs.Ytlhomgbibhacoaa
