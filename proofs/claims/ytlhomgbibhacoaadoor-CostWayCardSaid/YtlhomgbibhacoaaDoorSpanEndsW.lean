/- The law SpanEnds, walked. Conditions: none. -/
import Derived.Test.YtlhomgbibhacoaaDoorSpanOrderW
namespace Go.Proofs.YtlhomgbibhacoaaDoor
open Go.RowKit
theorem ends_closed : ordN (un TOP) 0 = -1 ∧ rightN (un TOP) = false ∧ rightN (un NANB) = false ∧ rightN (un INFB) = true ∧ rightN 0 = true := by decide +kernel
theorem key_neg {x : Nat} (h : SG ≤ x) : keyN x = 18446744073709551615 - x := by unfold keyN; rw [if_pos h]
theorem key_pos {x : Nat} (h : x < SG) : keyN x = x + SG := by unfold keyN; rw [if_neg (by omega)]
theorem ord_lt {a b : Nat} (h : keyN a < keyN b) : ordN a b = -1 := by rw [ordN_def, if_pos h]
theorem ord_gt {a b : Nat} (h : keyN b < keyN a) : ordN a b = 1 := by rw [ordN_def, if_neg (by omega), if_pos h]
theorem sgn_pos {x : Nat} (h : x < SG) : sgn x = false := by unfold sgn; simp; omega
theorem sgn_neg {x : Nat} (h : SG ≤ x) : sgn x = true := by unfold sgn; simpa using h
theorem nums : INF = 9218868437227405312 ∧ SG = 9223372036854775808 ∧ un NANB = 9221120237041090561 := by decide
theorem ends_nan {x : Nat} (hx : x < 18446744073709551616) (h : isN x = true) : rightN x = false ∧ ordN x (un INFB) = 1 - 2 * (if sgn x then 1 else 0) := by
  have h1 : INF < rung x := by unfold isN at h; simpa using h
  obtain ⟨n1, n2, _⟩ := nums
  have hr : rung x = x % SG := rfl
  have hI : INF < SG := by omega
  rw [un_infB]
  rcases Nat.lt_or_ge x SG with hs | hs
  · have hm : x % SG = x := Nat.mod_eq_of_lt hs
    constructor
    · unfold rightN; simp; omega
    · rw [sgn_pos hs, ord_gt (by rw [key_pos hs, key_pos hI]; omega)]; rfl
  · constructor
    · unfold rightN; simp; omega
    · rw [sgn_neg hs, ord_lt (by rw [key_neg hs, key_pos hI]; omega)]; rfl
theorem ends_num {x : Nat} (hx : x < 18446744073709551616) (h : isN x = false) : ordN x (un NANB) = -1 ∧ rightN x = decide (0 ≤ ordN x 0) := by
  have h1 : rung x ≤ INF := by unfold isN at h; simpa using h
  obtain ⟨n1, n2, n3⟩ := nums
  have hr : rung x = x % SG := rfl
  have hI : INF < SG := by omega
  have hN : un NANB < SG := by omega
  have h0 : (0 : Nat) < SG := by omega
  rcases Nat.lt_or_ge x SG with hs | hs
  · have hm : x % SG = x := Nat.mod_eq_of_lt hs
    constructor
    · exact ord_lt (by rw [key_pos hs, key_pos hN]; omega)
    · unfold rightN
      rw [Bool.eq_iff_iff, decide_eq_true_iff, decide_eq_true_iff]
      refine ⟨fun _ => ?_, fun _ => by omega⟩
      rcases ord_cases x 0 with ⟨e, g⟩ | ⟨e, g⟩ | ⟨e, g⟩
      · rw [key_pos hs, key_pos h0] at g; omega
      · omega
      · omega
  · constructor
    · exact ord_lt (by rw [key_neg hs, key_pos hN]; omega)
    · unfold rightN
      rw [ord_lt (b := 0) (by rw [key_neg hs, key_pos h0]; omega)]
      simp; omega
def W64 (a : Nat) : Prop := a < 18446744073709551616
theorem W64.un (x : B) : W64 (un x) := un_lt x
theorem W64.zero : W64 0 := by unfold W64; omega
theorem W64.of {a : Nat} (h : a ≤ INF) : W64 a := by unfold W64; unfold INF at h; omega
theorem W64.ex {a : Nat} (h : W64 a) : ∃ x : B, a = Go.Proofs.YtlhomgbibhacoaaDoor.un x :=
  ⟨BitVec.ofNat 64 a, by unfold W64 at h; unfold Go.Proofs.YtlhomgbibhacoaaDoor.un; rw [BitVec.toNat_ofNat]; omega⟩
theorem spord_any {a b : Nat} (ha : W64 a) (hb : W64 b) (w : World) : Calls Tryd.prog 15 #[.float .f64 a, .float .f64 b] w fun e w' => e = .returned (.int .i64 (ordN a b)) ∧ w = w' := by
  obtain ⟨x, rfl⟩ := ha.ex
  obtain ⟨y, rfl⟩ := hb.ex
  exact spord_ok x y w
theorem right_any {a : Nat} (ha : W64 a) (w : World) : Calls Tryd.prog 13 #[.float .f64 a] w fun e w' => e = .returned (.bool (rightN a)) ∧ w = w' := by
  obtain ⟨x, rfl⟩ := ha.ex
  exact right_ok x w
theorem w64 {a : Nat} (h : W64 a) : W64 a := h
end Go.Proofs.YtlhomgbibhacoaaDoor
