/- The walks through math/bits.OnesCount64 and bits.Count. Conditions: none. -/
import Derived.Test.YtlhhcgiifgkngaaDoorRows
import Derived.Test.YtlhhcgiifgkngaaDoorPop
namespace Go.Proofs.YtlhhcgiifgkngaaDoor
open Go.RowKit
theorem and_lit (a m : Nat) (ha : a < 18446744073709551616) (hm : m < 18446744073709551616) (k : Int) (hk : (m : Int) = k) : bits .and .u64 (a : Int) k = ((a &&& m : Nat) : Int) := by
  subst hk; exact u64_and_nat a m ha hm
theorem i64_and_lit (a m : Nat) (ha : a < 9223372036854775808) (hm : m < 9223372036854775808) : bits .and .i64 (a : Int) (m : Int) = ((a &&& m : Nat) : Int) := by
  have hx : a &&& m < 2 ^ 63 := Nat.and_lt_two_pow _ (by omega)
  show IntKind.i64.wrap ((BitVec.ofInt 64 (a : Int) &&& BitVec.ofInt 64 (m : Int)).toNat : Int) = _
  rw [BitVec.toNat_and, ofInt_u64 a (by omega), ofInt_u64 m (by omega), IntKind.wrap_i64]
  omega
set_option maxHeartbeats 1000000 in
theorem ones_nat (x : Nat) (hx : x < 18446744073709551616) (w : World) : Calls Tryd.prog 73 #[.int .u64 (x : Int)] w fun e w' => e = .returned (.int .i64 (pop 64 x : Int)) ∧ w = w' := by
  have m5 : mask 0x55 8 = 6148914691236517205 := rfl
  have m3 : mask 0x33 8 = 3689348814741910323 := rfl
  have m0 : mask 0x0f 8 = 1085102592571150095 := rfl
  have eA : pA 8 (x) = (x / 2 &&& 6148914691236517205) + (x &&& 6148914691236517205) := by unfold pA; rw [m5]
  have h1 := and_lit (x / 2) 6148914691236517205 (by omega) (by omega) 6148914691236517205 rfl
  have h2 := and_lit (x) 6148914691236517205 (by omega) (by omega) 6148914691236517205 rfl
  have b1 : x / 2 &&& 6148914691236517205 ≤ 6148914691236517205 := Nat.and_le_right
  have b2 : x &&& 6148914691236517205 ≤ 6148914691236517205 := Nat.and_le_right
  have hfin := ones_eq (x)
  unfold onesGo at hfin
  rw [eA] at hfin
  rw [Int.natCast_ediv] at h1
  replace h1 : bits .and .u64 ((x : Int) / 2) 6148914691236517205 = ((x / 2 &&& 6148914691236517205 : Nat) : Int) := h1
  generalize x / 2 &&& 6148914691236517205 = a1 at *
  generalize x &&& 6148914691236517205 = a2 at *
  have eB : pB 8 (a1 + a2) = ((a1 + a2) / 4 &&& 3689348814741910323) + ((a1 + a2) &&& 3689348814741910323) := by unfold pB; rw [m3]
  have h3 := and_lit ((a1 + a2) / 4) 3689348814741910323 (by omega) (by omega) 3689348814741910323 rfl
  have h4 := and_lit (a1 + a2) 3689348814741910323 (by omega) (by omega) 3689348814741910323 rfl
  have b3 : (a1 + a2) / 4 &&& 3689348814741910323 ≤ 3689348814741910323 := Nat.and_le_right
  have b4 : (a1 + a2) &&& 3689348814741910323 ≤ 3689348814741910323 := Nat.and_le_right
  rw [eB] at hfin
  rw [Int.natCast_ediv, Int.natCast_add] at h3
  replace h3 : bits .and .u64 (((a1 : Int) + (a2 : Int)) / 4) 3689348814741910323 = (((a1 + a2) / 4 &&& 3689348814741910323 : Nat) : Int) := h3
  rw [Int.natCast_add] at h4
  generalize (a1 + a2) / 4 &&& 3689348814741910323 = a3 at *
  generalize (a1 + a2) &&& 3689348814741910323 = a4 at *
  have eC : pC 8 (a3 + a4) = ((a3 + a4) / 16 + (a3 + a4)) &&& 1085102592571150095 := by unfold pC; rw [m0]
  have h5 := and_lit ((a3 + a4) / 16 + (a3 + a4)) 1085102592571150095 (by omega) (by omega) 1085102592571150095 rfl
  have b5 : ((a3 + a4) / 16 + (a3 + a4)) &&& 1085102592571150095 ≤ 1085102592571150095 := Nat.and_le_right
  rw [eC] at hfin
  rw [Int.natCast_add, Int.natCast_ediv, Int.natCast_add] at h5
  replace h5 : bits .and .u64 (((a3 : Int) + (a4 : Int)) / 16 + ((a3 : Int) + (a4 : Int))) 1085102592571150095 = (((a3 + a4) / 16 + (a3 + a4) &&& 1085102592571150095 : Nat) : Int) := h5
  generalize ((a3 + a4) / 16 + (a3 + a4)) &&& 1085102592571150095 = y at *
  have h6 := i64_and_lit (y + y / 256 + (y + y / 256) / 65536 + (y + y / 256 + (y + y / 256) / 65536) / 4294967296) 127 (by omega) (by omega)
  rw [show ∀ a, a &&& 127 = a % 128 from fun a => nat_mask7 a, hfin] at h6
  simp only [Int.natCast_add, Int.natCast_ediv] at h6
  replace h6 : bits .and .i64 ((y : Int) + (y : Int) / 256 + ((y : Int) + (y : Int) / 256) / 65536 + ((y : Int) + (y : Int) / 256 + ((y : Int) + (y : Int) / 256) / 65536) / 4294967296) 127 = (pop 64 x : Int) := h6
  clear hfin eA eB eC m5 m3 m0
  generalize pop 64 (x) = q at *
  go_enter Tryd.func73, Tryd.ntmps73
  go_wp2
  go_ret
  exact ⟨rfl, rfl⟩
theorem ones_ok (s : B) (w : World) : Calls Tryd.prog 73 #[.int .u64 (un s)] w fun e w' => e = .returned (.int .i64 (cnt s : Int)) ∧ w = w' :=
  (ones_nat (un s) (un_lt s) w).mono fun _ _ ⟨h1, h2⟩ => ⟨by rw [cnt_eq]; exact h1, h2⟩
set_option maxHeartbeats 1000000 in
theorem count_ok (s : B) (w : World) : Calls Tryd.prog 32 #[.int .u64 (un s)] w fun e w' => e = .returned (.int .i64 (cnt s : Int)) ∧ w = w' := by
  go_enter Tryd.func32, Tryd.ntmps32
  go_wp2_with (go_at_call 73; refine (ones_ok _ _).mono ?_; rintro e w' ⟨rfl, rfl⟩)
  go_ret
  exact ⟨rfl, rfl⟩
end Go.Proofs.YtlhhcgiifgkngaaDoor
