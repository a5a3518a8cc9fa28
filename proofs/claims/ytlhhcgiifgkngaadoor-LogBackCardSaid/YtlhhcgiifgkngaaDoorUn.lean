/- Sets of numbers below 64 as bit vectors, and how Go's operations on uint64 act on them in a walk. Conditions: none. -/
import Derived.WalkKit
import Derived.Laws.BitsAllLaws
import Derived.OpenShut
namespace Go.Proofs.YtlhhcgiifgkngaaDoor
open Go.RowKit
abbrev B := BitVec 64
/-- the number of a set, closed to simp -/
def un (x : B) : Nat := x.toNat
theorem un_lt (x : B) : un x < 18446744073709551616 := x.isLt
theorem un_inj {x y : B} (h : un x = un y) : x = y := BitVec.eq_of_toNat_eq h
theorem un_bd (x : B) : (0 : Int) ≤ (un x : Int) ∧ (un x : Int) ≤ 18446744073709551615 := by have := un_lt x; omega
theorem un_wf (x : B) : (Lit.int .u64 (un x : Int)).wf = true := WalkArith.wf_u64 (un_bd x)
theorem un_of {a : Int} (h : (Lit.int .u64 a).wf = true) : ∃ x : B, a = (un x : Int) := by
  have hb : 0 ≤ a ∧ a < 18446744073709551616 := by
    have := bounds_u64 h
    omega
  refine ⟨BitVec.ofNat 64 a.toNat, ?_⟩
  unfold un
  rw [BitVec.toNat_ofNat]
  omega
theorem bits_and_un (x y : B) : bits .and .u64 (un x : Int) (un y : Int) = (un (x &&& y) : Int) := by
  rw [u64_and_nat _ _ (un_lt x) (un_lt y)]; rfl
theorem bits_or_un (x y : B) : bits .or .u64 (un x : Int) (un y : Int) = (un (x ||| y) : Int) := by
  rw [u64_or_nat _ _ (un_lt x) (un_lt y)]; rfl
theorem bits_xor_un (x y : B) : bits .xor .u64 (un x : Int) (un y : Int) = (un (x ^^^ y) : Int) := by
  rw [u64_xor_nat _ _ (un_lt x) (un_lt y)]; rfl
theorem bits_andNot_un (x y : B) : bits .andNot .u64 (un x : Int) (un y : Int) = (un (x &&& ~~~y) : Int) := by
  rw [u64_andNot_nat _ _ (un_lt x) (un_lt y)]
  unfold un
  rw [BitVec.toNat_and, BitVec.toNat_not]
theorem shl_un (x : B) (n : Nat) : IntKind.u64.wrap ((un x : Int) * 2 ^ n) = (un (x <<< n) : Int) := by
  rw [IntKind.wrap_u64]
  unfold un
  rw [BitVec.toNat_shiftLeft, Nat.shiftLeft_eq, show (2 : Nat) ^ 64 = 18446744073709551616 from rfl, Int.natCast_emod, Int.natCast_mul, Int.natCast_pow]
  rfl
theorem shl_one (n : Nat) : IntKind.u64.wrap (2 ^ n) = (un (1#64 <<< n) : Int) := by
  have h := shl_un 1#64 n
  have e : ((un 1#64 : Nat) : Int) = 1 := rfl
  rw [e, Int.one_mul] at h
  exact h
theorem shr_un (x : B) (n : Nat) : (un x : Int) / 2 ^ n = (un (x >>> n) : Int) := by
  unfold un
  rw [BitVec.toNat_ushiftRight, Nat.shiftRight_eq_div_pow, Int.natCast_ediv, Int.natCast_pow]
  rfl
theorem sub_un (x y : B) : IntKind.u64.wrap ((un x : Int) - (un y : Int)) = (un (x - y) : Int) := by
  rw [IntKind.wrap_u64]
  have hx := un_lt x
  have hy := un_lt y
  have e : un (x - y) = (18446744073709551616 - un y + un x) % 18446744073709551616 := BitVec.toNat_sub x y
  rw [e]
  omega
theorem sub_one (x : B) : IntKind.u64.wrap ((un x : Int) - 1) = (un (x - 1#64) : Int) := sub_un x 1#64
theorem and_one (x : B) : bits .and .u64 (un x : Int) 1 = (un (x &&& 1#64) : Int) := bits_and_un x 1#64
theorem u64_signed : IntKind.u64.signed = false := rfl
theorem not_un (x : B) : bits .xor .u64 IntKind.u64.max (un x : Int) = (un (~~~x) : Int) := by
  have h := bits_xor_un (BitVec.allOnes 64) x
  have h1 : ((un (BitVec.allOnes 64) : Nat) : Int) = IntKind.u64.max := by decide
  rw [h1, BitVec.allOnes_xor] at h
  exact h
theorem shl_two (x : B) : IntKind.u64.wrap ((un x : Int) * 2) = (un (x <<< 1) : Int) := shl_un x 1
attribute [go_sem] shl_two
attribute [go_sem] u64_signed not_un
attribute [go_sem] bits_and_un bits_or_un bits_xor_un bits_andNot_un shl_un shl_one shr_un sub_un sub_one and_one
end Go.Proofs.YtlhhcgiifgkngaaDoor
