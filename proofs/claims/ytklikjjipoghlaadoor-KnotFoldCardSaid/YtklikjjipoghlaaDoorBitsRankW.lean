/- The walk through the law BitsRank. Conditions: the table reads as listed. -/
import Derived.Test.YtklikjjipoghlaaDoorLowW
namespace Go.Proofs.YtklikjjipoghlaaDoor
open Go.RowKit
theorem shr_bit (s : B) (a : Nat) : (un (s >>> a &&& 1#64) : Int) = if has s a = true then 1 else 0 := by
  have e : un (s >>> a &&& 1#64) = un (s >>> a) % 2 := by
    unfold un; rw [BitVec.toNat_and]; exact Nat.and_one_is_mod _
  have e2 : un (s >>> a) = un s / 2 ^ a := by unfold un; rw [BitVec.toNat_ushiftRight, Nat.shiftRight_eq_div_pow]
  rw [e, e2, has_un, Nat.testBit_eq_decide_div_mod_eq]
  rcases Nat.mod_two_eq_zero_or_one (un s / 2 ^ a) with h | h <;> simp [h]
theorem nextV_none {s : B} {m : Nat} (h : frm s m = 0#64) : nextV s m = .tuple #[.int .i64 0, .bool false] := by unfold nextV; rw [if_pos h]
theorem nextV_some {s : B} {m : Nat} (h : frm s m ≠ 0#64) : nextV s m = .tuple #[.int .i64 (low (frm s m) : Int), .bool true] := by unfold nextV; rw [if_neg h]
end Go.Proofs.YtklikjjipoghlaaDoor
