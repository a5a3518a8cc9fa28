/- The walks through math/bits.OnesCount64 and bits.Count. Conditions: none. -/
import Derived.Test.YtcegmcnknkjcpaaDoorRows
import Derived.Test.YtcegmcnknkjcpaaDoorPop
namespace Go.Proofs.YtcegmcnknkjcpaaDoor
open Go.RowKit
theorem and_lit (a m : Nat) (ha : a < 18446744073709551616) (hm : m < 18446744073709551616) (k : Int) (hk : (m : Int) = k) : bits .and .u64 (a : Int) k = ((a &&& m : Nat) : Int) := by
  subst hk; exact u64_and_nat a m ha hm
theorem i64_and_lit (a m : Nat) (ha : a < 9223372036854775808) (hm : m < 9223372036854775808) : bits .and .i64 (a : Int) (m : Int) = ((a &&& m : Nat) : Int) := by
  have hx : a &&& m < 2 ^ 63 := Nat.and_lt_two_pow _ (by omega)
  show IntKind.i64.wrap ((BitVec.ofInt 64 (a : Int) &&& BitVec.ofInt 64 (m : Int)).toNat : Int) = _
  rw [BitVec.toNat_and, ofInt_u64 a (by omega), ofInt_u64 m (by omega), IntKind.wrap_i64]
  omega
end Go.Proofs.YtcegmcnknkjcpaaDoor
