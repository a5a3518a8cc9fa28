/- The walks through package bits: Of, below, Below, Even; and the closed fact sets. Conditions: the numbers of Of's list are below 64. -/
import Derived.Test.YtlhhcgiifgkngaaDoorRows
import Derived.Test.YtlhhcgiifgkngaaDoorUn
import Derived.Test.YtlhhcgiifgkngaaDoorEven
import Derived.Test.YtlhhcgiifgkngaaDoorMem
import Derived.Outline
namespace Go.Proofs.YtlhhcgiifgkngaaDoor
open Go.RowKit
theorem ret_un2 {x y : B} {v : Value} (h : x = y) : Ending.returned (.tuple #[.int .u64 (un x : Int), v]) = .returned (.tuple #[.int .u64 (un y : Int), v]) := by rw [h]
def ofL (xs : List Nat) : B := xs.foldl (fun s x => s ||| 1#64 <<< x) 0#64
theorem ofL_snoc (xs : List Nat) (x : Nat) : ofL (xs ++ [x]) = ofL xs ||| 1#64 <<< x := by simp [ofL]
theorem ofL_take (xs : List Nat) (k : Nat) (h : k < xs.length) : ofL (xs.take (k + 1)) = ofL (xs.take k) ||| 1#64 <<< xs[k] := by
  rw [List.take_succ_eq_append_getElem h, ofL_snoc]
def ints (xs : List Nat) : List Value := xs.map fun x : Nat => Value.int .i64 (x : Int)
set_option maxHeartbeats 400000 in
theorem below_ok (n : Nat) (hn : n ≤ 64) (w : World) : Calls Tryd.prog 56 #[.int .i64 (n : Int)] w fun e w' => e = .returned (.int .u64 (un (belowB n))) ∧ w = w' := by
  go_enter Tryd.func56, Tryd.ntmps56
  go_wp2
  go_ret
  exact ⟨rfl, rfl⟩
set_option maxHeartbeats 400000 in
theorem Below_ok (n : Nat) (hn : n ≤ 64) (w : World) : Calls Tryd.prog 14 #[.int .i64 (n : Int)] w fun e w' => e = .returned (.tuple #[.int .u64 (un (belowB n)), .int .i64 0]) ∧ w = w' := by
  go_enter Tryd.func14, Tryd.ntmps14
  go_wp2_with (go_at_call 56; refine (below_ok _ hn _).mono ?_; rintro e w' ⟨rfl, rfl⟩)
  go_ret2
  exact ⟨rfl, rfl⟩
end Go.Proofs.YtlhhcgiifgkngaaDoor
