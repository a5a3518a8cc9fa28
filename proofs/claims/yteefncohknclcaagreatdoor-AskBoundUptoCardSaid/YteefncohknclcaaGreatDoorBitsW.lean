/- The walks through package bits: Of, below, Below, Even; and the closed fact sets. Conditions: the numbers of Of's list are below 64. -/
import Derived.Test.YteefncohknclcaaGreatDoorRows
import Derived.Test.YteefncohknclcaaGreatDoorUn
import Derived.Test.YteefncohknclcaaGreatDoorEven
import Derived.Test.YteefncohknclcaaGreatDoorMem
import Derived.Outline
namespace Go.Proofs.YteefncohknclcaaGreatDoor
open Go.RowKit
theorem ret_un2 {x y : B} {v : Value} (h : x = y) : Ending.returned (.tuple #[.int .u64 (un x : Int), v]) = .returned (.tuple #[.int .u64 (un y : Int), v]) := by rw [h]
def ofL (xs : List Nat) : B := xs.foldl (fun s x => s ||| 1#64 <<< x) 0#64
theorem ofL_snoc (xs : List Nat) (x : Nat) : ofL (xs ++ [x]) = ofL xs ||| 1#64 <<< x := by simp [ofL]
theorem ofL_take (xs : List Nat) (k : Nat) (h : k < xs.length) : ofL (xs.take (k + 1)) = ofL (xs.take k) ||| 1#64 <<< xs[k] := by
  rw [List.take_succ_eq_append_getElem h, ofL_snoc]
def ints (xs : List Nat) : List Value := xs.map fun x : Nat => Value.int .i64 (x : Int)
set_option maxHeartbeats 400000 in
theorem of_ok (xs : List Nat) (hx : ∀ x ∈ xs, x < 64) (p : Option Addr) (n c b : Nat) (w : World) (hr : Reads w b 1 p n (ints xs)) (hn : n ≤ maxLen) :
    Calls Tryz.prog 66 #[.slice p n c] w fun e w' => e = .returned (.tuple #[.int .u64 (un (ofL xs)), .int .i64 0]) ∧ w = w' := by
  unfold maxLen at hn
  have hl : xs.length = n := by have := hr.1; simpa [ints] using this
  subst hl
  go_enter Tryz.func66, Tryz.ntmps66
  go_wp2
  go_loop [4, 9] (fun s i => ∃ k : Nat, k ≤ xs.length ∧ i = .int .i64 k ∧ s = .int .u64 (un (ofL (xs.take k)))) (fun _ i => xs.length - (intOf i).toNat)
  case atStart => exact ⟨0, Nat.zero_le _, rfl, rfl⟩
  case round =>
    obtain ⟨k, hk, rfl, rfl⟩ := hrel
    by_cases hlt : k < xs.length
    · obtain ⟨ad, u, rfl, _, hu, hc⟩ := hr.at_ hlt
      have hxk : xs[k] < 64 := hx _ (List.getElem_mem hlt)
      obtain ⟨x, hxe⟩ : ∃ x, x = xs[k] := ⟨_, rfl⟩
      have HT : Hid (ofL (xs.take (k + 1)) = ofL (xs.take k) ||| 1#64 <<< x) := by rw [hxe]; exact ofL_take xs k hlt
      have hcell : w.cell? (ad.add k) = some (.int .i64 (x : Int)) := by
        rw [hc]; rw [← hu]; simp [ints, List.getElem?_eq_getElem hlt, hxe]
      rw [← hxe] at hxk
      clear hu hc hxe hr hx
      go_wp2
      go_round
      case rel => exact ⟨k + 1, by omega, by go_num, by rw [HT.out]⟩
      case measure => simp [intOf]; omega
    · go_wp2
      go_ret2
      exact ⟨ret_un2 (by rw [List.take_of_length_le (by omega)]), rfl⟩
set_option maxHeartbeats 400000 in
theorem below_ok (n : Nat) (hn : n ≤ 64) (w : World) : Calls Tryz.prog 90 #[.int .i64 (n : Int)] w fun e w' => e = .returned (.int .u64 (un (belowB n))) ∧ w = w' := by
  go_enter Tryz.func90, Tryz.ntmps90
  go_wp2
  go_ret
  exact ⟨rfl, rfl⟩
set_option maxHeartbeats 400000 in
theorem Below_ok (n : Nat) (hn : n ≤ 64) (w : World) : Calls Tryz.prog 60 #[.int .i64 (n : Int)] w fun e w' => e = .returned (.tuple #[.int .u64 (un (belowB n)), .int .i64 0]) ∧ w = w' := by
  go_enter Tryz.func60, Tryz.ntmps60
  go_wp2_with (go_at_call 90; refine (below_ok _ hn _).mono ?_; rintro e w' ⟨rfl, rfl⟩)
  go_ret2
  exact ⟨rfl, rfl⟩
end Go.Proofs.YteefncohknclcaaGreatDoor
