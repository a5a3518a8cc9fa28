/- The walk of span.Sum at times that are right; the closed fact spans. Conditions: the slice reads as listed. -/
import Derived.Test.YtlhhcgiifgkngaaDoorSpanW
import Derived.Test.YtlhhcgiifgkngaaDoorMem
namespace Go.Proofs.YtlhhcgiifgkngaaDoor
open Go.RowKit
def flts (l : List B) : List Value := l.map fun x : B => Value.float .f64 (un x)
/-- the sum of times that are right -/
def sumN (l : List B) : Nat := l.foldl (fun s x => plus s (un x)) 0
theorem foldp_le (l : List B) (s : Nat) (hs : s ≤ INF) : l.foldl (fun s x => plus s (un x)) s ≤ INF := by
  induction l generalizing s with
  | nil => exact hs
  | cons a l ih => exact ih _ (plus_le _ _)
theorem sumN_le (l : List B) : sumN l ≤ INF := foldp_le l 0 (Nat.zero_le _)
theorem sumN_nil : sumN [] = 0 := rfl
theorem sumN_snoc (l : List B) (x : B) : sumN (l ++ [x]) = plus (sumN l) (un x) := by
  unfold sumN; rw [List.foldl_append, List.foldl_cons, List.foldl_nil]
theorem sumN_take (l : List B) (k : Nat) (h : k < l.length) : sumN (l.take (k + 1)) = plus (sumN (l.take k)) (un l[k]) := by
  rw [List.take_succ_eq_append_getElem h, sumN_snoc]
attribute [irreducible] sumN
theorem no_nan {s : Nat} (h : s ≤ INF) : (FloatKind.f64.format.order s s != some Ordering.eq) = false := by
  have hI : INF < SG := by decide
  have hS : SG < 18446744073709551616 := by decide
  have h1 := nan_eq (x := s) (by omega)
  have h2 : isN s = false := by
    unfold isN
    rw [show rung s = s from Nat.mod_eq_of_lt (by omega)]
    simpa using h
  rw [h2] at h1
  exact h1
theorem run_addf (x y : Nat) (hx : x ≤ INF) (hy : y ≤ INF) (w : World) : (binOp .add 63 (.float .f64 x) (.float .f64 y)).run Tryd.prog w = .ok (.float .f64 (plus x y)) w :=
  run_float_arith w .add 63 .f64 x y _ (by unfold floatBits; simp only [FloatKind.format]; exact add_pos hx hy)
set_option maxHeartbeats 400000 in
theorem sum_ok (l : List B) (hx : ∀ x ∈ l, un x ≤ INF) (p : Option Addr) (n c b : Nat) (w : World) (hr : Reads w b 1 p n (flts l)) (hn : n ≤ maxLen) :
    Calls Tryd.prog 76 #[.slice p n c] w fun e w' => e = .returned (.float .f64 (sumN l)) ∧ w = w' := by
  unfold maxLen at hn
  have hl : l.length = n := by have := hr.1; simpa [flts] using this
  subst hl
  go_enter Tryd.func76, Tryd.ntmps76
  go_wp2
  go_loop [3, 8] (fun s i => ∃ k : Nat, k ≤ l.length ∧ i = .int .i64 k ∧ s = .float .f64 (sumN (l.take k))) (fun _ i => l.length - (intOf i).toNat)
  case atStart => exact ⟨0, Nat.zero_le _, rfl, by rw [List.take_zero, sumN_nil]⟩
  case round =>
    obtain ⟨k, hk, rfl, rfl⟩ := hrel
    by_cases hlt : k < l.length
    · obtain ⟨ad, u, rfl, _, hu, hc⟩ := hr.at_ hlt
      have hxk : un l[k] ≤ INF := hx _ (List.getElem_mem hlt)
      obtain ⟨x, hxe⟩ : ∃ x, x = l[k] := ⟨_, rfl⟩
      have HT : Hid (sumN (l.take (k + 1)) = plus (sumN (l.take k)) (un x)) := by rw [hxe]; exact sumN_take l k hlt
      have hcell : w.cell? (ad.add k) = some (.float .f64 (un x)) := by
        rw [hc]; rw [← hu]; simp [flts, List.getElem?_eq_getElem hlt, hxe]
      rw [← hxe] at hxk
      have hadd := run_addf (sumN (l.take k)) (un x) (sumN_le _) hxk
      clear hu hc hxe hr hx
      go_wp2
      go_round
      case rel => exact ⟨k + 1, by omega, by go_num, by rw [HT.out]⟩
      case measure => simp [intOf]; omega
    · have hall : l.take k = l := List.take_of_length_le (by omega)
      rw [hall]
      clear hall hr hx
      have hnn := no_nan (sumN_le l)
      go_wp2
      go_ret
      exact ⟨rfl, rfl⟩
def F1 : B := 4607182418800017408#64
def F2 : B := 4611686018427387904#64
theorem un_F1 : un F1 = 4607182418800017408 := by decide
theorem un_F2 : un F2 = 4611686018427387904 := by decide
theorem right_12 : ∀ x ∈ [F1, F2], un x ≤ INF := by
  intro x hx
  simp only [List.mem_cons, List.not_mem_nil, or_false] at hx
  rcases hx with rfl | rfl
  · exact of_decide_eq_true (by rfl)
  · exact of_decide_eq_true (by rfl)
theorem sum_12 : sumN [F1, F2] = 4613937818241073152 := by decide +kernel
theorem ord_12 : ordN (un F1) (un F2) = -1 := by decide +kernel
theorem eq_3 : (FloatKind.f64.format.order (sumN [F1, F2]) 4613937818241073152 == some Ordering.eq) = true := by decide +kernel
set_option maxHeartbeats 400000 in
theorem spans_ok (w : World) : Calls Tryd.prog 36 #[] w fun e w' => e = .returned (.bool true) ∧ Below w.heap.size w w' := by
  have hO := spord_ok F1 F2
  rw [ord_12, un_F1, un_F2] at hO
  have HO := Lib.hid hO
  clear hO
  have h3 := eq_3
  go_enter Tryd.func36, Tryd.ntmps36
  go_wp2_with fail
  trace "0"
  refine (sum_ok [F1, F2] right_12 _ 2 _ (w.heap.size + 1) _ ?_ (by unfold maxLen; omega)).mono ?_
  · refine ⟨rfl, fun _ => ⟨_, rfl, by simp, fun j u hj => ?_⟩⟩
    match j, hj with
    | 0, hj => simp [flts] at hj; subst hj; simp [Addr.add, un_F1]
    | 1, hj => simp [flts] at hj; subst hj; simp [Addr.add, un_F2]
  · rintro e w' ⟨rfl, rfl⟩
    trace "1"
    go_wp2_with fail
    trace "2"
    go_wp2_with (go_at_call 77; refine (HO.out _).mono ?_; rintro e w' ⟨rfl, rfl⟩)
    trace "3"
    go_ret
    exact ⟨rfl, (Below.refl _ _).alloc (Nat.le_refl _) _⟩
end Go.Proofs.YtlhhcgiifgkngaaDoor
