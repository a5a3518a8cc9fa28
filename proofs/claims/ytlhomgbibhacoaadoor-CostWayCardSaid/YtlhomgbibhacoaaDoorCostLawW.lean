/- The fact costs, and the laws CostLeast and CostMore walked. Conditions: the arguments read as listed. -/
import Derived.Test.YtlhomgbibhacoaaDoorCostTimesW
namespace Go.Proofs.YtlhomgbibhacoaaDoor
open Go.RowKit
theorem kord_two : KOrd [2#64, 0#64] [1, 0] 0#64 := by
  have hv : Valid [2#64, 0#64] := chkR_zero.1 costs_rows
  have h0 := kord_nil (r := [2#64, 0#64]) (by decide)
  have h1 := kord_snoc hv h0 (n := 1) (by decide +kernel) (by decide +kernel)
  have h2 := kord_snoc hv h1 (n := 0) (by decide +kernel) (by decide +kernel)
  have e : belowB [2#64, 0#64].length &&& ~~~(1#64 <<< 1) &&& ~~~(1#64 <<< 0) = 0#64 := by decide +kernel
  rw [e] at h2
  exact h2
theorem uns_12 : uns [F1, F2] = [4607182418800017408, 4611686018427387904] := by
  unfold uns; simp only [List.map_cons, List.map_nil, un_F1, un_F2]
theorem good_two : GoodC [2#64, 0#64] (uns [F1, F2]) :=
  ⟨costs_rows, rfl, uns_le right_12, _, kord_two⟩
theorem eq3_of {y : Nat} (h : y = 4613937818241073152) : (FloatKind.f64.format.order y 4613937818241073152 == some Ordering.eq) = true := by
  rw [h]; decide +kernel
theorem costs_most {T : List Nat} {y : B} (h : Sol [2#64, 0#64] (uns [F1, F2]) T) (hy : ([2#64, 0#64].length = 0 ∧ y = 0#64) ∨ ((∀ n, T.getD n 0 ≤ un y) ∧ ∃ n, n < [2#64, 0#64].length ∧ un y = T.getD n 0)) : un y = 4613937818241073152 := by
  obtain ⟨h0, h1⟩ := costs_sol uns_12 h
  rcases hy with ⟨h2, _⟩ | ⟨h2, n, hn, h3⟩
  · simp at h2
  · have := h2 0
    have hn' : n = 0 ∨ n = 1 := by simp at hn; omega
    rcases hn' with rfl | rfl
    · rw [h3, h0]
    · rw [h1] at h3; omega
theorem flts_two (w : World) : FltsAt (w.alloc (.cells #[.float .f64 4607182418800017408, .float .f64 4611686018427387904] 22)) (some ⟨w.heap.size, 0, none⟩) 2 [F1, F2] := by
  refine ⟨⟨rfl, fun _ => ⟨_, rfl, by simp, fun j u hj => ?_⟩⟩, rfl, by omega⟩
  match j, hj with
  | 0, hj => simp [flts] at hj; subst hj; simp [Addr.add, un_F1]
  | 1, hj => simp [flts] at hj; subst hj; simp [Addr.add, un_F2]
set_option maxHeartbeats 1000000 in
theorem costs_below (w : World) (hT : Tab w) : Calls Tryd.prog 11 #[] w fun e w' => e = .returned (.bool true) ∧ Below w.heap.size w w' := by
  have hb1 : Below w.heap.size w (w.alloc (.cells #[.int .u64 2, .int .u64 0] 28)) := (Below.refl _ _).alloc (Nat.le_refl _) _
  have hb2 : Below (w.alloc (.cells #[.int .u64 2, .int .u64 0] 28)).heap.size (w.alloc (.cells #[.int .u64 2, .int .u64 0] 28)) ((w.alloc (.cells #[.int .u64 2, .int .u64 0] 28)).alloc (.cells #[.float .f64 4607182418800017408, .float .f64 4611686018427387904] 22)) := (Below.refl _ _).alloc (Nat.le_refl _) _
  have hR := (rows_two w 2#64 0#64).below hb2
  have hF := flts_two (w.alloc (.cells #[.int .u64 2, .int .u64 0] 28))
  have hTT := (hT.below hb1).below hb2
  have es : (w.alloc (.cells #[.int .u64 2, .int .u64 0] 28)).heap.size = w.heap.size + 1 := by simp
  rw [es] at hF
  clear es
  have HB := Lib.hid (below_next hb1 hb2)
  clear hb1 hb2
  go_enter Tryd.func11, Tryd.ntmps11
  go_wp2_with fail
  refine (Times_ok _ _ _ [2#64, 0#64] _ _ _ [F1, F2] _ hR hF hTT).mono ?_
  rintro e w1 (⟨T, g, cg, o, y, rfl, _, _, hS, _, hy, hb⟩ | ⟨k, rfl, hk, hN, hb⟩)
  · have hm := eq3_of (costs_most hS hy)
    clear hS hy
    go_wp2
    go_ret
    exact ⟨rfl, below_next HB.out hb⟩
  · exact absurd good_two hN
end Go.Proofs.YtlhomgbibhacoaaDoor
