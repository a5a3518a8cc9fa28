/- The law SpanOrder, walked. Conditions: none. -/
import Derived.Test.YtlhomgbibhacoaaSpanSumW
import Derived.BigQuiet
import Derived.Deep.QuietTactic
namespace Go.Proofs.Ytlhomgbibhacoaa
open Go.RowKit
theorem f64_of {b : Nat} (h : (Lit.float .f64 b).wf = true) : ∃ x : B, b = un x := by
  have hb : b < 18446744073709551616 := by simpa [Lit.wf] using h
  exact ⟨BitVec.ofNat 64 b, by unfold un; rw [BitVec.toNat_ofNat]; omega⟩
set_option maxHeartbeats 400000 in
theorem spanOrder_walk (a b c : B) (w : World) : Calls Try.prog 3 #[.float .f64 (un a), .float .f64 (un b), .float .f64 (un c)] w fun e w' => e = .returned (.bool true) ∧ Below w.heap.size w w' := by
  have P := Lib.hid (span_order_plain a b c)
  go_enter Try.func3, Try.ntmps3
  go_wp2_with (first | (go_at_call 8; refine (spans_ok _).mono ?_; rintro e w1 ⟨rfl, hb⟩) | (go_at_call 9; refine (order_ok _ _ _).mono ?_; rintro e w' ⟨rfl, rfl⟩))
  all_goals
    obtain ⟨p1, p2, p3, p4, p5⟩ := P.out
    have b1 := ord_bd (un a) (un b)
    have e1 : wrap64 (-ordN (un a) (un b)) = -ordN (un a) (un b) := by unfold wrap64; omega
    have e2 : (ordN (un a) (un b) == 0) = ((un a : Int) == (un b : Int)) := by
      rw [Bool.eq_iff_iff, beq_iff_eq, beq_iff_eq, p2]; omega
    go_ret
    refine ⟨?_, hb⟩
    show Ending.returned (.bool _) = .returned (.bool true)
    first
      | rfl
      | (exfalso; first
          | (rename_i h; exact h (e1.symm ▸ p1))
          | (rename_i h; exact h e2)
          | (have := p3 (by assumption) (by assumption); omega))
      | (have := p4 (by assumption); simp; omega)
      | (have := p5 (by assumption); simp; omega)
      | trace_state
end Go.Proofs.Ytlhomgbibhacoaa
