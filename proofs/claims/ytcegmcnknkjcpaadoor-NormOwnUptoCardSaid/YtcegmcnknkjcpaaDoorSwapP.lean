/- The order of two is no matter to the error and to the normal form. Conditions: none. -/
import Derived.Test.YtcegmcnknkjcpaaDoorNormFnW
namespace Go.Proofs.YtcegmcnknkjcpaaDoor
theorem swap_E (k : Int) (x y : QA) : qE qpat (.mk k [] 0 [x, y]) = 0 ↔ qE qpat (.mk k [] 0 [y, x]) = 0 := by
  have h : ∀ x y : QA, qE qpat (.mk k [] 0 [x, y]) = 0 → qE qpat (.mk k [] 0 [y, x]) = 0 := by
    intro x y h
    obtain ⟨h1, h2⟩ := qE_chk h
    obtain ⟨h3, h4⟩ := qchk_zero.1 h2
    rw [cnt_mk, cnts_two] at h1
    unfold qE
    rw [cnt_mk, cnts_two, if_neg (by omega)]
    refine qchk_zero.2 ⟨h3, fun z hz => h4 z ?_⟩
    simp at hz ⊢
    exact hz.symm
  exact ⟨h x y, h y x⟩
theorem swap_norm {k : Int} (hk : k = 5 ∨ k = 6) {x y : QA} (h : qE qpat (.mk k [] 0 [x, y]) = 0) : qNorm (.mk k [] 0 [x, y]) = qNorm (.mk k [] 0 [y, x]) := by
  unfold qNorm
  rw [if_pos h, if_pos ((swap_E k x y).1 h)]
  exact nrm_turned qpat_sep hk (qE_chk h).2
end Go.Proofs.YtcegmcnknkjcpaaDoor
