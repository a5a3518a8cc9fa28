/- The patterns of names, plainly. Conditions: none. -/
import Derived.Test.YteefncohknclcaaGreatDoorAskP
import Derived.Test.YteefncohknclcaaGreatDoorGlobFnW
namespace Go.Proofs.YteefncohknclcaaGreatDoor
/-- a sign of a pattern that is none of a name -/
def starC (c : UInt8) : Bool := c == 42 || c == 63 || c == 91 || c == 93 || c == 33 || c == 92
/-- a pattern of names -/
def qpat (s : List UInt8) : Bool := s.all (fun c => signC c || starC c) && decide (pE s = 0)
theorem qpat_sep (s : List UInt8) (h : qpat s = true) (c : UInt8) (hc : c ∈ s) : sepC c = false := by
  unfold qpat at h
  rw [Bool.and_eq_true] at h
  have := List.all_eq_true.1 h.1 c hc
  rw [Bool.or_eq_true] at this
  rcases this with h1 | h1
  · exact sign_sep h1
  · unfold starC at h1
    simp only [Bool.or_eq_true, beq_iff_eq] at h1
    rcases h1 with ((((h1 | h1) | h1) | h1) | h1) | h1 <;> subst h1 <;> rfl
theorem qpat_pE {s : List UInt8} (h : qpat s = true) : pE s = 0 := by
  unfold qpat at h
  rw [Bool.and_eq_true] at h
  exact of_decide_eq_true h.2
end Go.Proofs.YteefncohknclcaaGreatDoor
