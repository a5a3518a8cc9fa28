/- The set of a list of numbers. Conditions: none. -/
import Derived.Test.YtlhhcgiifgkngaaDoorBitsW
import Derived.Test.YtlhhcgiifgkngaaDoorSets
namespace Go.Proofs.YtlhhcgiifgkngaaDoor
theorem has_one (x n : Nat) (hn : n < 64) : has (1#64 <<< x) n = decide (n = x) := by
  unfold has
  rw [BitVec.getLsbD_shiftLeft]
  by_cases h : n = x
  · subst h; simp [hn]
  · by_cases h2 : n < x
    · simp [h, h2]
    · have h3 : n - x ≠ 0 := by omega
      simp [h, h2]
      intro _ h4
      have : n - x < 1 := by
        rcases Nat.lt_or_ge (n - x) 1 with h5 | h5
        · exact h5
        · exfalso; revert h4; simp; omega
      omega
theorem has_ofL (xs : List Nat) (n : Nat) (hn : n < 64) : has (ofL xs) n = decide (n ∈ xs) := by
  unfold ofL
  suffices h : ∀ (xs : List Nat) (s : B), has (xs.foldl (fun s x => s ||| 1#64 <<< x) s) n = (has s n || decide (n ∈ xs)) by
    rw [h, has_zero]; simp
  intro xs
  induction xs with
  | nil => intro s; simp
  | cons x xs ih =>
    intro s
    rw [List.foldl_cons, ih, has_or, has_one x n hn]
    by_cases h1 : n = x <;> by_cases h2 : n ∈ xs <;> simp [h1, h2]
theorem ofL_lst (s : B) : ofL (lst s) = s := set_ext fun n hn => by
  rw [has_ofL _ _ hn]
  by_cases h : has s n = true
  · rw [h]; simpa using mem_lst.2 h
  · have : n ∉ lst s := fun hc => h (mem_lst.1 hc)
    simp [this]
    simpa using h
end Go.Proofs.YtlhhcgiifgkngaaDoor
