/- The walks through name.sign, name.Check and name.Stem. Conditions: texts shorter than 2^62 bytes. -/
import Derived.Test.YtchjogcdenkhcaaDoorStrs
import Derived.Test.YtchjogcdenkhcaaDoorShelf
namespace Go.Proofs.YtchjogcdenkhcaaDoor
open Go.RowKit
/-- may a byte stand in a name? -/
def signC (c : UInt8) : Bool := (97 ≤ c.toNat && c.toNat ≤ 122) || (65 ≤ c.toNat && c.toNat ≤ 90) || (48 ≤ c.toNat && c.toNat ≤ 57) || decide (0 ≤ Lib.indexByte [95, 46, 47, 45, 43] c)
theorem signC_at {c : UInt8} {z : Int} (hz : Lib.indexByte [95, 46, 47, 45, 43] c = z) : (c.toNat < 48 ∧ signC c = decide (0 ≤ z)) ∨ (48 ≤ c.toNat ∧ c.toNat ≤ 57 ∧ signC c = true) ∨ (58 ≤ c.toNat ∧ c.toNat ≤ 64 ∧ signC c = decide (0 ≤ z)) ∨ (65 ≤ c.toNat ∧ c.toNat ≤ 90 ∧ signC c = true) ∨ (91 ≤ c.toNat ∧ c.toNat ≤ 96 ∧ signC c = decide (0 ≤ z)) ∨ (97 ≤ c.toNat ∧ c.toNat ≤ 122 ∧ signC c = true) ∨ (123 ≤ c.toNat ∧ signC c = decide (0 ≤ z)) := by
  have key : ∀ n : Nat, n = c.toNat → signC c = (((decide (97 ≤ n) && decide (n ≤ 122)) || (decide (65 ≤ n) && decide (n ≤ 90))) || (decide (48 ≤ n) && decide (n ≤ 57)) || decide (0 ≤ z)) := by
    intro n hn
    subst hn
    unfold signC
    rw [hz]
  have hk := key _ rfl
  generalize c.toNat = n at *
  rcases Nat.lt_or_ge n 48 with h | h
  · exact .inl ⟨h, by rw [hk, decide_eq_false (show ¬ 97 ≤ n by omega), decide_eq_false (show ¬ 65 ≤ n by omega), decide_eq_false (show ¬ 48 ≤ n by omega)]; rfl⟩
  rcases Nat.lt_or_ge n 58 with h2 | h2
  · exact .inr (.inl ⟨h, by omega, by rw [hk, decide_eq_true (show 48 ≤ n by omega), decide_eq_true (show n ≤ 57 by omega)]; simp⟩)
  rcases Nat.lt_or_ge n 65 with h3 | h3
  · exact .inr (.inr (.inl ⟨h2, by omega, by rw [hk, decide_eq_false (show ¬ 97 ≤ n by omega), decide_eq_false (show ¬ 65 ≤ n by omega), decide_eq_false (show ¬ n ≤ 57 by omega)]; simp⟩))
  rcases Nat.lt_or_ge n 91 with h4 | h4
  · exact .inr (.inr (.inr (.inl ⟨h3, by omega, by rw [hk, decide_eq_true (show 65 ≤ n by omega), decide_eq_true (show n ≤ 90 by omega)]; simp⟩)))
  rcases Nat.lt_or_ge n 97 with h5 | h5
  · exact .inr (.inr (.inr (.inr (.inl ⟨h4, by omega, by rw [hk, decide_eq_false (show ¬ 97 ≤ n by omega), decide_eq_false (show ¬ n ≤ 90 by omega), decide_eq_false (show ¬ n ≤ 57 by omega)]; simp⟩))))
  rcases Nat.lt_or_ge n 123 with h6 | h6
  · exact .inr (.inr (.inr (.inr (.inr (.inl ⟨h5, by omega, by rw [hk, decide_eq_true (show 97 ≤ n by omega), decide_eq_true (show n ≤ 122 by omega)]; simp⟩)))))
  · exact .inr (.inr (.inr (.inr (.inr (.inr ⟨h6, by rw [hk, decide_eq_false (show ¬ n ≤ 122 by omega), decide_eq_false (show ¬ n ≤ 90 by omega), decide_eq_false (show ¬ n ≤ 57 by omega)]; simp⟩)))))
/-- the error of a name -/
def nameE (s : ByteArray) : Int := if s.size = 0 ∨ 40 < s.size then 3 else if s.data.toList.all signC then 0 else 3
theorem empty_eq {s : ByteArray} (h : s.size = 0) : s = ⟨#[]⟩ := by
  cases s with
  | mk d =>
    congr 1
    exact Array.size_eq_zero_iff.1 h
end Go.Proofs.YtchjogcdenkhcaaDoor
