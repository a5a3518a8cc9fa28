/- Even as a composition of shifts: it is linear, and it is turned back by one shift. Conditions: none. -/
import Derived.Test.YtlhhcgiifgkngaaDoorUn
namespace Go.Proofs.YtlhhcgiifgkngaaDoor
def fE (k : Nat) (s : B) : B := s ^^^ (s <<< k)
def even (s : B) : B := fE 32 (fE 16 (fE 8 (fE 4 (fE 2 (fE 1 s)))))
theorem fE_xor (k : Nat) (s t : B) : fE k (s ^^^ t) = fE k s ^^^ fE k t := by
  unfold fE
  ext i hi
  simp only [BitVec.getElem_xor, BitVec.getElem_shiftLeft]
  by_cases h : i < k
  · simp [h]
  · simp [h]
    cases s[i] <;> cases t[i] <;> cases s[i-k] <;> cases t[i-k] <;> rfl
theorem fE_sq (k : Nat) (s : B) : fE k (fE k s) = fE (k + k) s := by
  unfold fE
  rw [BitVec.shiftLeft_add]
  ext i hi
  simp
  by_cases h : i < k
  · simp [h]
  · simp [h]
theorem fE_comm (j k : Nat) (s : B) : fE j (fE k s) = fE k (fE j s) := by
  have h1 : s <<< j <<< k = s <<< k <<< j := by rw [← BitVec.shiftLeft_add, ← BitVec.shiftLeft_add, Nat.add_comm]
  have e : ∀ a b : Nat, fE a (fE b s) = s ^^^ s <<< b ^^^ (s <<< a ^^^ s <<< b <<< a) := by
    intro a b
    have := fE_xor a s (s <<< b)
    unfold fE at this ⊢
    rw [this]
    ac_rfl
  rw [e, e, h1]; ac_rfl
theorem even_xor (s t : B) : even (s ^^^ t) = even s ^^^ even t := by simp only [even, fE_xor]
theorem even_back (s : B) : even s ^^^ (even s) <<< 1 = s := by
  show fE 1 (even s) = s
  unfold even
  rw [fE_comm 1 32, fE_comm 1 16, fE_comm 1 8, fE_comm 1 4, fE_comm 1 2, fE_sq 1, fE_sq 2, fE_sq 4, fE_sq 8, fE_sq 16, fE_sq 32]
  unfold fE
  simp
def belowB (n : Nat) : B := (1#64 <<< n) - 1#64
theorem even_one : ∀ n, n < 64 → even (1#64 <<< n) = ~~~ belowB n := by decide
theorem even_turn (s : B) (n : Nat) (h : n < 64) : even (s ^^^ 1#64 <<< n) = even s ^^^ ~~~ belowB n := by
  rw [even_xor, even_one n h]
end Go.Proofs.YtlhhcgiifgkngaaDoor
