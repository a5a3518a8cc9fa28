/- The order of times by their keys, on bit vectors; what the walks of package span ask of it. Conditions: none. -/
import Derived.Test.YtlhhcgiifgkngaaDoorUn
import Derived.Test.YtlhhcgiifgkngaaDoorFloat
namespace Go.Proofs.YtlhhcgiifgkngaaDoor
open Go.RowKit
def TOP : B := 1#64 <<< 63
theorem un_top : un TOP = SG := by decide
def keyB (x : B) : B := if SG ≤ un x then ~~~x else x ||| TOP
theorem un_keyB (x : B) : un (keyB x) = keyN (un x) := by
  have hx := un_lt x
  unfold keyB keyN
  split
  · unfold un; rw [BitVec.toNat_not]
  · rename_i h
    unfold un TOP
    rw [BitVec.toNat_or]
    have h2 : x.toNat < 2 ^ 63 := by unfold un SG at h; omega
    have e : (1#64 <<< 63).toNat = 2 ^ 63 * 1 := by decide
    rw [e, Nat.or_comm, ← Nat.two_pow_add_eq_or_of_lt h2]
    unfold SG; omega
theorem or_top (x : B) : bits .or .u64 (un x : Int) 9223372036854775808 = (un (x ||| TOP) : Int) := bits_or_un x TOP
theorem and_top (x : B) : bits .and .u64 (un x : Int) 9223372036854775808 = (un (x &&& TOP) : Int) := bits_and_un x TOP
theorem andNot_top (x : B) : bits .andNot .u64 (un x : Int) 9223372036854775808 = (un (x &&& ~~~TOP) : Int) := bits_andNot_un x TOP
theorem shr63 (x : B) : ((un x : Int) / 9223372036854775808 == 1) = decide (SG ≤ un x) := by
  have hx := un_lt x
  unfold SG
  rw [Bool.eq_iff_iff]; simp; omega
theorem and_top_zero (x : B) : x &&& TOP = 0#64 ↔ un x < SG := by
  have hx := un_lt x
  constructor
  · intro h
    rcases Nat.lt_or_ge (un x) SG with h1 | h1
    · exact h1
    · have h2 : (x &&& TOP).getLsbD 63 = false := by rw [h]; simp
      rw [BitVec.getLsbD_and] at h2
      have h3 : TOP.getLsbD 63 = true := by decide
      rw [h3, Bool.and_true] at h2
      have h4 : x.toNat.testBit 63 = false := h2
      rw [Nat.testBit_eq_decide_div_mod_eq] at h4
      unfold un SG at h1
      unfold un at hx
      simp at h4; omega
  · intro h
    refine un_inj ?_
    unfold un at h ⊢
    rw [BitVec.toNat_and]
    have e : TOP.toNat = 2 ^ 63 := by decide
    rw [e]
    show x.toNat &&& 2 ^ 63 = 0
    refine Nat.eq_of_testBit_eq fun i => ?_
    rw [Nat.testBit_and, Nat.testBit_two_pow, Nat.zero_testBit]
    by_cases hi : 63 = i
    · subst hi; rw [Nat.testBit_lt_two_pow (by unfold SG at h; omega)]; rfl
    · simp [hi]
/-- the order, as Go's Compare tells it -/
def cmpN (a b : Nat) : Int := if a < b then -1 else if b < a then 1 else 0
def ordN (a b : Nat) : Int := cmpN (keyN a) (keyN b)
theorem ordN_def (a b : Nat) : ordN a b = if keyN a < keyN b then -1 else if keyN b < keyN a then 1 else 0 := rfl
theorem ord_swap (a b : Nat) : ordN b a = - ordN a b := by rw [ordN_def, ordN_def]; split <;> split <;> omega
theorem ord_cases (a b : Nat) : (ordN a b = -1 ∧ keyN a < keyN b) ∨ (ordN a b = 0 ∧ keyN a = keyN b) ∨ (ordN a b = 1 ∧ keyN b < keyN a) := by
  rw [ordN_def]; split
  · left; exact ⟨rfl, by assumption⟩
  · split
    · right; right; exact ⟨rfl, by assumption⟩
    · right; left; exact ⟨rfl, by omega⟩
theorem ord_zero {a b : Nat} (ha : a < 18446744073709551616) (hb : b < 18446744073709551616) : ordN a b = 0 ↔ a = b := by
  constructor
  · intro h; rcases ord_cases a b with ⟨h1, _⟩ | ⟨_, h2⟩ | ⟨h1, _⟩
    · omega
    · exact key_inj ha hb h2
    · omega
  · rintro rfl; rw [ordN_def]; simp
theorem ord_le {a b : Nat} : ordN a b ≤ 0 ↔ keyN a ≤ keyN b := by
  rcases ord_cases a b with ⟨h1, _⟩ | ⟨_, h2⟩ | ⟨h1, _⟩ <;> omega
theorem ord_bd (a b : Nat) : -1 ≤ ordN a b ∧ ordN a b ≤ 1 := by
  rcases ord_cases a b with ⟨h1, _⟩ | ⟨_, h2⟩ | ⟨h1, _⟩ <;> omega
/-- whatever has no sign and is a number is right -/
def rightN (x : Nat) : Bool := decide (x ≤ INF)
theorem key_right {x y : Nat} (hx : x ≤ INF) (hy : y ≤ INF) : (keyN x ≤ keyN y) ↔ x ≤ y := by
  have h : INF < SG := by decide
  unfold keyN; rw [if_neg (by omega), if_neg (by omega)]; omega
theorem nan_eq {x : Nat} (hx : x < 18446744073709551616) : (Ieee.double.order x x != some .eq) = isN x := by
  cases h : isN x
  · rw [order_val hx hx h h]; simp
  · rw [order_nan (.inl h)]; rfl
theorem right_eq {x : Nat} (hx : x < 18446744073709551616) : ((Ieee.double.order x 0 == some .gt || Ieee.double.order x 0 == some .eq) && !sgn x) = rightN x := by
  have hI : INF < SG := by decide
  have hd : sgn x = decide (SG ≤ x) := rfl
  unfold rightN
  rcases Nat.lt_or_ge x SG with h1 | h1
  · have hs : sgn x = false := by rw [hd]; simp; omega
    have hr : rung x = x := Nat.mod_eq_of_lt h1
    rw [hs]
    rcases Nat.lt_or_ge INF x with h2 | h2
    · have hn : isN x = true := by unfold isN; rw [hr]; simpa using h2
      rw [order_nan (.inl hn)]
      have : ¬ x ≤ INF := by omega
      simp [this]
    · have hn : isN x = false := by unfold isN; rw [hr]; simpa using h2
      rw [order_val hx (by omega) hn (by decide)]
      have hv : 0 ≤ val x := by unfold val; rw [hs]; simp
      have h0 : val 0 = 0 := by
        have : rung 0 = 0 := by decide
        have h1 : sgn 0 = false := by decide
        unfold val; rw [this, h1, uni_zero]; rfl
      rw [h0]
      rcases Int.lt_trichotomy (val x) 0 with h | h | h
      · omega
      · rw [Int.compare_eq_eq.2 h]; simp [h2]
      · rw [Int.compare_eq_gt.2 h]; simp [h2]
  · have hs : sgn x = true := by rw [hd]; simpa using h1
    have : ¬ x ≤ INF := by omega
    rw [hs]; simp [this]
end Go.Proofs.YtlhhcgiifgkngaaDoor
