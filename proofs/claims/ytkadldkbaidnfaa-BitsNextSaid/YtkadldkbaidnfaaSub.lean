/- The next greater subset of a set, as Sub reckons it: there is none between; its rank is one more. Conditions: none. -/
import Derived.Test.YtkadldkbaidnfaaEven
import Derived.Test.YtkadldkbaidnfaaPop
import Derived.Lib.BitFns
import Derived.Lib.ItoaNum
namespace Go.Proofs.Ytkadldkbaidnfaa
theorem and_bit (a b : Nat) : (a &&& b) % 2 = (a % 2) * (b % 2) := by
  have h := @Nat.and_mod_two_eq_one a b
  have e := Nat.mod_two_eq_zero_or_one (a &&& b)
  rcases Nat.mod_two_eq_zero_or_one a with ha | ha <;> rcases Nat.mod_two_eq_zero_or_one b with hb | hb <;> rcases e with e | e <;> rw [ha, hb, e] at h ⊢ <;> simp at h ⊢

theorem and_split (a b : Nat) : (a &&& b) = 2 * (a / 2 &&& b / 2) + (a % 2) * (b % 2) := by
  rw [← and_bit, ← Nat.and_div_two]; omega

/-- the rank of a subset t of s among all subsets of s -/
def rk : Nat → Nat → Nat → Nat
  | 0, _, _ => 0
  | n + 1, s, t => if s % 2 = 1 then 2 * rk n (s / 2) (t / 2) + t % 2 else rk n (s / 2) (t / 2)

theorem rk_self (n s : Nat) : rk n s s + 1 = 2 ^ pop n s := by
  induction n generalizing s with
  | zero => rfl
  | succ n ih =>
    unfold rk pop
    have := ih (s / 2)
    rcases Nat.mod_two_eq_zero_or_one s with h | h
    · simp [h]; omega
    · simp only [h, if_true]
      rw [Nat.add_comm 1 (pop n (s / 2)), Nat.pow_succ]; omega
theorem rk_zero (n s : Nat) : rk n s 0 = 0 := by
  induction n generalizing s with
  | zero => rfl
  | succ n ih => unfold rk; simp [ih]

/-- the next greater subset of s behind t, as Nat: t + (all - s) + 1, cut by s -/
def nxN (n s t : Nat) : Nat := t + (2 ^ n - 1 - s) + 1

theorem sub_of (s t : Nat) (h : t &&& s = t) : t / 2 &&& s / 2 = t / 2 ∧ (t % 2 = 0 ∨ s % 2 = 1) := by
  have h1 := and_split t s
  rw [h] at h1
  have h2 : t % 2 = (t % 2) * (s % 2) := by rw [← and_bit, h]
  constructor
  · rw [← Nat.and_div_two, h]
  · rcases Nat.mod_two_eq_zero_or_one s with hs | hs
    · left; rw [hs] at h2; omega
    · right; exact hs

theorem sub_le (s t : Nat) (h : t &&& s = t) : t ≤ s := by rw [← h]; exact Nat.and_le_right

theorem nx_core (n : Nat) : ∀ s t x : Nat, s < 2 ^ n → t &&& s = t → x &&& s = x → t < x →
    nxN n s t < 2 ^ n ∧ nxN n s t &&& s ≤ x ∧ t < nxN n s t &&& s ∧ rk n s (nxN n s t &&& s) = rk n s t + 1 := by
  induction n with
  | zero => intro s t x hs ht hx hlt; have := sub_le s x hx; omega
  | succ n ih =>
    intro s t x hs ht hx hlt
    have hp : 2 ^ (n + 1) = 2 * 2 ^ n := by rw [Nat.pow_succ]; omega
    obtain ⟨ht1, ht2⟩ := sub_of s t ht
    obtain ⟨hx1, hx2⟩ := sub_of s x hx
    have hs' : s / 2 < 2 ^ n := by omega
    have hst := sub_le s t ht
    by_cases h1 : s % 2 = 1 ∧ t % 2 = 0
    · -- the lowest bit is raised
      obtain ⟨hb, hb0⟩ := h1
      have e : nxN (n + 1) s t = 2 * (t / 2 + (2 ^ n - 1 - s / 2)) + 1 := by unfold nxN; omega
      have hle : t / 2 ≤ s / 2 := sub_le _ _ ht1
      have ed : nxN (n + 1) s t / 2 = t / 2 + (2 ^ n - 1 - s / 2) := by omega
      have em : nxN (n + 1) s t % 2 = 1 := by omega
      -- t/2 + ~ (s/2) and s/2 = t/2
      have key : ∀ m a b : Nat, a < 2 ^ m → b &&& a = b → (b + (2 ^ m - 1 - a)) &&& a = b := by
        intro m
        induction m with
        | zero => intro a b ha hb; have := sub_le a b hb; have : a = 0 := by omega
                  have : b = 0 := by omega
                  subst_vars; rfl
        | succ m ihm =>
          intro a b ha hb
          have hp : 2 ^ (m + 1) = 2 * 2 ^ m := by rw [Nat.pow_succ]; omega
          obtain ⟨hb1, hb2⟩ := sub_of a b hb
          have hba := sub_le a b hb
          have ha' : a / 2 < 2 ^ m := by omega
          have := ihm (a / 2) (b / 2) ha' hb1
          rw [and_split]
          have e1 : (b + (2 ^ (m + 1) - 1 - a)) / 2 = b / 2 + (2 ^ m - 1 - a / 2) := by omega
          rw [e1, this]
          rcases Nat.mod_two_eq_zero_or_one a with h | h
          · rw [h]; omega
          · have : (b + (2 ^ (m + 1) - 1 - a)) % 2 = b % 2 := by omega
            rw [h, this]; omega
      have ev : nxN (n + 1) s t &&& s = t + 1 := by
        rw [and_split, ed, em, hb, key n _ _ hs' ht1]; omega
      refine ⟨by omega, by omega, by omega, ?_⟩
      rw [ev]; unfold rk; rw [if_pos hb, if_pos hb]
      have : (t + 1) / 2 = t / 2 := by omega
      rw [this]; omega
    · have hx3 : t / 2 < x / 2 := by omega
      obtain ⟨i1, i2, i3, i4⟩ := ih (s / 2) (t / 2) (x / 2) hs' ht1 hx1 hx3
      have e : nxN (n + 1) s t = 2 * nxN n (s / 2) (t / 2) := by
        have := sub_le _ _ ht1
        unfold nxN; omega
      have ev : nxN (n + 1) s t &&& s = 2 * (nxN n (s / 2) (t / 2) &&& s / 2) := by
        rw [and_split, e]
        have e1 : 2 * nxN n (s / 2) (t / 2) / 2 = nxN n (s / 2) (t / 2) := by omega
        have e2 : 2 * nxN n (s / 2) (t / 2) % 2 = 0 := by omega
        rw [e1, e2]; omega
      refine ⟨by omega, by omega, by omega, ?_⟩
      rw [ev]; unfold rk
      have e1 : 2 * (nxN n (s / 2) (t / 2) &&& s / 2) / 2 = nxN n (s / 2) (t / 2) &&& s / 2 := by omega
      rw [e1, i4]
      have e3 : 2 * (nxN n (s / 2) (t / 2) &&& s / 2) % 2 = 0 := by omega
      rw [e3]
      split <;> omega

theorem un_and (x y : B) : un (x &&& y) = un x &&& un y := BitVec.toNat_and ..
theorem bit_ext {a b : Nat} (h : ∀ i, a.testBit i = b.testBit i) : a = b := Nat.eq_of_testBit_eq h
def outB (s t : B) : B := t &&& ~~~s
def hB (s t : B) : Nat := Lib.bitLen (un (outB s t))
def cutB (s t : B) : B := if un (outB s t) = 0 then t else (t &&& ~~~belowB (hB s t)) ||| (s &&& belowB (hB s t))
def nxtB (s t : B) : B := (cutB s t - s) &&& s
theorem belowB_bit (h i : Nat) (hh : h ≤ 64) : (belowB h).getLsbD i = decide (i < h) := by
  have e : (belowB h).toNat = 2 ^ h - 1 := by
    unfold belowB
    rcases Nat.lt_or_ge h 64 with h1 | h1
    · have hp : 2 ^ h < 2 ^ 64 := Nat.pow_lt_pow_right (by omega) h1
      have hq : 0 < 2 ^ h := Nat.two_pow_pos h
      rw [BitVec.toNat_sub_of_le]
      · rw [BitVec.toNat_shiftLeft, Nat.shiftLeft_eq, Nat.mod_eq_of_lt (by simpa using hp)]; simp
      · rw [BitVec.le_def, BitVec.toNat_shiftLeft, Nat.shiftLeft_eq, Nat.mod_eq_of_lt (by simpa using hp)]; simp; omega
    · have : h = 64 := by omega
      subst this; rfl
  rw [← BitVec.testBit_toNat, e, Nat.testBit_two_pow_sub_one]
theorem testBit_un (x : B) (i : Nat) : (un x).testBit i = x.getLsbD i := rfl
section
variable {s t : B}
theorem out_zero (h : un (outB s t) = 0) : un t &&& un s = un t := by
  have h' : t &&& ~~~s = 0#64 := un_inj h
  rw [← un_and]
  congr 1
  apply BitVec.eq_of_getLsbD_eq
  intro i hi
  have hb := congrArg (fun x : B => x.getLsbD i) h'
  simp [hi] at hb
  simp
  intro ht
  exact hb ht
theorem h_le : hB s t ≤ 64 := Lib.bitLen_le _ 64 (by omega) (un_lt _)
theorem h_bounds (h : un (outB s t) ≠ 0) : 1 ≤ hB s t ∧ 2 ^ (hB s t - 1) ≤ un (outB s t) ∧ un (outB s t) < 2 ^ hB s t :=
  Lib.bitLenAux_bounds 64 _ (un_lt _) h
theorem out_bit (i : Nat) : (un (outB s t)).testBit i = ((un t).testBit i && !(un s).testBit i) := by
  rw [testBit_un, testBit_un, testBit_un]
  unfold outB
  rw [BitVec.getLsbD_and, BitVec.getLsbD_not]
  by_cases hi : i < 64
  · simp [hi]
  · have : t.getLsbD i = false := BitVec.getLsbD_of_ge _ _ (by omega)
    simp [this]
theorem cut_bit (h : un (outB s t) ≠ 0) (i : Nat) : (un (cutB s t)).testBit i = if i < hB s t then (un s).testBit i else (un t).testBit i := by
  have hh := @h_le s t
  rw [testBit_un, testBit_un, testBit_un]
  unfold cutB
  rw [if_neg h, BitVec.getLsbD_or, BitVec.getLsbD_and, BitVec.getLsbD_and, BitVec.getLsbD_not, belowB_bit _ _ hh]
  by_cases hi : i < 64
  · by_cases h1 : i < hB s t <;> simp [hi, h1]
  · have e1 : t.getLsbD i = false := BitVec.getLsbD_of_ge _ _ (by omega)
    have e2 : s.getLsbD i = false := BitVec.getLsbD_of_ge _ _ (by omega)
    simp [e1, e2]
theorem cut_sub : un (cutB s t) &&& un s = un (cutB s t) := by
  by_cases h : un (outB s t) = 0
  · unfold cutB; rw [if_pos h]; exact out_zero h
  · apply bit_ext
    intro i
    rw [Nat.testBit_and, cut_bit h]
    split
    · simp
    · rename_i h1
      have hb := out_bit (s := s) (t := t) i
      have h0 : (un (outB s t)).testBit i = false := Nat.testBit_lt_two_pow (Nat.lt_of_lt_of_le (h_bounds h).2.2 (Nat.pow_le_pow_right (by omega) (by omega)))
      rw [h0] at hb
      cases h3 : (un t).testBit i <;> cases h4 : (un s).testBit i <;> simp [h3, h4] at hb ⊢
theorem cut_div (h : un (outB s t) ≠ 0) : un (cutB s t) = 2 ^ hB s t * (un t / 2 ^ hB s t) + un s % 2 ^ hB s t := by
  apply bit_ext
  intro i
  rw [cut_bit h, Nat.testBit_two_pow_mul_add _ (Nat.mod_lt _ (Nat.two_pow_pos _))]
  split
  · rename_i h1; rw [Nat.testBit_mod_two_pow]; simp [h1]
  · rename_i h1; rw [Nat.testBit_div_two_pow]; congr 1; omega
theorem cut_max {x : B} (hx : un x &&& un s = un x) (hle : un x ≤ un t) : un x ≤ un (cutB s t) := by
  by_cases h : un (outB s t) = 0
  · unfold cutB; rw [if_pos h]; exact hle
  · rw [cut_div h]
    have h1 : un x % 2 ^ hB s t ≤ un s % 2 ^ hB s t := by
      have := @Nat.and_mod_two_pow (un x) (un s) (hB s t)
      rw [hx] at this
      rw [this]; exact Nat.and_le_right
    have h2 : un x / 2 ^ hB s t ≤ un t / 2 ^ hB s t := Nat.div_le_div_right hle
    have h3 := Nat.mul_le_mul_left (2 ^ hB s t) h2
    have h4 := Nat.div_add_mod (un x) (2 ^ hB s t)
    omega
theorem cut_le : un (cutB s t) ≤ un t := by
  by_cases h : un (outB s t) = 0
  · unfold cutB; rw [if_pos h]; exact Nat.le_refl _
  · rw [cut_div h]
    obtain ⟨h1, h2, h3⟩ := h_bounds h
    obtain ⟨k, hk⟩ : ∃ k, hB s t = k + 1 := ⟨hB s t - 1, by omega⟩
    rw [hk] at h2 h3 ⊢
    have hb : (un (outB s t)).testBit k = true := by
      have : un (outB s t) / 2 ^ k = 1 := by
        have a1 : 1 ≤ un (outB s t) / 2 ^ k := (Nat.one_le_div_iff (Nat.two_pow_pos k)).2 (by simpa using h2)
        have a2 : un (outB s t) / 2 ^ k < 2 := Nat.div_lt_of_lt_mul (by rw [Nat.pow_succ] at h3; omega)
        omega
      rw [Nat.testBit_eq_decide_div_mod_eq, this]; rfl
    rw [out_bit, Nat.testBit_eq_decide_div_mod_eq, Nat.testBit_eq_decide_div_mod_eq] at hb
    have hb1 : un t / 2 ^ k % 2 = 1 := by simp at hb; exact hb.1
    have hb2 : un s / 2 ^ k % 2 = 0 := by simp at hb; omega
    have e1 := Nat.mod_pow_succ (x := un s) (b := 2) (k := k)
    have e2 := Nat.mod_pow_succ (x := un t) (b := 2) (k := k)
    have e3 := Nat.div_add_mod (un t) (2 ^ (k + 1))
    have e4 := Nat.mod_lt (un s) (Nat.two_pow_pos k)
    rw [hb1] at e2
    rw [hb2] at e1
    simp only [Nat.mul_zero, Nat.mul_one, Nat.add_zero] at e1 e2
    omega
theorem nxt_eq (hlt : un (cutB s t) < un s) : un (nxtB s t) = (nxN 64 (un s) (un (cutB s t)) &&& un s) := by
  have hs := un_lt s
  have h1 := (nx_core 64 (un s) (un (cutB s t)) (un s) (un_lt s) cut_sub (Nat.and_self _) hlt).1
  unfold nxtB
  rw [un_and]
  have e : un (cutB s t - s) = nxN 64 (un s) (un (cutB s t)) := by
    have e0 : un (cutB s t - s) = (2 ^ 64 - un s + un (cutB s t)) % 2 ^ 64 := BitVec.toNat_sub _ _
    have e1 : nxN 64 (un s) (un (cutB s t)) = 2 ^ 64 - un s + un (cutB s t) := by unfold nxN; omega
    rw [e0, ← e1, Nat.mod_eq_of_lt h1]
  rw [e]
theorem cut_le_s : un (cutB s t) ≤ un s := sub_le _ _ cut_sub
/-- behind the whole set: none -/
theorem nxt_end (h : un (cutB s t) = un s) : un (nxtB s t) = 0 := by
  have e : cutB s t = s := un_inj h
  unfold nxtB; rw [e]; simp [un]
theorem nxt_facts (hlt : un (cutB s t) < un s) : un (nxtB s t) &&& un s = un (nxtB s t) ∧ un (cutB s t) < un (nxtB s t) ∧ un t < un (nxtB s t) ∧
    (∀ x : B, un x &&& un s = un x → un x ≤ un t ∨ un (nxtB s t) ≤ un x) ∧ rk 64 (un s) (un (nxtB s t)) = rk 64 (un s) (un (cutB s t)) + 1 := by
  have hc := nx_core 64 (un s) (un (cutB s t)) (un s) (un_lt s) cut_sub (Nat.and_self _) hlt
  rw [← nxt_eq hlt] at hc
  obtain ⟨_, h2, h3, h4⟩ := hc
  have hsub : un (nxtB s t) &&& un s = un (nxtB s t) := by unfold nxtB; rw [un_and, Nat.and_assoc, Nat.and_self]
  refine ⟨hsub, h3, ?_, ?_, h4⟩
  · rcases Nat.lt_or_ge (un t) (un (nxtB s t)) with h | h
    · exact h
    · have := cut_max hsub h; omega
  · intro x hx
    rcases Nat.lt_or_ge (un (cutB s t)) (un x) with h | h
    · right
      have := (nx_core 64 (un s) (un (cutB s t)) (un x) (un_lt s) cut_sub hx h).2.1
      rw [← nxt_eq hlt] at this
      exact this
    · left; exact Nat.le_trans h cut_le
end
end Go.Proofs.Ytkadldkbaidnfaa
