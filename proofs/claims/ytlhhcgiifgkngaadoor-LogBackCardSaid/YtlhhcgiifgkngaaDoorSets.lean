/- Sets as rising lists of numbers: the least one, those from a number on, the rank of a number. Conditions: none. -/
import Derived.Test.YtlhhcgiifgkngaaDoorEven
import Derived.Test.YtlhhcgiifgkngaaDoorPop
import Derived.Lib.TrailingZeros
namespace Go.Proofs.YtlhhcgiifgkngaaDoor
def has (s : B) (n : Nat) : Bool := s.getLsbD n
theorem has_lt {s : B} {n : Nat} (h : has s n = true) : n < 64 := BitVec.lt_of_getLsbD h
theorem set_ext {s t : B} (h : ∀ n, n < 64 → has s n = has t n) : s = t := BitVec.eq_of_getLsbD_eq h
theorem has_un (s : B) (n : Nat) : has s n = (un s).testBit n := rfl
/-- the numbers of a set, rising -/
def lst (s : B) : List Nat := (List.range 64).filter (has s)
theorem mem_lst {s : B} {n : Nat} : n ∈ lst s ↔ has s n = true := by
  unfold lst; rw [List.mem_filter, List.mem_range]
  exact ⟨fun h => h.2, fun h => ⟨has_lt h, h⟩⟩
theorem lst_zero : lst 0#64 = [] := by
  unfold lst; rw [List.filter_eq_nil_iff]; intro a _; simp [has]
def low (s : B) : Nat := Lib.ctz 64 (un s)
theorem low_spec {s : B} (h : s ≠ 0#64) : ∃ m, un s = 2 ^ low s * (2 * m + 1) ∧ low s < 64 := by
  have h0 : un s ≠ 0 := fun e => h (un_inj (by rw [e]; rfl))
  obtain ⟨m, hm, hk⟩ := Lib.ctzFrom_spec 64 (un s) (by omega) (un_lt s)
  have e : low s = Lib.ctzFrom 64 (un s) := by simp [low, Lib.ctz, h0]
  rw [e]; exact ⟨m, hm, hk⟩
theorem testBit_odd (k m j : Nat) : (2 ^ k * (2 * m + 1)).testBit j = (decide (j = k) || (2 ^ (k + 1) * m).testBit j) := by
  have e : 2 ^ k * (2 * m + 1) = 2 ^ (k + 1) * m + 2 ^ k := by rw [Nat.pow_succ, Nat.mul_add, Nat.mul_assoc]; omega
  rw [e, Nat.two_pow_add_eq_or_of_lt (Nat.pow_lt_pow_right (by omega) (by omega)), Nat.testBit_or, Nat.testBit_two_pow]
  by_cases h : k = j <;> simp [h, Bool.or_comm, eq_comm]
theorem has_low {s : B} (h : s ≠ 0#64) : has s (low s) = true := by
  obtain ⟨m, hm, _⟩ := low_spec h
  rw [has_un, hm, testBit_odd]; simp
theorem low_least {s : B} (h : s ≠ 0#64) {j : Nat} (hj : j < low s) : has s j = false := by
  obtain ⟨m, hm, _⟩ := low_spec h
  rw [has_un, hm, Nat.testBit_two_pow_mul]
  simp; omega
/-- the set without its least number -/
theorem has_drop {s : B} (h : s ≠ 0#64) (j : Nat) : has (s &&& (s - 1#64)) j = (has s j && decide (j ≠ low s)) := by
  obtain ⟨m, hm, hk⟩ := low_spec h
  have hp : 0 < 2 ^ low s := Nat.two_pow_pos _
  have e1 : (s - 1#64).toNat = un s - 1 := by
    rw [BitVec.toNat_sub_of_le]
    · rfl
    · rw [BitVec.le_def]; show 1 ≤ un s; rw [hm]; exact Nat.mul_pos hp (by omega)
  have e2 : un s - 1 = 2 ^ (low s + 1) * m + (2 ^ low s - 1) := by
    rw [hm, Nat.pow_succ, Nat.mul_add, Nat.mul_assoc]; omega
  show (s &&& (s - 1#64)).getLsbD j = _
  rw [BitVec.getLsbD_and, BitVec.getLsbD.eq_1 (s - 1#64), e1, e2, Nat.two_pow_add_eq_or_of_lt (by rw [Nat.pow_succ]; omega), Nat.testBit_or, Nat.testBit_two_pow_sub_one]
  show (has s j && _) = _
  rw [has_un, hm, testBit_odd]
  by_cases h1 : j = low s
  · subst h1; rw [Nat.testBit_two_pow_mul]; simp; intro hh; omega
  · rcases Nat.lt_or_ge j (low s) with h2 | h2
    · rw [Nat.testBit_two_pow_mul]; simp [h1]; omega
    · have h3 : ¬ j < low s := by omega
      simp [h1, h3]
theorem lst_step {s : B} (h : s ≠ 0#64) : lst s = low s :: lst (s &&& (s - 1#64)) := by
  have hl := has_lt (has_low h)
  have e : List.range 64 = List.range (low s) ++ low s :: (List.range (63 - low s)).map (· + (low s + 1)) := by
    have : 64 = low s + (1 + (63 - low s)) := by omega
    rw [this, List.range_add, List.range_add]
    simp [List.range_succ, Function.comp_def]
    omega
  unfold lst
  rw [e, List.filter_append, List.filter_append]
  have e1 : (List.range (low s)).filter (has s) = [] := by
    rw [List.filter_eq_nil_iff]; intro a ha; rw [low_least h (by simpa using ha)]; simp
  have e2 : (List.range (low s)).filter (has (s &&& (s - 1#64))) = [] := by
    rw [List.filter_eq_nil_iff]; intro a ha; rw [has_drop h, low_least h (by simpa using ha)]; simp
  rw [e1, e2, List.filter_cons_of_pos (has_low h), List.filter_cons_of_neg (by rw [has_drop h]; simp)]
  simp only [List.nil_append]
  congr 1
  apply List.filter_congr
  intro x hx
  rw [has_drop h]
  simp at hx
  obtain ⟨a, _, rfl⟩ := hx
  have : a + (low s + 1) ≠ low s := by omega
  simp [this]

theorem pop_range (n x : Nat) : pop n x = ((List.range n).filter x.testBit).length := by
  induction n generalizing x with
  | zero => rfl
  | succ n ih =>
    rw [pop_succ, List.range_succ_eq_map, List.filter_cons, ih (x / 2), List.filter_map]
    have e : (x.testBit ∘ Nat.succ) = (x / 2).testBit := by
      funext i; simp [Nat.testBit_succ]
    rw [e]
    have h0 : x.testBit 0 = decide (x % 2 = 1) := Nat.testBit_zero x
    rcases Nat.mod_two_eq_zero_or_one x with h | h <;> simp [h0, h]; omega
theorem cnt_lst (s : B) : cnt s = (lst s).length := by
  rw [cnt_eq, pop_range]; rfl
theorem lst_sorted (s : B) : (lst s).Pairwise (· < ·) := List.Pairwise.filter _ List.pairwise_lt_range
theorem lst_lt {s : B} {n : Nat} (h : n ∈ lst s) : n < 64 := has_lt (mem_lst.1 h)
theorem lst_len (s : B) : (lst s).length ≤ 64 := by rw [← cnt_lst]; exact cnt_le s
theorem has_below (m n : Nat) (hn : n < 64) : has (belowB m) n = decide (n < m) := by
  unfold has belowB
  rcases Nat.lt_or_ge m 64 with h | h
  · have hp : 2 ^ m < 2 ^ 64 := Nat.pow_lt_pow_right (by omega) h
    have hq : 0 < 2 ^ m := Nat.two_pow_pos m
    have e : ((1#64 <<< m) - 1#64).toNat = 2 ^ m - 1 := by
      rw [BitVec.toNat_sub_of_le]
      · rw [BitVec.toNat_shiftLeft, Nat.shiftLeft_eq, Nat.mod_eq_of_lt (by simpa using hp)]; simp
      · rw [BitVec.le_def, BitVec.toNat_shiftLeft, Nat.shiftLeft_eq, Nat.mod_eq_of_lt (by simpa using hp)]; simp; omega
    rw [← BitVec.testBit_toNat, e, Nat.testBit_two_pow_sub_one]
  · have e : 1#64 <<< m = 0#64 := by
      apply BitVec.eq_of_getLsbD_eq; intro i hi; simp; omega
    have e2 : (0#64 - 1#64 : B) = BitVec.allOnes 64 := by decide
    rw [e, e2, BitVec.getLsbD_allOnes]
    have : n < m := by omega
    simp [this, hn]
/-- those from m on -/
def frm (s : B) (m : Nat) : B := s &&& ~~~belowB m
theorem has_and (s t : B) (n : Nat) : has (s &&& t) n = (has s n && has t n) := BitVec.getLsbD_and
theorem has_or (s t : B) (n : Nat) : has (s ||| t) n = (has s n || has t n) := BitVec.getLsbD_or
theorem has_not (s : B) (n : Nat) (hn : n < 64) : has (~~~s) n = !has s n := by unfold has; rw [BitVec.getLsbD_not]; simp [hn]
theorem has_ge {s : B} {n : Nat} (h : 64 ≤ n) : has s n = false := BitVec.getLsbD_of_ge _ _ h
theorem has_frm (s : B) (m n : Nat) : has (frm s m) n = (has s n && decide (m ≤ n)) := by
  unfold frm
  rw [has_and]
  rcases Nat.lt_or_ge n 64 with h | h
  · rw [has_not _ _ h, has_below m n h]
    by_cases h2 : n < m
    · have : ¬ m ≤ n := by omega
      simp [h2, this]
    · have : m ≤ n := by omega
      simp [h2, this]
  · rw [has_ge h]; simp
theorem has_zero (n : Nat) : has 0#64 n = false := by simp [has]
theorem eq_zero_iff {s : B} : s = 0#64 ↔ ∀ n, has s n = false :=
  ⟨fun h n => by rw [h, has_zero], fun h => set_ext fun n _ => by rw [h, has_zero]⟩
theorem exists_of_ne {s : B} (h : s ≠ 0#64) : ∃ n, has s n = true := ⟨low s, has_low h⟩
/-- the number of those below m -/
def rnk (s : B) (m : Nat) : Nat := cnt (s &&& belowB m)
theorem lst_and_below (s : B) (m : Nat) : lst (s &&& belowB m) = (lst s).filter (fun n => decide (n < m)) := by
  unfold lst
  rw [List.filter_filter]
  apply List.filter_congr
  intro x hx
  rw [has_and, has_below m x (by simpa using hx), Bool.and_comm]
theorem rnk_eq (s : B) (m : Nat) : rnk s m = ((lst s).filter (fun n => decide (n < m))).length := by
  unfold rnk; rw [cnt_lst, lst_and_below]
theorem sorted_filter (l : List Nat) (h : l.Pairwise (· < ·)) (k : Nat) (hk : k < l.length) : (l.filter (fun n => decide (n < l[k]))).length = k := by
  induction l generalizing k with
  | nil => simp at hk
  | cons a l ih =>
    rw [List.pairwise_cons] at h
    cases k with
    | zero =>
      simp only [List.getElem_cons_zero]
      have e : List.filter (fun n => decide (n < a)) (a :: l) = [] := by
        rw [List.filter_eq_nil_iff]
        intro x hx
        rcases List.mem_cons.1 hx with rfl | hx
        · simp
        · have := h.1 x hx; simp; omega
      rw [e]; rfl
    | succ k =>
      simp only [List.getElem_cons_succ]
      have hk' : k < l.length := by simpa using hk
      have ha : a < l[k] := h.1 _ (List.getElem_mem hk')
      rw [List.filter_cons_of_pos (by simpa using ha)]
      simp [ih h.2 k hk']
theorem rnk_nth (s : B) (k : Nat) (hk : k < (lst s).length) : rnk s (lst s)[k] = k := by
  rw [rnk_eq]; exact sorted_filter _ (lst_sorted s) k hk
theorem rnk_le (s : B) (m : Nat) : rnk s m ≤ cnt s := by rw [rnk_eq, cnt_lst]; exact List.length_filter_le _ _
theorem rnk_lt_iff (s : B) (m : Nat) : rnk s m < cnt s ↔ frm s m ≠ 0#64 := by
  rw [rnk_eq, cnt_lst]
  constructor
  · intro h h0
    have : (lst s).filter (fun n => decide (n < m)) = lst s := by
      rw [List.filter_eq_self]
      intro a ha
      have h1 := eq_zero_iff.1 h0 a
      rw [has_frm, mem_lst.1 ha] at h1
      simp at h1
      simpa using h1
    rw [this] at h; omega
  · intro h
    obtain ⟨n, hn⟩ := exists_of_ne h
    rw [has_frm] at hn
    simp at hn
    rcases Nat.lt_or_ge ((lst s).filter (fun n => decide (n < m))).length (lst s).length with h1 | h1
    · exact h1
    · have h2 : (lst s).filter (fun n => decide (n < m)) = lst s := List.filter_eq_self.2 (by
        have := List.length_filter_eq_length_iff (p := fun n => decide (n < m)) (l := lst s)
        exact this.1 (Nat.le_antisymm (List.length_filter_le _ _) h1))
      have h3 := List.filter_eq_self.1 h2 n (mem_lst.2 hn.1)
      simp at h3; omega
/-- the least from m on: it is there, and none lies between -/
theorem low_frm {s : B} {m : Nat} (h : frm s m ≠ 0#64) : has s (low (frm s m)) = true ∧ m ≤ low (frm s m) ∧ (∀ j, m ≤ j → j < low (frm s m) → has s j = false) ∧ low (frm s m) < 64 := by
  have h1 := has_low h
  rw [has_frm] at h1
  simp at h1
  refine ⟨h1.1, h1.2, fun j hj hlt => ?_, has_lt h1.1⟩
  have := low_least h hlt
  rw [has_frm] at this
  simpa [hj] using this
theorem low_frm_self {s : B} {n : Nat} (h : has s n = true) : frm s n ≠ 0#64 ∧ low (frm s n) = n := by
  have h0 : frm s n ≠ 0#64 := by
    intro h0
    have := eq_zero_iff.1 h0 n
    rw [has_frm, h] at this; simp at this
  obtain ⟨h1, h2, h3, _⟩ := low_frm h0
  refine ⟨h0, ?_⟩
  rcases Nat.lt_or_ge n (low (frm s n)) with h4 | h4
  · have := h3 n (Nat.le_refl _) h4; rw [h] at this; cases this
  · omega
theorem rnk_low {s : B} {m : Nat} (h : frm s m ≠ 0#64) : rnk s (low (frm s m)) = rnk s m := by
  obtain ⟨h1, h2, h3, _⟩ := low_frm h
  rw [rnk_eq, rnk_eq]
  congr 1
  apply List.filter_congr
  intro x hx
  have hx' := mem_lst.1 hx
  by_cases hm : x < m
  · have : x < low (frm s m) := by omega
    simp [hm, this]
  · have : ¬ x < low (frm s m) := fun hc => by have := h3 x (by omega) hc; rw [hx'] at this; cases this
    simp [hm, this]
end Go.Proofs.YtlhhcgiifgkngaaDoor
