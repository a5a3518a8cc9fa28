/- The whole part of a time, plainly: it is exact, and less than 1 away. Conditions: none. -/
import Derived.Test.YtlhomgbibhacoaaDoorSpan
namespace Go.Proofs.YtlhomgbibhacoaaDoor
def C53 : Nat := 4845873199050653696
def C1 : Nat := 4607182418800017408
/-- 1 in the least units -/
def E74 : Nat := 1074
theorem e74 : E74 = 1074 := rfl
attribute [irreducible] E74
def ONE : Nat := 2 ^ E74
theorem one_pos : 0 < ONE := Nat.two_pow_pos _
theorem uni_C1 : uni C1 = ONE := by decide +kernel
theorem uni_C53 : uni C53 = 2 ^ 53 * ONE := by decide +kernel
theorem one_split {k : Nat} (h : k ≤ E74) : ONE = 2 ^ (E74 - k) * 2 ^ k := by
  rw [← Nat.pow_add, Nat.sub_add_cancel h]; rfl
theorem one_under {k : Nat} (h : E74 ≤ k) : 2 ^ k = 2 ^ (k - E74) * ONE := by
  have e : 2 ^ k = 2 ^ (k - E74 + E74) := by rw [Nat.sub_add_cancel h]
  rw [e, Nat.pow_add]; rfl
theorem bin_lt {q0 q t : Nat} (h1 : 1 ≤ q0) (h : q0 < q ∨ (q0 = q ∧ 0 < t)) : (BN + 0) * 2 ^ (q0 - 1) < (BN + t) * 2 ^ (q - 1) := by
  rcases h with h | ⟨h, h2⟩
  · have g1 : 2 ^ q0 ≤ 2 ^ (q - 1) := Nat.pow_le_pow_right (by omega) (by omega)
    have g2 : (BN + 0) * 2 ^ (q0 - 1) < (BN + 0) * 2 ^ q0 := (Nat.mul_lt_mul_left (by decide)).2 (Nat.pow_lt_pow_right (by omega) (by omega))
    have g3 : (BN + 0) * 2 ^ q0 ≤ (BN + t) * 2 ^ (q - 1) := Nat.mul_le_mul (by omega) g1
    omega
  · rw [h]
    exact (Nat.mul_lt_mul_right (Nat.two_pow_pos _)).2 (by omega)
attribute [irreducible] ONE
theorem read_fin2 {x : Nat} (hx : x < 18446744073709551616) (h : rung x < INF) : ∃ m k : Nat, Ieee.double.read x = .number (sgn x) m (-1074 + (k : Int)) ∧ m * 2 ^ k = uni (rung x) ∧ m < 2 ^ 53 := by
  unfold Ieee.Format.read
  dsimp only
  rw [binade_dbl, inf_dbl, sg_dbl, least_dbl, sgn_read hx]
  unfold rung at h ⊢
  unfold uni
  have hB : 2 * BN = 2 ^ 53 := by decide
  have hm : x % SG % BN < BN := Nat.mod_lt _ (by decide)
  by_cases h1 : x % SG < BN
  · rw [if_pos h1, if_pos h1]
    exact ⟨_, 0, rfl, by simp, by omega⟩
  · rw [if_neg h1, if_neg h1, if_pos h]
    exact ⟨_, _, rfl, rfl, by omega⟩
theorem rnd_zero : rnd 0 = 0 := by have := rnd_uni (r := 0) (Nat.zero_le _); rwa [uni_zero] at this
/-- what has at most 53 digits is exact -/
theorem uni_rnd {m k : Nat} (hm : m < 2 ^ 53) (hle : m * 2 ^ k ≤ uni INF) : uni (rnd (m * 2 ^ k)) = m * 2 ^ k := by
  have key : ∃ r, r ≤ INF ∧ uni r = m * 2 ^ k := by
    have hB : 2 * BN = 2 ^ 53 := by decide
    by_cases h0 : m = 0
    · subst h0; exact ⟨0, Nat.zero_le _, by rw [uni_zero, Nat.zero_mul]⟩
    -- shift m up as far as it goes
    have hl := Nat.log2_self_le h0
    have hl2 := lt_log2 m
    have hlm : m.log2 ≤ 52 := by
      have := (Nat.log2_lt h0 (k := 53)).2 hm; omega
    have top : ∀ r, uni r = m * 2 ^ k → r ≤ INF := fun r hr => by
      rcases Nat.lt_or_ge INF r with h | h
      · have h1 : uni INF < uni r := by
          have hI : ¬ INF < BN := by decide
          have hr1 : ¬ r < BN := by omega
          unfold uni
          rw [if_neg hI, if_neg hr1]
          have e1 : INF % BN = 0 := by decide
          have e2 : INF / BN = 2047 := by decide
          rw [e1]
          have hd := Nat.div_add_mod r BN
          have hq : 2047 ≤ r / BN := by
            rw [← e2]; exact Nat.div_le_div_right (by omega)
          refine bin_lt (by rw [e2]; omega) ?_
          rw [e2]
          rcases Nat.lt_or_ge 2047 (r / BN) with h2 | h2
          · exact .inl h2
          · have e3 : r / BN = 2047 := by omega
            have e4 : INF = BN * 2047 := by decide
            rw [e3] at hd
            exact .inr ⟨e3.symm, by omega⟩
        omega
      · exact h
    by_cases hs : m.log2 + k < 52
    · have hlt : m * 2 ^ k < BN := by
        have : m * 2 ^ k < 2 ^ (m.log2 + 1) * 2 ^ k := (Nat.mul_lt_mul_right (Nat.two_pow_pos _)).2 hl2
        rw [← Nat.pow_add] at this
        have h2 : 2 ^ (m.log2 + 1 + k) ≤ 2 ^ 52 := Nat.pow_le_pow_right (by omega) (by omega)
        rw [bn_eq]; omega
      have e : uni (m * 2 ^ k) = m * 2 ^ k := by unfold uni; rw [if_pos hlt]
      exact ⟨_, top _ e, e⟩
    · -- the significand
      obtain ⟨a, ha⟩ : ∃ a, m.log2 + a = 52 := ⟨52 - m.log2, by omega⟩
      have h1 : BN ≤ m * 2 ^ a := by
        have : 2 ^ m.log2 * 2 ^ a ≤ m * 2 ^ a := Nat.mul_le_mul_right _ hl
        rw [← Nat.pow_add, ha, ← bn_eq] at this; exact this
      have h2 : m * 2 ^ a < 2 * BN := by
        have : m * 2 ^ a < 2 ^ (m.log2 + 1) * 2 ^ a := (Nat.mul_lt_mul_right (Nat.two_pow_pos _)).2 hl2
        rw [← Nat.pow_add, show m.log2 + 1 + a = 53 from by omega] at this
        omega
      obtain ⟨t, ht⟩ : ∃ t, m * 2 ^ a = BN + t := ⟨m * 2 ^ a - BN, by omega⟩
      obtain ⟨e, he⟩ : ∃ e, k = a + e := ⟨k - a, by omega⟩
      have hu : uni ((e + 1) * BN + t) = m * 2 ^ k := by
        have h3 : ¬ (e + 1) * BN + t < BN := by
          have : BN ≤ (e + 1) * BN := by rw [Nat.add_mul]; omega
          omega
        have h4 : ((e + 1) * BN + t) % BN = t := by
          rw [Nat.add_comm, Nat.add_mul_mod_self_right, Nat.mod_eq_of_lt (by omega)]
        have h5 : ((e + 1) * BN + t) / BN = e + 1 := by
          rw [Nat.add_comm, Nat.add_mul_div_right _ _ (by decide), Nat.div_eq_of_lt (by omega)]; omega
        unfold uni
        rw [if_neg h3, h4, h5, ← ht, he, Nat.pow_add, ← Nat.mul_assoc]
        rfl
      exact ⟨_, top _ hu, hu⟩
  obtain ⟨r, hr, hu⟩ := key
  rw [← hu, rnd_uni hr]
theorem word_parts (s : Bool) {r : Nat} (h : r ≤ INF) : rung (Ieee.double.word s r) = r ∧ sgn (Ieee.double.word s r) = s ∧ Ieee.double.word s r < 18446744073709551616 := by
  have hI : INF < SG := by decide
  have hS : SG + SG = 18446744073709551616 := by decide
  unfold Ieee.Format.word
  rw [sg_dbl]
  cases s
  · simp only [Bool.false_eq_true, if_false]
    refine ⟨Nat.mod_eq_of_lt (by omega), ?_, by omega⟩
    unfold sgn; simp; omega
  · simp only [if_true]
    refine ⟨?_, ?_, by omega⟩
    · unfold rung; rw [Nat.add_mod_left, Nat.mod_eq_of_lt (by omega)]
    · unfold sgn; simp
theorem rung_le {r s : Nat} (hr : r ≤ INF) (h : uni r ≤ uni s) : r ≤ s := by
  rcases Nat.lt_or_ge s r with h1 | h1
  · have := uni_lt hr h1; omega
  · exact h1
/-- the whole part -/
def whole (x : Nat) : Nat := uni (rung x) / ONE
def wholeI (x : Nat) : Int := if sgn x then -(whole x : Int) else (whole x : Int)
theorem whole_le {x : Nat} (h : rung x ≤ C53) : whole x ≤ 2 ^ 53 := by
  have h1 : uni (rung x) ≤ uni C53 := uni_le (by decide) h
  unfold whole
  rw [uni_C53] at h1
  exact (Nat.div_le_iff_le_mul_add_pred one_pos).2 (by rw [Nat.mul_comm]; omega)
theorem whole_natAbs (x : Nat) : (wholeI x).natAbs = whole x := by unfold wholeI; split <;> omega
theorem cut_zero (neg : Bool) (n d : Nat) : Ieee.Toward.zero.cut neg n d = n / 2 ^ d := by
  unfold Ieee.Toward.cut
  simp only [Bool.toNat_false, Nat.add_zero, Nat.one_shiftLeft]
  rcases Nat.le_total d (n.log2 + 2) with h | h
  · rw [Nat.min_eq_left h]
  · rw [Nat.min_eq_right h]
    have h1 : n < 2 ^ (n.log2 + 2) := Nat.lt_of_lt_of_le (lt_log2 n) (Nat.pow_le_pow_right (by omega) (by omega))
    have h2 : n < 2 ^ d := Nat.lt_of_lt_of_le h1 (Nat.pow_le_pow_right (by omega) h)
    rw [Nat.div_eq_of_lt h1, Nat.div_eq_of_lt h2]
theorem toInt_num (s : Bool) (m : Nat) (i : Int) : (Ieee.Datum.number s m i).toInt .zero = some (Ieee.signed s (Ieee.Toward.zero.cut s (m <<< i.toNat) (-i).toNat) 0) := rfl
theorem whole_int {x : Nat} (hx : x < 18446744073709551616) (h : rung x ≤ C53) : Go.floatToIntVal .f64 x .i64 = some (wholeI x) := by
  have hC : C53 < INF := by decide
  obtain ⟨m, k, e1, e2⟩ := read_fin hx (show rung x < INF by omega)
  have hd : FloatKind.decode .f64 x = .number (sgn x) m (-1074 + (k : Int)) := e1
  have hw := whole_le h
  have ht : (Ieee.Datum.number (sgn x) m (-1074 + (k : Int))).toInt .zero = some (wholeI x) := by
    rw [toInt_num, cut_zero]
    have hq : m <<< (-1074 + (k : Int)).toNat / 2 ^ (-(-1074 + (k : Int))).toNat = whole x := by
      unfold whole
      rw [← e2, Nat.shiftLeft_eq]
      have hE := e74
      rcases Nat.le_total k E74 with h1 | h1
      · have a1 : (-1074 + (k : Int)).toNat = 0 := by omega
        have a2 : (-(-1074 + (k : Int))).toNat = E74 - k := by omega
        rw [a1, a2]
        rw [one_split h1, Nat.mul_div_mul_right _ _ (Nat.two_pow_pos k), Nat.pow_zero, Nat.mul_one]
      · have a1 : (-1074 + (k : Int)).toNat = k - E74 := by omega
        have a2 : (-(-1074 + (k : Int))).toNat = 0 := by omega
        rw [a1, a2, Nat.pow_zero, Nat.div_one]
        rw [one_under h1, ← Nat.mul_assoc, Nat.mul_div_cancel _ one_pos]
    rw [hq]
    unfold Ieee.signed wholeI
    rw [Nat.shiftLeft_zero]
  unfold Go.floatToIntVal
  rw [hd, ht]
  have hb : IntKind.i64.min ≤ wholeI x ∧ wholeI x ≤ IntKind.i64.max := by
    have g1 : IntKind.i64.min = -9223372036854775808 := by decide
    have g2 : IntKind.i64.max = 9223372036854775807 := by decide
    rw [g1, g2]
    have : (2 : Nat) ^ 53 = 9007199254740992 := by decide
    unfold wholeI
    split <;> omega
  simp only [if_pos hb]
theorem fl_nearest (n : Int) : Go.floatOfInt .f64 n = Ieee.double.nearest (decide (n < 0)) n.natAbs 0 := rfl
theorem back_word (x : Nat) : Go.floatOfInt .f64 (wholeI x) = Ieee.double.word (decide (wholeI x < 0)) (rnd (whole x * ONE)) := by
  have h := nearest_rnd (decide (wholeI x < 0)) (wholeI x).natAbs E74
  have e : (-1074 : Int) + (E74 : Int) = 0 := by have := e74; omega
  rw [e, whole_natAbs] at h
  rw [fl_nearest, whole_natAbs, h]
  unfold ONE; rfl
theorem whole_rnd {x : Nat} (h : rung x ≤ C53) : uni (rnd (whole x * ONE)) = whole x * ONE := by
  have hw := whole_le h
  have hI : 2 ^ 53 * ONE ≤ uni INF := by rw [← uni_C53]; exact uni_le (Nat.le_refl _) (by decide)
  rcases Nat.lt_or_ge (whole x) (2 ^ 53) with h1 | h1
  · have e : ONE = 2 ^ E74 := by unfold ONE; rfl
    have hle : whole x * ONE ≤ uni INF := Nat.le_trans (Nat.mul_le_mul_right _ hw) hI
    rw [e] at hle ⊢
    exact uni_rnd h1 hle
  · have e : whole x = 2 ^ 53 := by omega
    rw [e, ← uni_C53, rnd_uni (by decide)]
theorem opp_num (s : Bool) (m : Nat) (i : Int) : (Ieee.Datum.number s m i).opposite = .number (!s) m i := rfl
theorem signed_not (s : Bool) (m a : Nat) : Ieee.signed (!s) m a = -Ieee.signed s m a := by unfold Ieee.signed; cases s <;> simp
theorem whole_val {x y : Nat} (y2 : sgn y = decide (wholeI x < 0)) (h4 : uni (rung y) = whole x * ONE) : (val x - val y).natAbs = uni (rung x) % ONE := by
  have h3 := Nat.div_add_mod (uni (rung x)) ONE
  have h5 : uni (rung x) / ONE = whole x := by unfold whole; rfl
  rw [h5, Nat.mul_comm] at h3
  have hw0 : whole x = 0 → whole x * ONE = 0 := fun h => by rw [h, Nat.zero_mul]
  unfold val
  rw [y2, h4]
  unfold wholeI
  generalize uni (rung x) % ONE = u at *
  generalize whole x * ONE = v at *
  generalize uni (rung x) = z at *
  cases sgn x
  · have : decide ((if false = true then -(whole x : Int) else (whole x : Int)) < 0) = false := by simp
    rw [this]
    simp only [Bool.false_eq_true, if_false]
    omega
  · simp only [if_true]
    by_cases hq : whole x = 0
    · have := hw0 hq
      rw [hq]; simp; omega
    · have : decide (-(whole x : Int) < 0) = true := by simp; omega
      rw [this]
      simp only [if_true]
      omega
theorem rest_exact {m k : Nat} (e3 : m < 2 ^ 53) (hle : m * 2 ^ k ≤ uni INF) : uni (rnd (m * 2 ^ k % ONE)) = m * 2 ^ k % ONE := by
  have hle2 : m * 2 ^ k % ONE ≤ uni INF := Nat.le_trans (Nat.mod_le _ _) hle
  rcases Nat.le_total k E74 with h1 | h1
  · have : m * 2 ^ k % ONE = m % 2 ^ (E74 - k) * 2 ^ k := by rw [one_split h1, Nat.mul_mod_mul_right]
    rw [this] at hle2 ⊢
    exact uni_rnd (Nat.lt_of_le_of_lt (Nat.mod_le _ _) e3) hle2
  · have : m * 2 ^ k % ONE = 0 := by rw [one_under h1, ← Nat.mul_assoc, Nat.mul_mod_left]
    rw [this, rnd_zero, uni_zero]
theorem sub_num {s t : Bool} {x y m n k j : Nat} (hs : s = sgn x) (ht : t = sgn y) (e1 : Ieee.double.read x = .number s m (-1074 + (k : Int))) (e2 : m * 2 ^ k = uni (rung x)) (e4 : Ieee.double.read y = .number t n (-1074 + (j : Int))) (e5 : n * 2 ^ j = uni (rung y)) :
    ∃ neg, Ieee.double.sub x y = some (Ieee.double.word neg (rnd (val x - val y).natAbs)) := by
  unfold Ieee.Format.sub
  rw [e1, e4, opp_num, sum_num, map_write_num]
  obtain ⟨b, hb⟩ : ∃ b : Nat, min k j = b := ⟨_, rfl⟩
  have hmin : min (-1074 + (k : Int)) (-1074 + (j : Int)) = -1074 + (b : Int) := by omega
  have a1 : ((-1074 + (k : Int)) - (-1074 + (b : Int))).toNat = k - b := by omega
  have a2 : ((-1074 + (j : Int)) - (-1074 + (b : Int))).toNat = j - b := by omega
  rw [hmin, a1, a2, nearest_rnd, signed_not]
  have s1 := val_read hs e2 (k - b) b (by omega)
  have s2 := val_read ht e5 (j - b) b (by omega)
  generalize Ieee.signed s m (k - b) = P at *
  generalize Ieee.signed t n (j - b) = Q at *
  have h1 : (P + -Q) * (2 ^ b : Nat) = val x - val y := by rw [Int.add_mul, Int.neg_mul, s1, s2]; omega
  have h2 : ((P + -Q) * (2 ^ b : Nat)).natAbs = (P + -Q).natAbs * 2 ^ b := by rw [Int.natAbs_mul, Int.natAbs_natCast]
  rw [← h2, h1]
  exact ⟨_, rfl⟩
/-- what is left of a time without its whole part -/
theorem whole_rest {x : Nat} (hx : x < 18446744073709551616) (h : rung x ≤ C53) :
    ∃ d, Ieee.double.sub x (Go.floatOfInt .f64 (wholeI x)) = some d ∧ d < 18446744073709551616 ∧ rung d < C1 := by
  have hC : C53 < INF := by decide
  have hx2 : rung x < INF := by omega
  have hwr := whole_rnd h
  obtain ⟨y1, y2, y3⟩ := word_parts (decide (wholeI x < 0)) (rnd_le (whole x * ONE))
  rw [← back_word] at y1 y2 y3
  generalize Go.floatOfInt .f64 (wholeI x) = y at *
  rw [← y1] at hwr
  have hy2 : rung y < INF := by
    have h2 : uni (rung y) ≤ uni C53 := by
      rw [hwr, uni_C53]; exact Nat.mul_le_mul_right _ (whole_le h)
    have := rung_le (by rw [y1]; exact rnd_le _) h2
    omega
  obtain ⟨m, k, e1, e2, e3⟩ := read_fin2 hx hx2
  obtain ⟨n, j, e4, e5⟩ := read_fin y3 hy2
  obtain ⟨neg, hs⟩ := sub_num rfl rfl e1 e2 e4 e5
  rw [whole_val y2 hwr] at hs
  have hlt : uni (rung x) % ONE < ONE := Nat.mod_lt _ one_pos
  have hex := rest_exact e3 (k := k) (by rw [e2]; exact uni_le (Nat.le_refl _) (by omega))
  rw [e2] at hex
  obtain ⟨d1, _, d3⟩ := word_parts neg (rnd_le (uni (rung x) % ONE))
  refine ⟨_, hs, d3, ?_⟩
  rw [d1]
  rcases Nat.lt_or_ge (rnd (uni (rung x) % ONE)) C1 with g | g
  · exact g
  · have := uni_le (rnd_le _) g
    rw [hex, uni_C1] at this; omega
theorem whole_back {x : Nat} (h : rung x ≤ C53) : Go.floatOfInt .f64 (wholeI x) < 18446744073709551616 ∧ rung (Go.floatOfInt .f64 (wholeI x)) ≤ rung x := by
  obtain ⟨y1, y2, y3⟩ := word_parts (decide (wholeI x < 0)) (rnd_le (whole x * ONE))
  rw [back_word]
  refine ⟨y3, ?_⟩
  rw [y1]
  refine rung_le (rnd_le _) ?_
  rw [whole_rnd h]
  exact Nat.div_mul_le_self _ _
theorem order_pos {a b : Nat} (ha : a ≤ INF) (hb : b ≤ INF) : Ieee.double.order a b = some (compare a b) := by
  have hI : INF < SG := by decide
  have hS : SG < 18446744073709551616 := by decide
  have ra : rung a = a := Nat.mod_eq_of_lt (by omega)
  have rb : rung b = b := Nat.mod_eq_of_lt (by omega)
  have na : isN a = false := by unfold isN; rw [ra]; simpa using ha
  have nb : isN b = false := by unfold isN; rw [rb]; simpa using hb
  have sa : sgn a = false := by unfold sgn; simp; omega
  have sb : sgn b = false := by unfold sgn; simp; omega
  rw [order_val (by omega) (by omega) na nb]
  unfold val
  rw [ra, rb, sa, sb]
  simp only [Bool.false_eq_true, if_false]
  congr 1
  rcases Nat.lt_trichotomy a b with h | h | h
  · have := uni_lt hb h
    rw [Nat.compare_eq_lt.2 h, Int.compare_eq_lt.2 (by omega)]
  · subst h; rw [Nat.compare_eq_eq.2 rfl, Int.compare_eq_eq.2 rfl]
  · have := uni_lt ha h
    rw [Nat.compare_eq_gt.2 h, Int.compare_eq_gt.2 (by omega)]
end Go.Proofs.YtlhomgbibhacoaaDoor
