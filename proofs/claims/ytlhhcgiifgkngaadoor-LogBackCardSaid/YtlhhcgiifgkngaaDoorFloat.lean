/- Floating point times, plainly: the magnitudes of a word in the least units, rounding to the nearest word, its order, sums of words that have no sign. Conditions: none. -/
import Derived.Laws.FloatArith
namespace Go.Proofs.YtlhhcgiifgkngaaDoor
open Ieee
def BN : Nat := 4503599627370496
def SG : Nat := 9223372036854775808
def INF : Nat := 9218868437227405312
theorem bn_eq : BN = 2 ^ 52 := by decide
theorem binade_dbl : Ieee.double.binade = BN := by decide
theorem inf_dbl : Ieee.double.infRung = INF := by decide
theorem sg_dbl : Ieee.double.signWeight = SG := by decide
theorem least_dbl : Ieee.double.leastPlace = -1074 := by decide
theorem frac_dbl : Ieee.double.fractionBits = 52 := by decide
/-- a magnitude in the least units -/
def uni (r : Nat) : Nat := if r < BN then r else (BN + r % BN) * 2 ^ (r / BN - 1)
/-- n over 2^d, to the nearest, between two to the even one -/
def re (n d : Nat) : Nat := n / 2 ^ d + (if 2 ^ d < 2 * (n % 2 ^ d) ∨ (2 ^ d = 2 * (n % 2 ^ d) ∧ n / 2 ^ d % 2 = 1) then 1 else 0)
theorem re_mono {n m d : Nat} (h : n ≤ m) : re n d ≤ re m d := by
  unfold re
  have hg : 0 < 2 ^ d := Nat.two_pow_pos d
  generalize 2 ^ d = g at hg ⊢
  have hq : n / g ≤ m / g := Nat.div_le_div_right h
  rcases Nat.lt_or_ge (n / g) (m / g) with h1 | h1
  · split <;> split <;> omega
  · have e : n / g = m / g := by omega
    have hn := Nat.div_add_mod n g
    have hm := Nat.div_add_mod m g
    rw [e] at hn ⊢
    have hr : n % g ≤ m % g := by omega
    by_cases c1 : g < 2 * (n % g) ∨ (g = 2 * (n % g) ∧ m / g % 2 = 1)
    · have c2 : g < 2 * (m % g) ∨ (g = 2 * (m % g) ∧ m / g % 2 = 1) := by omega
      rw [if_pos c1, if_pos c2]; omega
    · rw [if_neg c1]; omega
theorem re_zero (n : Nat) : re n 0 = n := by
  unfold re; simp [Nat.mod_one]
theorem re_mul (n k d : Nat) : re (n * 2 ^ k) (d + k) = re n d := by
  unfold re
  have hk : 0 < 2 ^ k := Nat.two_pow_pos k
  have e1 : n * 2 ^ k / 2 ^ (d + k) = n / 2 ^ d := by
    rw [Nat.pow_add, Nat.mul_comm n, Nat.mul_comm (2 ^ d), Nat.mul_div_mul_left _ _ hk]
  have e2 : n * 2 ^ k % 2 ^ (d + k) = n % 2 ^ d * 2 ^ k := by
    rw [Nat.pow_add, Nat.mul_mod_mul_right]
  rw [e1, e2, Nat.pow_add]
  have h1 : (2 ^ d * 2 ^ k < 2 * (n % 2 ^ d * 2 ^ k)) ↔ (2 ^ d < 2 * (n % 2 ^ d)) := by
    rw [← Nat.mul_assoc]; exact Nat.mul_lt_mul_right hk
  have h2 : (2 ^ d * 2 ^ k = 2 * (n % 2 ^ d * 2 ^ k)) ↔ (2 ^ d = 2 * (n % 2 ^ d)) := by
    rw [← Nat.mul_assoc]; exact Nat.mul_left_inj (by omega)
  simp only [h1, h2]
theorem re_exact (n d : Nat) : re (n * 2 ^ d) d = n := by
  have := re_mul n d 0
  rw [Nat.zero_add, re_zero] at this; exact this
theorem re_le {n d m : Nat} (h : n ≤ m * 2 ^ d) : re n d ≤ m := by
  have := re_mono (d := d) h; rw [re_exact] at this; exact this
theorem re_ge {n d m : Nat} (h : m * 2 ^ d ≤ n) : m ≤ re n d := by
  have := re_mono (d := d) h; rw [re_exact] at this; exact this
/-- the rung nearest to n units -/
def rnd (n : Nat) : Nat := min ((n.log2 - 52) * BN + re n (n.log2 - 52)) INF
theorem lt_log2 (n : Nat) : n < 2 ^ (n.log2 + 1) := Nat.lt_log2_self
theorem raw_mono {n m : Nat} (h : n ≤ m) : (n.log2 - 52) * BN + re n (n.log2 - 52) ≤ (m.log2 - 52) * BN + re m (m.log2 - 52) := by
  have hl : n.log2 ≤ m.log2 := by
    by_cases hn : n = 0
    · subst hn; simp
    · by_cases hm : m = 0
      · omega
      · rw [Nat.le_log2 hm]; exact Nat.le_trans (Nat.log2_self_le hn) h
  rcases Nat.lt_or_ge (n.log2 - 52) (m.log2 - 52) with h1 | h1
  · have hm : m ≠ 0 := by rintro rfl; simp at h1
    have a : re n (n.log2 - 52) ≤ 2 * BN := by
      refine re_le ?_
      have h2 := lt_log2 n
      have h3 : 2 ^ (n.log2 + 1) ≤ 2 ^ (53 + (n.log2 - 52)) := Nat.pow_le_pow_right (by omega) (by omega)
      have h4 : 2 ^ 53 = 2 * BN := by decide
      rw [Nat.pow_add 2 53, h4] at h3
      omega
    have b : BN ≤ re m (m.log2 - 52) := by
      refine re_ge ?_
      have h2 := Nat.log2_self_le hm
      have h3 : 2 ^ (52 + (m.log2 - 52)) ≤ 2 ^ m.log2 := Nat.pow_le_pow_right (by omega) (by omega)
      rw [Nat.pow_add, ← bn_eq] at h3
      omega
    have c : (n.log2 - 52 + 1) * BN ≤ (m.log2 - 52) * BN := Nat.mul_le_mul_right _ h1
    rw [Nat.add_mul] at c
    omega
  · have e : n.log2 - 52 = m.log2 - 52 := by omega
    rw [e]; exact Nat.add_le_add_left (re_mono h) _
theorem rnd_mono {n m : Nat} (h : n ≤ m) : rnd n ≤ rnd m := by
  unfold rnd; have := raw_mono h; omega
theorem rnd_le (n : Nat) : rnd n ≤ INF := Nat.min_le_right ..
theorem log2_eq {n k : Nat} (h1 : 2 ^ k ≤ n) (h2 : n < 2 ^ (k + 1)) : n.log2 = k := by
  have h0 : n ≠ 0 := by have := Nat.two_pow_pos k; omega
  have a := (Nat.le_log2 h0 (k := k)).2 h1
  have b := (Nat.log2_lt h0 (k := k + 1)).2 h2
  omega
theorem rnd_uni {r : Nat} (h : r ≤ INF) : rnd (uni r) = r := by
  unfold rnd uni
  by_cases h1 : r < BN
  · rw [if_pos h1]
    have hl : r.log2 - 52 = 0 := by
      by_cases h0 : r = 0
      · subst h0; simp
      · have := (Nat.log2_lt h0 (k := 52)).2 (by rw [← bn_eq]; exact h1); omega
    rw [hl, re_zero]; omega
  · rw [if_neg h1]
    have hd := Nat.div_add_mod r BN
    have hm : r % BN < BN := Nat.mod_lt _ (by decide)
    have hq : 1 ≤ r / BN := by
      rcases Nat.lt_or_ge (r / BN) 1 with h3 | h3
      · have : r / BN = 0 := Nat.lt_one_iff.1 h3
        rw [this] at hd; omega
      · exact h3
    generalize r / BN = q at hd hq ⊢
    generalize r % BN = t at hd hm ⊢
    have hl : ((BN + t) * 2 ^ (q - 1)).log2 = 52 + (q - 1) := by
      refine log2_eq ?_ ?_
      · rw [Nat.pow_add, ← bn_eq]; exact Nat.mul_le_mul_right _ (by omega)
      · rw [show 52 + (q - 1) + 1 = 53 + (q - 1) from by omega, Nat.pow_add]
        refine (Nat.mul_lt_mul_right (Nat.two_pow_pos _)).2 ?_
        have : 2 * BN = 2 ^ 53 := by decide
        omega
    rw [hl, show 52 + (q - 1) - 52 = q - 1 from by omega, re_exact]
    have : (q - 1) * BN + BN = q * BN := by rw [← Nat.succ_mul]; congr 1; omega
    rw [Nat.mul_comm] at hd
    omega
theorem uni_zero : uni 0 = 0 := by decide
theorem uni_lt {r s : Nat} (hs : s ≤ INF) (h : r < s) : uni r < uni s := by
  rcases Nat.lt_or_ge (uni r) (uni s) with h1 | h1
  · exact h1
  · have := rnd_mono h1
    rw [rnd_uni hs, rnd_uni (by omega)] at this; omega
theorem uni_le {r s : Nat} (hs : s ≤ INF) (h : r ≤ s) : uni r ≤ uni s := by
  rcases Nat.lt_or_ge r s with h1 | h1
  · exact Nat.le_of_lt (uni_lt hs h1)
  · rw [show r = s from by omega]; exact Nat.le_refl _
/-- the sum of two magnitudes -/
def plus (a b : Nat) : Nat := rnd (uni a + uni b)
theorem plus_le (a b : Nat) : plus a b ≤ INF := rnd_le _
theorem plus_mono {a a' b b' : Nat} (ha : a ≤ a') (hb : b ≤ b') (ha' : a' ≤ INF) (hb' : b' ≤ INF) : plus a b ≤ plus a' b' :=
  rnd_mono (Nat.add_le_add (uni_le ha' ha) (uni_le hb' hb))
theorem plus_comm (a b : Nat) : plus a b = plus b a := by unfold plus; rw [Nat.add_comm]
theorem plus_zero {a : Nat} (h : a ≤ INF) : plus a 0 = a := by unfold plus; rw [uni_zero, Nat.add_zero, rnd_uni h]
theorem zero_plus {a : Nat} (h : a ≤ INF) : plus 0 a = a := by rw [plus_comm, plus_zero h]
theorem le_plus {a : Nat} (b : Nat) (h : a ≤ INF) : a ≤ plus a b := by
  have : plus a 0 ≤ plus a b := rnd_mono (by rw [uni_zero]; omega)
  rwa [plus_zero h] at this
theorem le_plus_right (a : Nat) {b : Nat} (h : b ≤ INF) : b ≤ plus a b := by rw [plus_comm]; exact le_plus a h
/-- the magnitude and the value of a word -/
def rung (x : Nat) : Nat := x % SG
def sgn (x : Nat) : Bool := decide (SG ≤ x)
def val (x : Nat) : Int := if sgn x then -(uni (rung x) : Int) else (uni (rung x) : Int)
def isN (x : Nat) : Bool := decide (INF < rung x)
theorem sgn_read {x : Nat} (h : x < 18446744073709551616) : (x / SG % 2 == 1) = sgn x := by
  unfold sgn SG
  rcases Nat.lt_or_ge x 9223372036854775808 with h1 | h1
  · rw [Nat.div_eq_of_lt h1]; simp; omega
  · have : x / 9223372036854775808 = 1 := by omega
    rw [this]; simp; omega
theorem read_nan {x : Nat} (h : isN x = true) : ∃ s t, Ieee.double.read x = .nan s t := by
  have h' : INF < rung x := by unfold isN at h; simpa using h
  unfold Ieee.Format.read
  dsimp only
  rw [binade_dbl, inf_dbl, sg_dbl, least_dbl]
  unfold rung at h'
  have hb : BN < INF := by decide
  rw [if_neg (by omega), if_neg (by omega), if_neg (by omega)]
  exact ⟨_, _, rfl⟩
theorem read_inf {x : Nat} (hx : x < 18446744073709551616) (h : rung x = INF) : Ieee.double.read x = .infinity (sgn x) := by
  unfold Ieee.Format.read
  dsimp only
  rw [binade_dbl, inf_dbl, sg_dbl, least_dbl, sgn_read hx]
  unfold rung at h
  have hb : BN < INF := by decide
  rw [if_neg (by omega), if_neg (by omega), if_pos h]
theorem read_fin {x : Nat} (hx : x < 18446744073709551616) (h : rung x < INF) : ∃ m k : Nat, Ieee.double.read x = .number (sgn x) m (-1074 + (k : Int)) ∧ m * 2 ^ k = uni (rung x) := by
  unfold Ieee.Format.read
  dsimp only
  rw [binade_dbl, inf_dbl, sg_dbl, least_dbl, sgn_read hx]
  unfold rung at h ⊢
  unfold uni
  by_cases h1 : x % SG < BN
  · rw [if_pos h1, if_pos h1]
    exact ⟨_, 0, rfl, by simp⟩
  · rw [if_neg h1, if_neg h1, if_pos h]
    exact ⟨_, _, rfl, rfl⟩
theorem signed_scale (s : Bool) (m a b : Nat) : Ieee.signed s m a * (2 ^ b : Nat) = if s then -((m * 2 ^ (a + b) : Nat) : Int) else ((m * 2 ^ (a + b) : Nat) : Int) := by
  unfold Ieee.signed
  rw [Nat.shiftLeft_eq, Nat.pow_add, ← Nat.mul_assoc]
  cases s <;> simp [Int.neg_mul]
theorem cmp_scale (a b : Int) {c : Nat} (hc : 0 < c) : compare a b = compare (a * (c : Int)) (b * (c : Int)) := by
  have hc' : (0 : Int) < (c : Int) := by omega
  rcases Int.lt_trichotomy a b with h | h | h
  · rw [Int.compare_eq_lt.2 h, Int.compare_eq_lt.2 (Int.mul_lt_mul_of_pos_right h hc')]
  · subst h; rw [Int.compare_eq_eq.2 rfl, Int.compare_eq_eq.2 rfl]
  · rw [Int.compare_eq_gt.2 h, Int.compare_eq_gt.2 (Int.mul_lt_mul_of_pos_right h hc')]
theorem val_read {x : Nat} {s : Bool} {m k : Nat} (hs : s = sgn x) (h : m * 2 ^ k = uni (rung x)) (b c : Nat) (hk : k = b + c) : Ieee.signed s m b * (2 ^ c : Nat) = val x := by
  rw [signed_scale, ← hk, h, hs]; rfl
theorem val_inf {x : Nat} (h : rung x = INF) : val x = if sgn x then -(uni INF : Int) else (uni INF : Int) := by unfold val; rw [h]
theorem val_fin {x : Nat} (h : rung x < INF) : -(uni INF : Int) < val x ∧ val x < (uni INF : Int) := by
  have := uni_lt (Nat.le_refl INF) h
  unfold val
  split <;> omega
/-- how two words stand: by their values -/
theorem order_val {x y : Nat} (hx : x < 18446744073709551616) (hy : y < 18446744073709551616) (nx : isN x = false) (ny : isN y = false) : Ieee.double.order x y = some (compare (val x) (val y)) := by
  have rx : rung x ≤ INF := by unfold isN at nx; simpa using nx
  have ry : rung y ≤ INF := by unfold isN at ny; simpa using ny
  have hp : 0 < uni INF := by have := uni_lt (Nat.le_refl INF) (show 0 < INF by decide); omega
  unfold Ieee.Format.order
  rcases Nat.lt_or_ge (rung x) INF with h1 | h1
  · obtain ⟨m, k, e1, e2⟩ := read_fin hx h1
    have bx := val_fin h1
    rcases Nat.lt_or_ge (rung y) INF with h2 | h2
    · obtain ⟨n, j, e3, e4⟩ := read_fin hy h2
      rw [e1, e3]
      show some (compare _ _) = _
      congr 1
      rcases Nat.le_total k j with h | h
      · have a1 : ((-1074 + (k : Int)) - min (-1074 + (k : Int)) (-1074 + (j : Int))).toNat = 0 := by omega
        have a2 : ((-1074 + (j : Int)) - min (-1074 + (k : Int)) (-1074 + (j : Int))).toNat = j - k := by omega
        rw [a1, a2, cmp_scale _ _ (Nat.two_pow_pos k), val_read rfl e2 0 k (by omega), val_read rfl e4 (j - k) k (by omega)]
      · have a1 : ((-1074 + (k : Int)) - min (-1074 + (k : Int)) (-1074 + (j : Int))).toNat = k - j := by omega
        have a2 : ((-1074 + (j : Int)) - min (-1074 + (k : Int)) (-1074 + (j : Int))).toNat = 0 := by omega
        rw [a1, a2, cmp_scale _ _ (Nat.two_pow_pos j), val_read rfl e2 (k - j) j (by omega), val_read rfl e4 0 j (by omega)]
    · have h2 : rung y = INF := by omega
      rw [e1, read_inf hy h2, val_inf h2]
      show some (if sgn y = true then Ordering.gt else .lt) = _
      cases sgn y
      · rw [if_neg (by simp), if_neg (by simp), Int.compare_eq_lt.2 (by omega)]
      · rw [if_pos rfl, if_pos rfl, Int.compare_eq_gt.2 (by omega)]
  · have h1 : rung x = INF := by omega
    rcases Nat.lt_or_ge (rung y) INF with h2 | h2
    · obtain ⟨n, j, e3, e4⟩ := read_fin hy h2
      have bY := val_fin h2
      rw [read_inf hx h1, e3, val_inf h1]
      show some (if sgn x = true then Ordering.lt else .gt) = _
      cases sgn x
      · rw [if_neg (by simp), if_neg (by simp), Int.compare_eq_gt.2 (by omega)]
      · rw [if_pos rfl, if_pos rfl, Int.compare_eq_lt.2 (by omega)]
    · have h2 : rung y = INF := by omega
      rw [read_inf hx h1, read_inf hy h2, val_inf h1, val_inf h2]
      show some (compare (sgn y).toNat (sgn x).toNat) = _
      cases sgn x <;> cases sgn y <;> simp
      · rw [Int.compare_eq_gt.2 (by omega)]; rfl
      · rw [Int.compare_eq_lt.2 (by omega)]; rfl
theorem order_nan {x y : Nat} (h : isN x = true ∨ isN y = true) : Ieee.double.order x y = none := by
  unfold Ieee.Format.order
  rcases h with h | h
  · obtain ⟨s, t, e⟩ := read_nan h; rw [e]; rfl
  · obtain ⟨s, t, e⟩ := read_nan h; rw [e]; cases Ieee.double.read x <;> rfl
/-- the key by which words are in order -/
def keyN (x : Nat) : Nat := if SG ≤ x then 18446744073709551615 - x else x + SG
theorem key_lt {x : Nat} (h : x < 18446744073709551616) : keyN x < 18446744073709551616 := by unfold keyN SG; split <;> omega
theorem key_inj {x y : Nat} (hx : x < 18446744073709551616) (hy : y < 18446744073709551616) (h : keyN x = keyN y) : x = y := by
  unfold keyN SG at h; split at h <;> split at h <;> omega
theorem val_lt_key {x y : Nat} (hx : x < 18446744073709551616) (hy : y < 18446744073709551616) (nx : isN x = false) (ny : isN y = false) (h : val x < val y) : keyN x < keyN y := by
  have rx : rung x ≤ INF := by unfold isN at nx; simpa using nx
  have ry : rung y ≤ INF := by unfold isN at ny; simpa using ny
  have e1 : sgn x = true → rung x + SG = x := by unfold sgn rung SG; simp; omega
  have e2 : sgn y = true → rung y + SG = y := by unfold sgn rung SG; simp; omega
  have e3 : sgn x = false → rung x = x := by unfold sgn rung SG; simp
  have e4 : sgn y = false → rung y = y := by unfold sgn rung SG; simp
  have d1 : sgn x = decide (SG ≤ x) := rfl
  have d2 : sgn y = decide (SG ≤ y) := rfl
  have hI : INF < SG := by decide
  unfold val at h
  unfold keyN
  cases c1 : sgn x <;> cases c2 : sgn y <;> rw [c1, c2] at h <;> simp only [if_true, if_false, Bool.false_eq_true] at h
  · have := e3 c1; have := e4 c2
    rw [c1] at d1; rw [c2] at d2
    have k1 : ¬ SG ≤ x := by simpa using d1.symm
    have k2 : ¬ SG ≤ y := by simpa using d2.symm
    rw [if_neg k1, if_neg k2]
    rcases Nat.lt_or_ge (rung x) (rung y) with g | g
    · omega
    · have := uni_le rx g; omega
  · omega
  · rw [c1] at d1; rw [c2] at d2
    have k1 : SG ≤ x := by simpa using d1.symm
    have k2 : ¬ SG ≤ y := by simpa using d2.symm
    rw [if_pos k1, if_neg k2]
    unfold SG at *; omega
  · have := e1 c1; have := e2 c2
    rw [c1] at d1; rw [c2] at d2
    have k1 : SG ≤ x := by simpa using d1.symm
    have k2 : SG ≤ y := by simpa using d2.symm
    rw [if_pos k1, if_pos k2]
    rcases Nat.lt_or_ge (rung y) (rung x) with g | g
    · omega
    · have := uni_le ry g; omega
theorem order_lt_key {x y : Nat} (hx : x < 18446744073709551616) (hy : y < 18446744073709551616) (h : Ieee.double.order x y = some .lt) : keyN x < keyN y := by
  cases nx : isN x
  · cases ny : isN y
    · rw [order_val hx hy nx ny] at h
      exact val_lt_key hx hy nx ny (Int.compare_eq_lt.1 (Option.some.inj h))
    · rw [order_nan (.inr ny)] at h; cases h
  · rw [order_nan (.inl nx)] at h; cases h
theorem order_gt_key {x y : Nat} (hx : x < 18446744073709551616) (hy : y < 18446744073709551616) (h : Ieee.double.order x y = some .gt) : keyN y < keyN x := by
  cases nx : isN x
  · cases ny : isN y
    · rw [order_val hx hy nx ny] at h
      exact val_lt_key hy hx ny nx (Int.compare_eq_gt.1 (Option.some.inj h))
    · rw [order_nan (.inr ny)] at h; cases h
  · rw [order_nan (.inl nx)] at h; cases h
/-- the nearest word of so many units -/
theorem nearest_rnd (s : Bool) (m k : Nat) : Ieee.double.nearest s m (-1074 + (k : Int)) = Ieee.double.word s (rnd (m * 2 ^ k)) := by
  unfold Ieee.Format.nearest
  by_cases h0 : m = 0
  · subst h0; rw [if_pos rfl, Nat.zero_mul]
    have h := rnd_uni (r := 0) (Nat.zero_le _)
    rw [uni_zero] at h; rw [h]
  · rw [if_neg h0]
    dsimp only
    rw [least_dbl, frac_dbl, binade_dbl, inf_dbl]
    refine congrArg (Ieee.double.word s) ?_
    unfold rnd
    have hl : (m * 2 ^ k).log2 = m.log2 + k := by
      refine log2_eq ?_ ?_
      · rw [Nat.pow_add]; exact Nat.mul_le_mul_right _ (Nat.log2_self_le h0)
      · rw [show m.log2 + k + 1 = (m.log2 + 1) + k from by omega, Nat.pow_add]
        exact (Nat.mul_lt_mul_right (Nat.two_pow_pos _)).2 (lt_log2 m)
    rw [hl]
    refine congrArg (fun z => min z INF) ?_
    have e1 : (max (-1074 + (k : Int) + (m.log2 : Int) - ((52 : Nat) : Int)) (-1074) - -1074).toNat = m.log2 + k - 52 := by omega
    rw [e1]
    refine congrArg (fun z => (m.log2 + k - 52) * BN + z) ?_
    generalize hd : m.log2 + k - 52 = d at *
    rcases Nat.le_total d k with h | h
    · have e2 : ((-1074 + (k : Int)) - max (-1074 + (k : Int) + (m.log2 : Int) - ((52 : Nat) : Int)) (-1074)).toNat = k - d := by omega
      have e3 : (max (-1074 + (k : Int) + (m.log2 : Int) - ((52 : Nat) : Int)) (-1074) - (-1074 + (k : Int))).toNat = 0 := by omega
      rw [e2, e3]
      unfold Ieee.Toward.cut
      have : m * 2 ^ k = (m * 2 ^ (k - d)) * 2 ^ d := by rw [Nat.mul_assoc, ← Nat.pow_add]; congr 2; omega
      rw [this, re_exact]
      simp [Nat.shiftLeft_eq, Nat.mod_one]
    · have e2 : ((-1074 + (k : Int)) - max (-1074 + (k : Int) + (m.log2 : Int) - ((52 : Nat) : Int)) (-1074)).toNat = 0 := by omega
      have e3 : (max (-1074 + (k : Int) + (m.log2 : Int) - ((52 : Nat) : Int)) (-1074) - (-1074 + (k : Int))).toNat = d - k := by omega
      rw [e2, e3]
      have : re (m * 2 ^ k) d = re m (d - k) := by
        have := re_mul m k (d - k)
        rwa [show d - k + k = d from by omega] at this
      rw [this]
      simp only [Ieee.Toward.cut, re, Nat.shiftLeft_zero]
      have hm : min (d - k) (m.log2 + 2) = d - k := by omega
      simp only [hm, Nat.one_shiftLeft]
      congr 1
      generalize 2 ^ (d - k) = g
      by_cases c1 : g < 2 * (m % g)
      · simp [c1]
      · by_cases c2 : g = 2 * (m % g) ∧ m / g % 2 = 1
        · rw [if_pos (.inr c2)]; simp [c2.2]; omega
        · rw [if_neg (by omega)]
          have : (g == 2 * (m % g) && m / g % 2 == 1) = false := by
            rw [Bool.eq_false_iff]; intro h; simp at h; exact c2 h
          simp [c1, this]
/-- the sum of two words without a sign -/
theorem word_pos (r : Nat) : Ieee.double.word false r = r := by unfold Ieee.Format.word; simp
theorem sum_num (s t : Bool) (m n : Nat) (i j : Int) : Ieee.Datum.sum (.number s m i) (.number t n j) = some (.number (if Ieee.signed s m (i - min i j).toNat + Ieee.signed t n (j - min i j).toNat = 0 then s && t else decide (Ieee.signed s m (i - min i j).toNat + Ieee.signed t n (j - min i j).toNat < 0)) (Ieee.signed s m (i - min i j).toNat + Ieee.signed t n (j - min i j).toNat).natAbs (min i j)) := rfl
theorem sum_num_inf (s t : Bool) (m : Nat) (i : Int) : Ieee.Datum.sum (.number s m i) (.infinity t) = some (.infinity t) := rfl
theorem sum_inf_num (s t : Bool) (m : Nat) (i : Int) : Ieee.Datum.sum (.infinity t) (.number s m i) = some (.infinity t) := rfl
theorem sum_inf_inf (s t : Bool) : Ieee.Datum.sum (.infinity s) (.infinity t) = if s = t then some (.infinity s) else none := rfl
theorem map_write_inf (s : Bool) : (some (Ieee.Datum.infinity s)).map Ieee.double.write = some (Ieee.double.word s Ieee.double.infRung) := rfl
theorem map_write_num (s : Bool) (m : Nat) (i : Int) : (some (Ieee.Datum.number s m i)).map Ieee.double.write = some (Ieee.double.nearest s m i) := rfl
theorem add_pos {x y : Nat} (hx : x ≤ INF) (hy : y ≤ INF) : Ieee.double.add x y = some (plus x y) := by
  have hI : INF < SG := by decide
  have hS : SG < 18446744073709551616 := by decide
  have rx : rung x = x := Nat.mod_eq_of_lt (by omega)
  have ry : rung y = y := Nat.mod_eq_of_lt (by omega)
  have sx : sgn x = false := by unfold sgn; simp; omega
  have sy : sgn y = false := by unfold sgn; simp; omega
  have hinf : ∀ n, rnd (uni INF + n) = INF := fun n => by
    have h1 := rnd_mono (Nat.le_add_right (uni INF) n)
    rw [rnd_uni (Nat.le_refl _)] at h1
    have := rnd_le (uni INF + n); omega
  unfold Ieee.Format.add
  rcases Nat.lt_or_ge x INF with h1 | h1
  · obtain ⟨m, k, e1, e2⟩ := read_fin (by omega) (show rung x < INF by omega)
    rcases Nat.lt_or_ge y INF with h2 | h2
    · obtain ⟨n, j, e3, e4⟩ := read_fin (by omega) (show rung y < INF by omega)
      rw [e1, e3, sx, sy]
      rw [rx] at e2
      rw [ry] at e4
      rw [sum_num, map_write_num]
      congr 1
      obtain ⟨b, hb⟩ : ∃ b : Nat, min k j = b := ⟨_, rfl⟩
      have hmin : min (-1074 + (k : Int)) (-1074 + (j : Int)) = -1074 + (b : Int) := by omega
      have a1 : ((-1074 + (k : Int)) - (-1074 + (b : Int))).toNat = k - b := by omega
      have a2 : ((-1074 + (j : Int)) - (-1074 + (b : Int))).toNat = j - b := by omega
      rw [hmin, a1, a2]
      unfold Ieee.signed
      simp only [Bool.false_eq_true, if_false]
      rw [← Int.natCast_add]
      generalize hT : (m <<< (k - b) + n <<< (j - b)) = T
      have hT' : T * 2 ^ b = uni x + uni y := by
        rw [← hT, Nat.add_mul, Nat.shiftLeft_eq, Nat.shiftLeft_eq, Nat.mul_assoc, Nat.mul_assoc, ← Nat.pow_add, ← Nat.pow_add, ← e2, ← e4]
        congr 3 <;> omega
      have hs : (if (T : Int) = 0 then (false && false) else decide ((T : Int) < 0)) = false := by
        split
        · rfl
        · simp
      rw [Int.natAbs_natCast, hs, nearest_rnd, hT', word_pos]
      unfold plus; rfl
    · have h2 : y = INF := by omega
      rw [e1, read_inf (by omega) (show rung y = INF by omega), sx, sy]
      rw [sum_num_inf, map_write_inf, word_pos]
      unfold plus
      rw [h2, Nat.add_comm, hinf, inf_dbl]
  · have h1 : x = INF := by omega
    rw [read_inf (x := x) (by omega) (show rung x = INF by omega), sx]
    have hp : plus x y = INF := by unfold plus; rw [h1, hinf]
    rw [hp]
    rcases Nat.lt_or_ge y INF with h2 | h2
    · obtain ⟨n, j, e3, e4⟩ := read_fin (by omega) (show rung y < INF by omega)
      rw [e3, sum_inf_num, map_write_inf, word_pos, inf_dbl]
    · rw [read_inf (x := y) (by omega) (show rung y = INF by omega), sy]
      rw [sum_inf_inf, if_pos rfl, map_write_inf, word_pos, inf_dbl]
attribute [irreducible] plus uni rnd re
end Go.Proofs.YtlhhcgiifgkngaaDoor
