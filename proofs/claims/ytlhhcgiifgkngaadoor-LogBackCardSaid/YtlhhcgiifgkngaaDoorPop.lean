/- The number of ones of a 64-bit number, as math/bits.OnesCount64 reckons it. Conditions: none. -/
import Derived.Test.YtlhhcgiifgkngaaDoorUn
namespace Go.Proofs.YtlhhcgiifgkngaaDoor
theorem and8 (a a' m m' : Nat) (ha : a < 256) (hm : m < 256) : (a + 256 * a') &&& (m + 256 * m') = (a &&& m) + 256 * (a' &&& m') := by
  have h := @Nat.and_div_two_pow (a + 256 * a') (m + 256 * m') 8
  have h2 := @Nat.and_mod_two_pow (a + 256 * a') (m + 256 * m') 8
  have e1 : (a + 256 * a') / 2 ^ 8 = a' := by omega
  have e2 : (m + 256 * m') / 2 ^ 8 = m' := by omega
  have e3 : (a + 256 * a') % 2 ^ 8 = a := by omega
  have e4 : (m + 256 * m') % 2 ^ 8 = m := by omega
  rw [e1, e2] at h
  rw [e3, e4] at h2
  omega
def mask (m : Nat) : Nat → Nat
  | 0 => 0
  | n + 1 => m + 256 * mask m n
theorem mask_succ (m n : Nat) : mask m (n + 1) = m + 256 * mask m n := rfl
def pA (n x : Nat) : Nat := (x / 2 &&& mask 0x55 n) + (x &&& mask 0x55 n)
def pB (n x : Nat) : Nat := (x / 4 &&& mask 0x33 n) + (x &&& mask 0x33 n)
def pC (n x : Nat) : Nat := (x / 16 + x) &&& mask 0x0f n
def a1 (b : Nat) : Nat := (b / 2 &&& 0x55) + (b &&& 0x55)
def b1 (b : Nat) : Nat := (b / 4 &&& 0x33) + (b &&& 0x33)
def p8 (b : Nat) : Nat := (b1 (a1 b) / 16 + b1 (a1 b)) &&& 15
theorem a1_lt : ∀ b, b < 256 → a1 b < 256 := by decide +kernel
theorem b1_lt : ∀ b, b < 256 → b1 (a1 b) < 69 ∧ b1 (a1 b) % 16 ≤ 4 := by decide +kernel
theorem f1 : ∀ b, b < 256 → ∀ c, c < 2 → (b / 2 + 128 * c) &&& 0x55 = b / 2 &&& 0x55 := by decide +kernel
theorem f2 : ∀ b, b < 256 → ∀ c, c < 4 → (b / 4 + 64 * c) &&& 0x33 = b / 4 &&& 0x33 := by decide +kernel
theorem f3 : ∀ b, b < 69 → ∀ c, c < 5 → (b / 16 + b + 16 * c) &&& 15 = (b / 16 + b) &&& 15 := by decide +kernel
theorem pA_step (n b x : Nat) (hb : b < 256) : pA (n + 1) (b + 256 * x) = a1 b + 256 * pA n x := by
  unfold pA a1; rw [mask_succ]
  have e : (b + 256 * x) / 2 = (b / 2 + 128 * (x % 2)) + 256 * (x / 2) := by omega
  rw [e, and8 _ _ _ _ (by omega) (by omega), and8 _ _ _ _ (by omega) (by omega), f1 b hb _ (by omega)]
  omega
theorem pB_step (n b x : Nat) (hb : b < 256) : pB (n + 1) (b + 256 * x) = b1 b + 256 * pB n x := by
  unfold pB b1; rw [mask_succ]
  have e : (b + 256 * x) / 4 = (b / 4 + 64 * (x % 4)) + 256 * (x / 4) := by omega
  rw [e, and8 _ _ _ _ (by omega) (by omega), and8 _ _ _ _ (by omega) (by omega), f2 b hb _ (by omega)]
  omega
theorem pC_step (n b x : Nat) (hb : b < 69) (hx : x % 16 ≤ 4) : pC (n + 1) (b + 256 * x) = ((b / 16 + b) &&& 15) + 256 * pC n x := by
  unfold pC; rw [mask_succ]
  have e : (b + 256 * x) / 16 + (b + 256 * x) = (b / 16 + b + 16 * (x % 16)) + 256 * (x / 16 + x) := by omega
  rw [e, and8 _ _ _ _ (by omega) (by omega), f3 b hb _ (by omega)]
def map8 : Nat → Nat → Nat
  | 0, _ => 0
  | n + 1, x => p8 (x % 256) + 256 * map8 n (x / 256)
theorem pABC (n x : Nat) : pC n (pB n (pA n x)) = map8 n x ∧ pB n (pA n x) % 16 ≤ 4 := by
  induction n generalizing x with
  | zero => simp [pC, mask, map8, pB]
  | succ n ih =>
    obtain ⟨i1, i2⟩ := ih (x / 256)
    have hb : x % 256 < 256 := by omega
    have e : x = x % 256 + 256 * (x / 256) := by omega
    have h1 := b1_lt _ hb
    have e1 : pB (n + 1) (pA (n + 1) x) = b1 (a1 (x % 256)) + 256 * pB n (pA n (x / 256)) := by
      conv => lhs; rw [e]
      rw [pA_step _ _ _ hb, pB_step _ _ _ (a1_lt _ hb)]
    refine ⟨?_, by omega⟩
    rw [e1, pC_step _ _ _ h1.1 i2, i1]
    rfl
/-- the number of ones among the low n bits -/
def pop : Nat → Nat → Nat
  | 0, _ => 0
  | n + 1, s => s % 2 + pop n (s / 2)
theorem pop_succ (n s : Nat) : pop (n + 1) s = s % 2 + pop n (s / 2) := rfl
theorem p8_pop : ∀ b, b < 256 → p8 b = pop 8 b := by decide +kernel
theorem p8_le : ∀ b, b < 256 → p8 b ≤ 8 := by decide +kernel
theorem pop_add (a b x : Nat) : pop (a + b) x = pop a x + pop b (x / 2 ^ a) := by
  induction a generalizing x with
  | zero => simp [pop]
  | succ a ih =>
    have : a + 1 + b = (a + b) + 1 := by omega
    rw [this, pop_succ, pop_succ, ih, Nat.div_div_eq_div_mul, Nat.pow_succ, Nat.mul_comm 2]
    omega
theorem pop_mod (a b x : Nat) (h : a ≤ b) : pop a (x % 2 ^ b) = pop a x := by
  induction a generalizing x b with
  | zero => rfl
  | succ a ih =>
    obtain ⟨c, rfl⟩ : ∃ c, b = c + 1 := ⟨b - 1, by omega⟩
    rw [pop_succ, pop_succ]
    have e1 : x % 2 ^ (c + 1) % 2 = x % 2 := Nat.mod_mod_of_dvd _ (by rw [Nat.pow_succ]; exact Nat.dvd_mul_left _ _)
    have e2 : x % 2 ^ (c + 1) / 2 = x / 2 % 2 ^ c := by
      rw [Nat.pow_succ, Nat.mul_comm, Nat.mod_mul_right_div_self]
    rw [e1, e2, ih c _ (by omega)]
theorem pop_byte (n x : Nat) : pop (8 + n) x = p8 (x % 256) + pop n (x / 256) := by
  rw [pop_add, p8_pop _ (by omega), ← pop_mod 8 8 x (by omega)]
def onesGo (x : Nat) : Nat :=
  let y := pC 8 (pB 8 (pA 8 x))
  let y1 := y + y / 256
  let y2 := y1 + y1 / 65536
  let y3 := y2 + y2 / 4294967296
  y3 % 128
theorem div1 (p y : Nat) (h : p < 256) : (p + 256 * y) / 256 = y := by omega
theorem div2 (p q y : Nat) (h : p < 256) (h1 : q < 256) : (p + 256 * (q + 256 * y)) / 65536 = y := by omega
theorem div4 (p q r t y : Nat) (h : p < 256) (h1 : q < 256) (h2 : r < 256) (h3 : t < 256) : (p + 256 * (q + 256 * (r + 256 * (t + 256 * y)))) / 4294967296 = y := by omega
theorem add8 (a b c d e f g h i j k l m n : Nat) : a + 256 * (b + 256 * (c + 256 * (d + 256 * (e + 256 * (f + 256 * (g + 256 * h)))))) + (i + 256 * (j + 256 * (k + 256 * (l + 256 * (m + 256 * n))))) =
    (a + i) + 256 * ((b + j) + 256 * ((c + k) + 256 * ((d + l) + 256 * ((e + m) + 256 * ((f + n) + 256 * (g + 256 * h)))))) := by omega
theorem last (p0 p1 p2 p3 p4 p5 p6 p7 : Nat) (g0 : p0 ≤ 8) (g1 : p1 ≤ 8) (g2 : p2 ≤ 8) (g3 : p3 ≤ 8) (g4 : p4 ≤ 8) (g5 : p5 ≤ 8) (g6 : p6 ≤ 8) (g7 : p7 ≤ 8) :
    (p0 + 256 * (p1 + 256 * (p2 + 256 * (p3 + 256 * (p4 + 256 * (p5 + 256 * (p6 + 256 * (p7 + 256 * 0))))))) +
          (p0 + 256 * (p1 + 256 * (p2 + 256 * (p3 + 256 * (p4 + 256 * (p5 + 256 * (p6 + 256 * (p7 + 256 * 0)))))))) / 256 +
        (p0 + 256 * (p1 + 256 * (p2 + 256 * (p3 + 256 * (p4 + 256 * (p5 + 256 * (p6 + 256 * (p7 + 256 * 0))))))) +
            (p0 + 256 * (p1 + 256 * (p2 + 256 * (p3 + 256 * (p4 + 256 * (p5 + 256 * (p6 + 256 * (p7 + 256 * 0)))))))) / 256) / 65536 +
      (p0 + 256 * (p1 + 256 * (p2 + 256 * (p3 + 256 * (p4 + 256 * (p5 + 256 * (p6 + 256 * (p7 + 256 * 0))))))) +
            (p0 + 256 * (p1 + 256 * (p2 + 256 * (p3 + 256 * (p4 + 256 * (p5 + 256 * (p6 + 256 * (p7 + 256 * 0)))))))) / 256 +
          (p0 + 256 * (p1 + 256 * (p2 + 256 * (p3 + 256 * (p4 + 256 * (p5 + 256 * (p6 + 256 * (p7 + 256 * 0))))))) +
              (p0 + 256 * (p1 + 256 * (p2 + 256 * (p3 + 256 * (p4 + 256 * (p5 + 256 * (p6 + 256 * (p7 + 256 * 0)))))))) / 256) / 65536) / 4294967296) % 128 =
    p0 + (p1 + (p2 + (p3 + (p4 + (p5 + (p6 + (p7 + 0))))))) := by
  rw [div1 p0 _ (by omega)]
  rw [show p0 + 256 * (p1 + 256 * (p2 + 256 * (p3 + 256 * (p4 + 256 * (p5 + 256 * (p6 + 256 * (p7 + 256 * 0))))))) + (p1 + 256 * (p2 + 256 * (p3 + 256 * (p4 + 256 * (p5 + 256 * (p6 + 256 * (p7 + 256 * 0))))))) =
    (p0 + p1) + 256 * ((p1 + p2) + 256 * ((p2 + p3) + 256 * ((p3 + p4) + 256 * ((p4 + p5) + 256 * ((p5 + p6) + 256 * ((p6 + p7) + 256 * p7)))))) by omega]
  rw [div2 _ _ _ (by omega) (by omega), add8]
  rw [div4 _ _ _ _ _ (by omega) (by omega) (by omega) (by omega)]
  generalize 256 * ((p6 + p7) + 256 * p7) = z
  omega
theorem ones_eq (x : Nat) : onesGo x = pop 64 x := by
  unfold onesGo
  rw [(pABC 8 x).1]
  have h : ∀ k, p8 (x / 256 ^ k % 256) ≤ 8 := fun k => p8_le _ (by omega)
  have e : pop 64 x = p8 (x % 256) + (p8 (x / 256 % 256) + (p8 (x / 256 / 256 % 256) + (p8 (x / 256 / 256 / 256 % 256) + (p8 (x / 256 / 256 / 256 / 256 % 256) + (p8 (x / 256 / 256 / 256 / 256 / 256 % 256) + (p8 (x / 256 / 256 / 256 / 256 / 256 / 256 % 256) + (p8 (x / 256 / 256 / 256 / 256 / 256 / 256 / 256 % 256) + 0))))))) := by
    rw [show (64 : Nat) = 8 + (8 + (8 + (8 + (8 + (8 + (8 + (8 + 0))))))) from rfl]
    simp only [pop_byte]
    rfl
  rw [e]
  simp only [map8]
  have g0 := p8_le (x % 256) (by omega)
  have g1 := p8_le (x / 256 % 256) (by omega)
  have g2 := p8_le (x / 256 / 256 % 256) (by omega)
  have g3 := p8_le (x / 256 / 256 / 256 % 256) (by omega)
  have g4 := p8_le (x / 256 / 256 / 256 / 256 % 256) (by omega)
  have g5 := p8_le (x / 256 / 256 / 256 / 256 / 256 % 256) (by omega)
  have g6 := p8_le (x / 256 / 256 / 256 / 256 / 256 / 256 % 256) (by omega)
  have g7 := p8_le (x / 256 / 256 / 256 / 256 / 256 / 256 / 256 % 256) (by omega)
  generalize p8 (x % 256) = p0 at *
  generalize p8 (x / 256 % 256) = p1 at *
  generalize p8 (x / 256 / 256 % 256) = p2 at *
  generalize p8 (x / 256 / 256 / 256 % 256) = p3 at *
  generalize p8 (x / 256 / 256 / 256 / 256 % 256) = p4 at *
  generalize p8 (x / 256 / 256 / 256 / 256 / 256 % 256) = p5 at *
  generalize p8 (x / 256 / 256 / 256 / 256 / 256 / 256 % 256) = p6 at *
  generalize p8 (x / 256 / 256 / 256 / 256 / 256 / 256 / 256 % 256) = p7 at *
  exact last p0 p1 p2 p3 p4 p5 p6 p7 g0 g1 g2 g3 g4 g5 g6 g7

/-- how many numbers a set has -/
def cnt (s : B) : Nat := pop 64 (un s)
theorem pop_le (n x : Nat) : pop n x ≤ n := by
  induction n generalizing x with
  | zero => simp [pop]
  | succ n ih => rw [pop_succ]; have := ih (x / 2); omega
theorem cnt_le (s : B) : cnt s ≤ 64 := pop_le _ _
theorem cnt_eq (s : B) : cnt s = pop 64 (un s) := rfl
attribute [irreducible] cnt
end Go.Proofs.YtlhhcgiifgkngaaDoor
