/- Texts joined: Even, BitsW, Pop, Sets, Of, Reach. Conditions: theirs. -/
import Derived.Test.YtoiolepengcagaaGreatDoorGraphRightLWM4
import Derived.Test.YtoiolepengcagaaGreatDoorRows
import Derived.Test.YtoiolepengcagaaGreatDoorMem
import Derived.Outline
import Derived.Lib.TrailingZeros
namespace Go.Proofs.YtoiolepengcagaaGreatDoor
def fE (k : Nat) (s : B) : B := s ^^^ (s <<< k)
def even (s : B) : B := fE 32 (fE 16 (fE 8 (fE 4 (fE 2 (fE 1 s)))))
theorem fE_xor (k : Nat) (s t : B) : fE k (s ^^^ t) = fE k s ^^^ fE k t := by
  unfold fE
  ext i hi
  simp only [BitVec.getElem_xor, BitVec.getElem_shiftLeft]
  by_cases h : i < k
  · simp [h]
  · simp [h]
    cases s[i] <;> cases t[i] <;> cases s[i-k] <;> cases t[i-k] <;> rfl
theorem fE_sq (k : Nat) (s : B) : fE k (fE k s) = fE (k + k) s := by
  unfold fE
  rw [BitVec.shiftLeft_add]
  ext i hi
  simp
  by_cases h : i < k
  · simp [h]
  · simp [h]
theorem fE_comm (j k : Nat) (s : B) : fE j (fE k s) = fE k (fE j s) := by
  have h1 : s <<< j <<< k = s <<< k <<< j := by rw [← BitVec.shiftLeft_add, ← BitVec.shiftLeft_add, Nat.add_comm]
  have e : ∀ a b : Nat, fE a (fE b s) = s ^^^ s <<< b ^^^ (s <<< a ^^^ s <<< b <<< a) := by
    intro a b
    have := fE_xor a s (s <<< b)
    unfold fE at this ⊢
    rw [this]
    ac_rfl
  rw [e, e, h1]; ac_rfl
theorem even_xor (s t : B) : even (s ^^^ t) = even s ^^^ even t := by simp only [even, fE_xor]
theorem even_back (s : B) : even s ^^^ (even s) <<< 1 = s := by
  show fE 1 (even s) = s
  unfold even
  rw [fE_comm 1 32, fE_comm 1 16, fE_comm 1 8, fE_comm 1 4, fE_comm 1 2, fE_sq 1, fE_sq 2, fE_sq 4, fE_sq 8, fE_sq 16, fE_sq 32]
  unfold fE
  simp
def belowB (n : Nat) : B := (1#64 <<< n) - 1#64
theorem even_one : ∀ n, n < 64 → even (1#64 <<< n) = ~~~ belowB n := by decide
theorem even_turn (s : B) (n : Nat) (h : n < 64) : even (s ^^^ 1#64 <<< n) = even s ^^^ ~~~ belowB n := by
  rw [even_xor, even_one n h]
end Go.Proofs.YtoiolepengcagaaGreatDoor
namespace Go.Proofs.YtoiolepengcagaaGreatDoor
open Go.RowKit
theorem ret_un2 {x y : B} {v : Value} (h : x = y) : Ending.returned (.tuple #[.int .u64 (un x : Int), v]) = .returned (.tuple #[.int .u64 (un y : Int), v]) := by rw [h]
def ofL (xs : List Nat) : B := xs.foldl (fun s x => s ||| 1#64 <<< x) 0#64
theorem ofL_snoc (xs : List Nat) (x : Nat) : ofL (xs ++ [x]) = ofL xs ||| 1#64 <<< x := by simp [ofL]
theorem ofL_take (xs : List Nat) (k : Nat) (h : k < xs.length) : ofL (xs.take (k + 1)) = ofL (xs.take k) ||| 1#64 <<< xs[k] := by
  rw [List.take_succ_eq_append_getElem h, ofL_snoc]
def ints (xs : List Nat) : List Value := xs.map fun x : Nat => Value.int .i64 (x : Int)
set_option maxHeartbeats 400000 in
theorem below_ok (n : Nat) (hn : n ≤ 64) (w : World) : Calls Tryz.prog 99 #[.int .i64 (n : Int)] w fun e w' => e = .returned (.int .u64 (un (belowB n))) ∧ w = w' := by
  go_enter Tryz.func99, Tryz.ntmps99
  go_wp2
  go_ret
  exact ⟨rfl, rfl⟩
set_option maxHeartbeats 400000 in
theorem Below_ok (n : Nat) (hn : n ≤ 64) (w : World) : Calls Tryz.prog 63 #[.int .i64 (n : Int)] w fun e w' => e = .returned (.tuple #[.int .u64 (un (belowB n)), .int .i64 0]) ∧ w = w' := by
  go_enter Tryz.func63, Tryz.ntmps63
  go_wp2_with (go_at_call 99; refine (below_ok _ hn _).mono ?_; rintro e w' ⟨rfl, rfl⟩)
  go_ret2
  exact ⟨rfl, rfl⟩
end Go.Proofs.YtoiolepengcagaaGreatDoor
namespace Go.Proofs.YtoiolepengcagaaGreatDoor
theorem and8 (a a' m m' : Nat) (ha : a < 256) (hm : m < 256) : (a + 256 * a') &&& (m + 256 * m') = (a &&& m) + 256 * (a' &&& m') := by
  have h := @Nat.and_div_two_pow (a + 256 * a') (m + 256 * m') 8
  have h2 := @Nat.and_mod_two_pow (a + 256 * a') (m + 256 * m') 8
  have e1 : (a + 256 * a') / 2 ^ 8 = a' := by omega
  have e2 : (m + 256 * m') / 2 ^ 8 = m' := by omega
  have e3 : (a + 256 * a') % 2 ^ 8 = a := by omega
  have e4 : (m + 256 * m') % 2 ^ 8 = m := by omega
  rw [e1, e2] at h
  rw [e3, e4] at h2
  omega
def mask (m : Nat) : Nat → Nat
  | 0 => 0
  | n + 1 => m + 256 * mask m n
theorem mask_succ (m n : Nat) : mask m (n + 1) = m + 256 * mask m n := rfl
def pA (n x : Nat) : Nat := (x / 2 &&& mask 0x55 n) + (x &&& mask 0x55 n)
def pB (n x : Nat) : Nat := (x / 4 &&& mask 0x33 n) + (x &&& mask 0x33 n)
def pC (n x : Nat) : Nat := (x / 16 + x) &&& mask 0x0f n
def a1 (b : Nat) : Nat := (b / 2 &&& 0x55) + (b &&& 0x55)
def b1 (b : Nat) : Nat := (b / 4 &&& 0x33) + (b &&& 0x33)
def p8 (b : Nat) : Nat := (b1 (a1 b) / 16 + b1 (a1 b)) &&& 15
theorem a1_lt : ∀ b, b < 256 → a1 b < 256 := by decide +kernel
theorem b1_lt : ∀ b, b < 256 → b1 (a1 b) < 69 ∧ b1 (a1 b) % 16 ≤ 4 := by decide +kernel
theorem f1 : ∀ b, b < 256 → ∀ c, c < 2 → (b / 2 + 128 * c) &&& 0x55 = b / 2 &&& 0x55 := by decide +kernel
theorem f2 : ∀ b, b < 256 → ∀ c, c < 4 → (b / 4 + 64 * c) &&& 0x33 = b / 4 &&& 0x33 := by decide +kernel
theorem f3 : ∀ b, b < 69 → ∀ c, c < 5 → (b / 16 + b + 16 * c) &&& 15 = (b / 16 + b) &&& 15 := by decide +kernel
theorem pA_step (n b x : Nat) (hb : b < 256) : pA (n + 1) (b + 256 * x) = a1 b + 256 * pA n x := by
  unfold pA a1; rw [mask_succ]
  have e : (b + 256 * x) / 2 = (b / 2 + 128 * (x % 2)) + 256 * (x / 2) := by omega
  rw [e, and8 _ _ _ _ (by omega) (by omega), and8 _ _ _ _ (by omega) (by omega), f1 b hb _ (by omega)]
  omega
theorem pB_step (n b x : Nat) (hb : b < 256) : pB (n + 1) (b + 256 * x) = b1 b + 256 * pB n x := by
  unfold pB b1; rw [mask_succ]
  have e : (b + 256 * x) / 4 = (b / 4 + 64 * (x % 4)) + 256 * (x / 4) := by omega
  rw [e, and8 _ _ _ _ (by omega) (by omega), and8 _ _ _ _ (by omega) (by omega), f2 b hb _ (by omega)]
  omega
theorem pC_step (n b x : Nat) (hb : b < 69) (hx : x % 16 ≤ 4) : pC (n + 1) (b + 256 * x) = ((b / 16 + b) &&& 15) + 256 * pC n x := by
  unfold pC; rw [mask_succ]
  have e : (b + 256 * x) / 16 + (b + 256 * x) = (b / 16 + b + 16 * (x % 16)) + 256 * (x / 16 + x) := by omega
  rw [e, and8 _ _ _ _ (by omega) (by omega), f3 b hb _ (by omega)]
def map8 : Nat → Nat → Nat
  | 0, _ => 0
  | n + 1, x => p8 (x % 256) + 256 * map8 n (x / 256)
theorem pABC (n x : Nat) : pC n (pB n (pA n x)) = map8 n x ∧ pB n (pA n x) % 16 ≤ 4 := by
  induction n generalizing x with
  | zero => simp [pC, mask, map8, pB]
  | succ n ih =>
    obtain ⟨i1, i2⟩ := ih (x / 256)
    have hb : x % 256 < 256 := by omega
    have e : x = x % 256 + 256 * (x / 256) := by omega
    have h1 := b1_lt _ hb
    have e1 : pB (n + 1) (pA (n + 1) x) = b1 (a1 (x % 256)) + 256 * pB n (pA n (x / 256)) := by
      conv => lhs; rw [e]
      rw [pA_step _ _ _ hb, pB_step _ _ _ (a1_lt _ hb)]
    refine ⟨?_, by omega⟩
    rw [e1, pC_step _ _ _ h1.1 i2, i1]
    rfl
/-- the number of ones among the low n bits -/
def pop : Nat → Nat → Nat
  | 0, _ => 0
  | n + 1, s => s % 2 + pop n (s / 2)
theorem pop_succ (n s : Nat) : pop (n + 1) s = s % 2 + pop n (s / 2) := rfl
theorem p8_pop : ∀ b, b < 256 → p8 b = pop 8 b := by decide +kernel
theorem p8_le : ∀ b, b < 256 → p8 b ≤ 8 := by decide +kernel
theorem pop_add (a b x : Nat) : pop (a + b) x = pop a x + pop b (x / 2 ^ a) := by
  induction a generalizing x with
  | zero => simp [pop]
  | succ a ih =>
    have : a + 1 + b = (a + b) + 1 := by omega
    rw [this, pop_succ, pop_succ, ih, Nat.div_div_eq_div_mul, Nat.pow_succ, Nat.mul_comm 2]
    omega
theorem pop_mod (a b x : Nat) (h : a ≤ b) : pop a (x % 2 ^ b) = pop a x := by
  induction a generalizing x b with
  | zero => rfl
  | succ a ih =>
    obtain ⟨c, rfl⟩ : ∃ c, b = c + 1 := ⟨b - 1, by omega⟩
    rw [pop_succ, pop_succ]
    have e1 : x % 2 ^ (c + 1) % 2 = x % 2 := Nat.mod_mod_of_dvd _ (by rw [Nat.pow_succ]; exact Nat.dvd_mul_left _ _)
    have e2 : x % 2 ^ (c + 1) / 2 = x / 2 % 2 ^ c := by
      rw [Nat.pow_succ, Nat.mul_comm, Nat.mod_mul_right_div_self]
    rw [e1, e2, ih c _ (by omega)]
theorem pop_byte (n x : Nat) : pop (8 + n) x = p8 (x % 256) + pop n (x / 256) := by
  rw [pop_add, p8_pop _ (by omega), ← pop_mod 8 8 x (by omega)]
def onesGo (x : Nat) : Nat :=
  let y := pC 8 (pB 8 (pA 8 x))
  let y1 := y + y / 256
  let y2 := y1 + y1 / 65536
  let y3 := y2 + y2 / 4294967296
  y3 % 128
theorem div1 (p y : Nat) (h : p < 256) : (p + 256 * y) / 256 = y := by omega
theorem div2 (p q y : Nat) (h : p < 256) (h1 : q < 256) : (p + 256 * (q + 256 * y)) / 65536 = y := by omega
theorem div4 (p q r t y : Nat) (h : p < 256) (h1 : q < 256) (h2 : r < 256) (h3 : t < 256) : (p + 256 * (q + 256 * (r + 256 * (t + 256 * y)))) / 4294967296 = y := by omega
theorem add8 (a b c d e f g h i j k l m n : Nat) : a + 256 * (b + 256 * (c + 256 * (d + 256 * (e + 256 * (f + 256 * (g + 256 * h)))))) + (i + 256 * (j + 256 * (k + 256 * (l + 256 * (m + 256 * n))))) =
    (a + i) + 256 * ((b + j) + 256 * ((c + k) + 256 * ((d + l) + 256 * ((e + m) + 256 * ((f + n) + 256 * (g + 256 * h)))))) := by omega
theorem last (p0 p1 p2 p3 p4 p5 p6 p7 : Nat) (g0 : p0 ≤ 8) (g1 : p1 ≤ 8) (g2 : p2 ≤ 8) (g3 : p3 ≤ 8) (g4 : p4 ≤ 8) (g5 : p5 ≤ 8) (g6 : p6 ≤ 8) (g7 : p7 ≤ 8) :
    (p0 + 256 * (p1 + 256 * (p2 + 256 * (p3 + 256 * (p4 + 256 * (p5 + 256 * (p6 + 256 * (p7 + 256 * 0))))))) +
          (p0 + 256 * (p1 + 256 * (p2 + 256 * (p3 + 256 * (p4 + 256 * (p5 + 256 * (p6 + 256 * (p7 + 256 * 0)))))))) / 256 +
        (p0 + 256 * (p1 + 256 * (p2 + 256 * (p3 + 256 * (p4 + 256 * (p5 + 256 * (p6 + 256 * (p7 + 256 * 0))))))) +
            (p0 + 256 * (p1 + 256 * (p2 + 256 * (p3 + 256 * (p4 + 256 * (p5 + 256 * (p6 + 256 * (p7 + 256 * 0)))))))) / 256) / 65536 +
      (p0 + 256 * (p1 + 256 * (p2 + 256 * (p3 + 256 * (p4 + 256 * (p5 + 256 * (p6 + 256 * (p7 + 256 * 0))))))) +
            (p0 + 256 * (p1 + 256 * (p2 + 256 * (p3 + 256 * (p4 + 256 * (p5 + 256 * (p6 + 256 * (p7 + 256 * 0)))))))) / 256 +
          (p0 + 256 * (p1 + 256 * (p2 + 256 * (p3 + 256 * (p4 + 256 * (p5 + 256 * (p6 + 256 * (p7 + 256 * 0))))))) +
              (p0 + 256 * (p1 + 256 * (p2 + 256 * (p3 + 256 * (p4 + 256 * (p5 + 256 * (p6 + 256 * (p7 + 256 * 0)))))))) / 256) / 65536) / 4294967296) % 128 =
    p0 + (p1 + (p2 + (p3 + (p4 + (p5 + (p6 + (p7 + 0))))))) := by
  rw [div1 p0 _ (by omega)]
  rw [show p0 + 256 * (p1 + 256 * (p2 + 256 * (p3 + 256 * (p4 + 256 * (p5 + 256 * (p6 + 256 * (p7 + 256 * 0))))))) + (p1 + 256 * (p2 + 256 * (p3 + 256 * (p4 + 256 * (p5 + 256 * (p6 + 256 * (p7 + 256 * 0))))))) =
    (p0 + p1) + 256 * ((p1 + p2) + 256 * ((p2 + p3) + 256 * ((p3 + p4) + 256 * ((p4 + p5) + 256 * ((p5 + p6) + 256 * ((p6 + p7) + 256 * p7)))))) by omega]
  rw [div2 _ _ _ (by omega) (by omega), add8]
  rw [div4 _ _ _ _ _ (by omega) (by omega) (by omega) (by omega)]
  generalize 256 * ((p6 + p7) + 256 * p7) = z
  omega
theorem ones_eq (x : Nat) : onesGo x = pop 64 x := by
  unfold onesGo
  rw [(pABC 8 x).1]
  have h : ∀ k, p8 (x / 256 ^ k % 256) ≤ 8 := fun k => p8_le _ (by omega)
  have e : pop 64 x = p8 (x % 256) + (p8 (x / 256 % 256) + (p8 (x / 256 / 256 % 256) + (p8 (x / 256 / 256 / 256 % 256) + (p8 (x / 256 / 256 / 256 / 256 % 256) + (p8 (x / 256 / 256 / 256 / 256 / 256 % 256) + (p8 (x / 256 / 256 / 256 / 256 / 256 / 256 % 256) + (p8 (x / 256 / 256 / 256 / 256 / 256 / 256 / 256 % 256) + 0))))))) := by
    rw [show (64 : Nat) = 8 + (8 + (8 + (8 + (8 + (8 + (8 + (8 + 0))))))) from rfl]
    simp only [pop_byte]
    rfl
  rw [e]
  simp only [map8]
  have g0 := p8_le (x % 256) (by omega)
  have g1 := p8_le (x / 256 % 256) (by omega)
  have g2 := p8_le (x / 256 / 256 % 256) (by omega)
  have g3 := p8_le (x / 256 / 256 / 256 % 256) (by omega)
  have g4 := p8_le (x / 256 / 256 / 256 / 256 % 256) (by omega)
  have g5 := p8_le (x / 256 / 256 / 256 / 256 / 256 % 256) (by omega)
  have g6 := p8_le (x / 256 / 256 / 256 / 256 / 256 / 256 % 256) (by omega)
  have g7 := p8_le (x / 256 / 256 / 256 / 256 / 256 / 256 / 256 % 256) (by omega)
  generalize p8 (x % 256) = p0 at *
  generalize p8 (x / 256 % 256) = p1 at *
  generalize p8 (x / 256 / 256 % 256) = p2 at *
  generalize p8 (x / 256 / 256 / 256 % 256) = p3 at *
  generalize p8 (x / 256 / 256 / 256 / 256 % 256) = p4 at *
  generalize p8 (x / 256 / 256 / 256 / 256 / 256 % 256) = p5 at *
  generalize p8 (x / 256 / 256 / 256 / 256 / 256 / 256 % 256) = p6 at *
  generalize p8 (x / 256 / 256 / 256 / 256 / 256 / 256 / 256 % 256) = p7 at *
  exact last p0 p1 p2 p3 p4 p5 p6 p7 g0 g1 g2 g3 g4 g5 g6 g7

/-- how many numbers a set has -/
def cnt (s : B) : Nat := pop 64 (un s)
theorem pop_le (n x : Nat) : pop n x ≤ n := by
  induction n generalizing x with
  | zero => simp [pop]
  | succ n ih => rw [pop_succ]; have := ih (x / 2); omega
theorem cnt_le (s : B) : cnt s ≤ 64 := pop_le _ _
theorem cnt_eq (s : B) : cnt s = pop 64 (un s) := rfl
attribute [irreducible] cnt
end Go.Proofs.YtoiolepengcagaaGreatDoor
namespace Go.Proofs.YtoiolepengcagaaGreatDoor
def has (s : B) (n : Nat) : Bool := s.getLsbD n
theorem has_lt {s : B} {n : Nat} (h : has s n = true) : n < 64 := BitVec.lt_of_getLsbD h
theorem set_ext {s t : B} (h : ∀ n, n < 64 → has s n = has t n) : s = t := BitVec.eq_of_getLsbD_eq h
theorem has_un (s : B) (n : Nat) : has s n = (un s).testBit n := rfl
/-- the numbers of a set, rising -/
def lst (s : B) : List Nat := (List.range 64).filter (has s)
theorem mem_lst {s : B} {n : Nat} : n ∈ lst s ↔ has s n = true := by
  unfold lst; rw [List.mem_filter, List.mem_range]
  exact ⟨fun h => h.2, fun h => ⟨has_lt h, h⟩⟩
theorem lst_zero : lst 0#64 = [] := by
  unfold lst; rw [List.filter_eq_nil_iff]; intro a _; simp [has]
def low (s : B) : Nat := Lib.ctz 64 (un s)
theorem low_spec {s : B} (h : s ≠ 0#64) : ∃ m, un s = 2 ^ low s * (2 * m + 1) ∧ low s < 64 := by
  have h0 : un s ≠ 0 := fun e => h (un_inj (by rw [e]; rfl))
  obtain ⟨m, hm, hk⟩ := Lib.ctzFrom_spec 64 (un s) (by omega) (un_lt s)
  have e : low s = Lib.ctzFrom 64 (un s) := by simp [low, Lib.ctz, h0]
  rw [e]; exact ⟨m, hm, hk⟩
theorem testBit_odd (k m j : Nat) : (2 ^ k * (2 * m + 1)).testBit j = (decide (j = k) || (2 ^ (k + 1) * m).testBit j) := by
  have e : 2 ^ k * (2 * m + 1) = 2 ^ (k + 1) * m + 2 ^ k := by rw [Nat.pow_succ, Nat.mul_add, Nat.mul_assoc]; omega
  rw [e, Nat.two_pow_add_eq_or_of_lt (Nat.pow_lt_pow_right (by omega) (by omega)), Nat.testBit_or, Nat.testBit_two_pow]
  by_cases h : k = j <;> simp [h, Bool.or_comm, eq_comm]
theorem has_low {s : B} (h : s ≠ 0#64) : has s (low s) = true := by
  obtain ⟨m, hm, _⟩ := low_spec h
  rw [has_un, hm, testBit_odd]; simp
theorem low_least {s : B} (h : s ≠ 0#64) {j : Nat} (hj : j < low s) : has s j = false := by
  obtain ⟨m, hm, _⟩ := low_spec h
  rw [has_un, hm, Nat.testBit_two_pow_mul]
  simp; omega
/-- the set without its least number -/
theorem has_drop {s : B} (h : s ≠ 0#64) (j : Nat) : has (s &&& (s - 1#64)) j = (has s j && decide (j ≠ low s)) := by
  obtain ⟨m, hm, hk⟩ := low_spec h
  have hp : 0 < 2 ^ low s := Nat.two_pow_pos _
  have e1 : (s - 1#64).toNat = un s - 1 := by
    rw [BitVec.toNat_sub_of_le]
    · rfl
    · rw [BitVec.le_def]; show 1 ≤ un s; rw [hm]; exact Nat.mul_pos hp (by omega)
  have e2 : un s - 1 = 2 ^ (low s + 1) * m + (2 ^ low s - 1) := by
    rw [hm, Nat.pow_succ, Nat.mul_add, Nat.mul_assoc]; omega
  show (s &&& (s - 1#64)).getLsbD j = _
  rw [BitVec.getLsbD_and, BitVec.getLsbD.eq_1 (s - 1#64), e1, e2, Nat.two_pow_add_eq_or_of_lt (by rw [Nat.pow_succ]; omega), Nat.testBit_or, Nat.testBit_two_pow_sub_one]
  show (has s j && _) = _
  rw [has_un, hm, testBit_odd]
  by_cases h1 : j = low s
  · subst h1; rw [Nat.testBit_two_pow_mul]; simp; intro hh; omega
  · rcases Nat.lt_or_ge j (low s) with h2 | h2
    · rw [Nat.testBit_two_pow_mul]; simp [h1]; omega
    · have h3 : ¬ j < low s := by omega
      simp [h1, h3]
theorem lst_step {s : B} (h : s ≠ 0#64) : lst s = low s :: lst (s &&& (s - 1#64)) := by
  have hl := has_lt (has_low h)
  have e : List.range 64 = List.range (low s) ++ low s :: (List.range (63 - low s)).map (· + (low s + 1)) := by
    have : 64 = low s + (1 + (63 - low s)) := by omega
    rw [this, List.range_add, List.range_add]
    simp [List.range_succ, Function.comp_def]
    omega
  unfold lst
  rw [e, List.filter_append, List.filter_append]
  have e1 : (List.range (low s)).filter (has s) = [] := by
    rw [List.filter_eq_nil_iff]; intro a ha; rw [low_least h (by simpa using ha)]; simp
  have e2 : (List.range (low s)).filter (has (s &&& (s - 1#64))) = [] := by
    rw [List.filter_eq_nil_iff]; intro a ha; rw [has_drop h, low_least h (by simpa using ha)]; simp
  rw [e1, e2, List.filter_cons_of_pos (has_low h), List.filter_cons_of_neg (by rw [has_drop h]; simp)]
  simp only [List.nil_append]
  congr 1
  apply List.filter_congr
  intro x hx
  rw [has_drop h]
  simp at hx
  obtain ⟨a, _, rfl⟩ := hx
  have : a + (low s + 1) ≠ low s := by omega
  simp [this]

theorem pop_range (n x : Nat) : pop n x = ((List.range n).filter x.testBit).length := by
  induction n generalizing x with
  | zero => rfl
  | succ n ih =>
    rw [pop_succ, List.range_succ_eq_map, List.filter_cons, ih (x / 2), List.filter_map]
    have e : (x.testBit ∘ Nat.succ) = (x / 2).testBit := by
      funext i; simp [Nat.testBit_succ]
    rw [e]
    have h0 : x.testBit 0 = decide (x % 2 = 1) := Nat.testBit_zero x
    rcases Nat.mod_two_eq_zero_or_one x with h | h <;> simp [h0, h]; omega
theorem cnt_lst (s : B) : cnt s = (lst s).length := by
  rw [cnt_eq, pop_range]; rfl
theorem lst_sorted (s : B) : (lst s).Pairwise (· < ·) := List.Pairwise.filter _ List.pairwise_lt_range
theorem lst_lt {s : B} {n : Nat} (h : n ∈ lst s) : n < 64 := has_lt (mem_lst.1 h)
theorem lst_len (s : B) : (lst s).length ≤ 64 := by rw [← cnt_lst]; exact cnt_le s
theorem has_below (m n : Nat) (hn : n < 64) : has (belowB m) n = decide (n < m) := by
  unfold has belowB
  rcases Nat.lt_or_ge m 64 with h | h
  · have hp : 2 ^ m < 2 ^ 64 := Nat.pow_lt_pow_right (by omega) h
    have hq : 0 < 2 ^ m := Nat.two_pow_pos m
    have e : ((1#64 <<< m) - 1#64).toNat = 2 ^ m - 1 := by
      rw [BitVec.toNat_sub_of_le]
      · rw [BitVec.toNat_shiftLeft, Nat.shiftLeft_eq, Nat.mod_eq_of_lt (by simpa using hp)]; simp
      · rw [BitVec.le_def, BitVec.toNat_shiftLeft, Nat.shiftLeft_eq, Nat.mod_eq_of_lt (by simpa using hp)]; simp; omega
    rw [← BitVec.testBit_toNat, e, Nat.testBit_two_pow_sub_one]
  · have e : 1#64 <<< m = 0#64 := by
      apply BitVec.eq_of_getLsbD_eq; intro i hi; simp; omega
    have e2 : (0#64 - 1#64 : B) = BitVec.allOnes 64 := by decide
    rw [e, e2, BitVec.getLsbD_allOnes]
    have : n < m := by omega
    simp [this, hn]
/-- those from m on -/
def frm (s : B) (m : Nat) : B := s &&& ~~~belowB m
theorem has_and (s t : B) (n : Nat) : has (s &&& t) n = (has s n && has t n) := BitVec.getLsbD_and
theorem has_or (s t : B) (n : Nat) : has (s ||| t) n = (has s n || has t n) := BitVec.getLsbD_or
theorem has_not (s : B) (n : Nat) (hn : n < 64) : has (~~~s) n = !has s n := by unfold has; rw [BitVec.getLsbD_not]; simp [hn]
theorem has_ge {s : B} {n : Nat} (h : 64 ≤ n) : has s n = false := BitVec.getLsbD_of_ge _ _ h
theorem has_frm (s : B) (m n : Nat) : has (frm s m) n = (has s n && decide (m ≤ n)) := by
  unfold frm
  rw [has_and]
  rcases Nat.lt_or_ge n 64 with h | h
  · rw [has_not _ _ h, has_below m n h]
    by_cases h2 : n < m
    · have : ¬ m ≤ n := by omega
      simp [h2, this]
    · have : m ≤ n := by omega
      simp [h2, this]
  · rw [has_ge h]; simp
theorem has_zero (n : Nat) : has 0#64 n = false := by simp [has]
theorem eq_zero_iff {s : B} : s = 0#64 ↔ ∀ n, has s n = false :=
  ⟨fun h n => by rw [h, has_zero], fun h => set_ext fun n _ => by rw [h, has_zero]⟩
theorem exists_of_ne {s : B} (h : s ≠ 0#64) : ∃ n, has s n = true := ⟨low s, has_low h⟩
/-- the number of those below m -/
def rnk (s : B) (m : Nat) : Nat := cnt (s &&& belowB m)
theorem lst_and_below (s : B) (m : Nat) : lst (s &&& belowB m) = (lst s).filter (fun n => decide (n < m)) := by
  unfold lst
  rw [List.filter_filter]
  apply List.filter_congr
  intro x hx
  rw [has_and, has_below m x (by simpa using hx), Bool.and_comm]
theorem rnk_eq (s : B) (m : Nat) : rnk s m = ((lst s).filter (fun n => decide (n < m))).length := by
  unfold rnk; rw [cnt_lst, lst_and_below]
theorem sorted_filter (l : List Nat) (h : l.Pairwise (· < ·)) (k : Nat) (hk : k < l.length) : (l.filter (fun n => decide (n < l[k]))).length = k := by
  induction l generalizing k with
  | nil => simp at hk
  | cons a l ih =>
    rw [List.pairwise_cons] at h
    cases k with
    | zero =>
      simp only [List.getElem_cons_zero]
      have e : List.filter (fun n => decide (n < a)) (a :: l) = [] := by
        rw [List.filter_eq_nil_iff]
        intro x hx
        rcases List.mem_cons.1 hx with rfl | hx
        · simp
        · have := h.1 x hx; simp; omega
      rw [e]; rfl
    | succ k =>
      simp only [List.getElem_cons_succ]
      have hk' : k < l.length := by simpa using hk
      have ha : a < l[k] := h.1 _ (List.getElem_mem hk')
      rw [List.filter_cons_of_pos (by simpa using ha)]
      simp [ih h.2 k hk']
theorem rnk_nth (s : B) (k : Nat) (hk : k < (lst s).length) : rnk s (lst s)[k] = k := by
  rw [rnk_eq]; exact sorted_filter _ (lst_sorted s) k hk
theorem rnk_le (s : B) (m : Nat) : rnk s m ≤ cnt s := by rw [rnk_eq, cnt_lst]; exact List.length_filter_le _ _
theorem rnk_lt_iff (s : B) (m : Nat) : rnk s m < cnt s ↔ frm s m ≠ 0#64 := by
  rw [rnk_eq, cnt_lst]
  constructor
  · intro h h0
    have : (lst s).filter (fun n => decide (n < m)) = lst s := by
      rw [List.filter_eq_self]
      intro a ha
      have h1 := eq_zero_iff.1 h0 a
      rw [has_frm, mem_lst.1 ha] at h1
      simp at h1
      simpa using h1
    rw [this] at h; omega
  · intro h
    obtain ⟨n, hn⟩ := exists_of_ne h
    rw [has_frm] at hn
    simp at hn
    rcases Nat.lt_or_ge ((lst s).filter (fun n => decide (n < m))).length (lst s).length with h1 | h1
    · exact h1
    · have h2 : (lst s).filter (fun n => decide (n < m)) = lst s := List.filter_eq_self.2 (by
        have := List.length_filter_eq_length_iff (p := fun n => decide (n < m)) (l := lst s)
        exact this.1 (Nat.le_antisymm (List.length_filter_le _ _) h1))
      have h3 := List.filter_eq_self.1 h2 n (mem_lst.2 hn.1)
      simp at h3; omega
/-- the least from m on: it is there, and none lies between -/
theorem low_frm {s : B} {m : Nat} (h : frm s m ≠ 0#64) : has s (low (frm s m)) = true ∧ m ≤ low (frm s m) ∧ (∀ j, m ≤ j → j < low (frm s m) → has s j = false) ∧ low (frm s m) < 64 := by
  have h1 := has_low h
  rw [has_frm] at h1
  simp at h1
  refine ⟨h1.1, h1.2, fun j hj hlt => ?_, has_lt h1.1⟩
  have := low_least h hlt
  rw [has_frm] at this
  simpa [hj] using this
theorem low_frm_self {s : B} {n : Nat} (h : has s n = true) : frm s n ≠ 0#64 ∧ low (frm s n) = n := by
  have h0 : frm s n ≠ 0#64 := by
    intro h0
    have := eq_zero_iff.1 h0 n
    rw [has_frm, h] at this; simp at this
  obtain ⟨h1, h2, h3, _⟩ := low_frm h0
  refine ⟨h0, ?_⟩
  rcases Nat.lt_or_ge n (low (frm s n)) with h4 | h4
  · have := h3 n (Nat.le_refl _) h4; rw [h] at this; cases this
  · omega
theorem rnk_low {s : B} {m : Nat} (h : frm s m ≠ 0#64) : rnk s (low (frm s m)) = rnk s m := by
  obtain ⟨h1, h2, h3, _⟩ := low_frm h
  rw [rnk_eq, rnk_eq]
  congr 1
  apply List.filter_congr
  intro x hx
  have hx' := mem_lst.1 hx
  by_cases hm : x < m
  · have : x < low (frm s m) := by omega
    simp [hm, this]
  · have : ¬ x < low (frm s m) := fun hc => by have := h3 x (by omega) hc; rw [hx'] at this; cases this
    simp [hm, this]
end Go.Proofs.YtoiolepengcagaaGreatDoor
namespace Go.Proofs.YtoiolepengcagaaGreatDoor
theorem has_one (x n : Nat) (hn : n < 64) : has (1#64 <<< x) n = decide (n = x) := by
  unfold has
  rw [BitVec.getLsbD_shiftLeft]
  by_cases h : n = x
  · subst h; simp [hn]
  · by_cases h2 : n < x
    · simp [h, h2]
    · have h3 : n - x ≠ 0 := by omega
      simp [h, h2]
      intro _ h4
      have : n - x < 1 := by
        rcases Nat.lt_or_ge (n - x) 1 with h5 | h5
        · exact h5
        · exfalso; revert h4; simp; omega
      omega
theorem has_ofL (xs : List Nat) (n : Nat) (hn : n < 64) : has (ofL xs) n = decide (n ∈ xs) := by
  unfold ofL
  suffices h : ∀ (xs : List Nat) (s : B), has (xs.foldl (fun s x => s ||| 1#64 <<< x) s) n = (has s n || decide (n ∈ xs)) by
    rw [h, has_zero]; simp
  intro xs
  induction xs with
  | nil => intro s; simp
  | cons x xs ih =>
    intro s
    rw [List.foldl_cons, ih, has_or, has_one x n hn]
    by_cases h1 : n = x <;> by_cases h2 : n ∈ xs <;> simp [h1, h2]
theorem ofL_lst (s : B) : ofL (lst s) = s := set_ext fun n hn => by
  rw [has_ofL _ _ hn]
  by_cases h : has s n = true
  · rw [h]; simpa using mem_lst.2 h
  · have : n ∉ lst s := fun hc => h (mem_lst.1 hc)
    simp [this]
    simpa using h
end Go.Proofs.YtoiolepengcagaaGreatDoor
namespace Go.Proofs.YtoiolepengcagaaGreatDoor
/-- row n, none if there is none -/
def row (r : List B) (n : Nat) : B := r.getD n 0#64
theorem row_lt {r : List B} {n k : Nat} (h : has (row r n) k = true) : n < r.length := by
  rcases Nat.lt_or_ge n r.length with h1 | h1
  · exact h1
  · unfold row at h
    rw [List.getD_eq_getElem?_getD, List.getElem?_eq_none h1] at h
    simp [has] at h
/-- all of a set are numbers of rows -/
def inB (n : Nat) (s : B) : Bool := decide (s &&& ~~~belowB n = 0#64)
theorem inB_iff {n : Nat} {s : B} : inB n s = true ↔ ∀ k, has s k = true → k < n := by
  unfold inB
  rw [decide_eq_true_iff, eq_zero_iff]
  constructor
  · intro h k hk
    have h1 := h k
    rw [has_and, hk, has_not _ _ (has_lt hk), has_below _ _ (has_lt hk)] at h1
    simpa using h1
  · intro h k
    rw [has_and]
    by_cases hk : has s k = true
    · rw [has_not _ _ (has_lt hk), has_below _ _ (has_lt hk)]
      simp [h k hk]
    · have : has s k = false := by simpa using hk
      simp [this]
def okSets (n : Nat) (ss : List B) : Bool := ss.all (inB n)
def chkN (n : Nat) (ss : List B) : Int := if okSets n ss = true then 0 else 4
def chkR (r : List B) : Int := if 64 < r.length then 2 else chkN r.length r
def chks (r ss : List B) : Int := if chkR r ≠ 0 then chkR r else chkN r.length ss
/-- the rows are a graph -/
def Valid (r : List B) : Prop := r.length ≤ 64 ∧ ∀ i k, has (row r i) k = true → k < r.length
theorem okSets_rows {r : List B} : okSets r.length r = true ↔ ∀ i k, has (row r i) k = true → k < r.length := by
  unfold okSets
  rw [List.all_eq_true]
  constructor
  · intro h i k hk
    have hi := row_lt hk
    have e : row r i = r[i] := by unfold row; simp [hi]
    exact inB_iff.1 (h _ (List.getElem_mem hi)) k (by rw [← e]; exact hk)
  · intro h s hs
    obtain ⟨i, hi, rfl⟩ := List.mem_iff_getElem.1 hs
    refine inB_iff.2 fun k hk => h i k ?_
    have e : row r i = r[i] := by unfold row; simp [hi]
    rw [e]; exact hk
theorem chkR_zero {r : List B} : chkR r = 0 ↔ Valid r := by
  unfold chkR chkN Valid
  rw [← okSets_rows]
  by_cases h : 64 < r.length
  · simp [h]; omega
  · by_cases h2 : okSets r.length r = true <;> simp [h, h2]; omega
theorem chks_zero {r ss : List B} : chks r ss = 0 ↔ Valid r ∧ ∀ s ∈ ss, ∀ k, has s k = true → k < r.length := by
  unfold chks
  have hs : okSets r.length ss = true ↔ ∀ s ∈ ss, ∀ k, has s k = true → k < r.length := by
    unfold okSets; rw [List.all_eq_true]
    exact ⟨fun h s hs => inB_iff.1 (h s hs), fun h s hs => inB_iff.2 (h s hs)⟩
  rw [← hs, ← chkR_zero]
  by_cases h : chkR r = 0
  · unfold chkN
    by_cases h2 : okSets r.length ss = true <;> simp [h, h2]
  · simp [h]
/-- one step from a set -/
def stp (r : List B) (s : B) : B := (lst s).foldl (fun a n => a ||| row r n) 0#64
theorem has_foldl (f : Nat → B) (l : List Nat) (a : B) (k : Nat) : has (l.foldl (fun a n => a ||| f n) a) k = true ↔ has a k = true ∨ ∃ n ∈ l, has (f n) k = true := by
  induction l generalizing a with
  | nil => simp
  | cons x l ih =>
    rw [List.foldl_cons, ih, has_or]
    simp only [Bool.or_eq_true, List.mem_cons]
    constructor
    · rintro ((h | h) | ⟨n, hn, h⟩)
      · exact .inl h
      · exact .inr ⟨x, .inl rfl, h⟩
      · exact .inr ⟨n, .inr hn, h⟩
    · rintro (h | ⟨n, rfl | hn, h⟩)
      · exact .inl (.inl h)
      · exact .inl (.inr h)
      · exact .inr ⟨n, hn, h⟩
theorem has_stp {r : List B} {s : B} {k : Nat} : has (stp r s) k = true ↔ ∃ n, has s n = true ∧ has (row r n) k = true := by
  unfold stp
  rw [has_foldl, has_zero]
  constructor
  · rintro (h | ⟨n, hn, h⟩)
    · cases h
    · exact ⟨n, mem_lst.1 hn, h⟩
  · rintro ⟨n, hn, h⟩
    exact .inr ⟨n, mem_lst.2 hn, h⟩
theorem eq_of_iff {s t : B} (h : ∀ k, has s k = true ↔ has t k = true) : s = t := set_ext fun k _ => by
  have := h k
  cases h1 : has s k <;> cases h2 : has t k <;> simp [h1, h2] at this <;> rfl
/-- within so many steps -/
def ball (r : List B) : Nat → B → B
  | 0, s => s
  | k + 1, s => ball r k s ||| stp r (ball r k s)
theorem has_ball_succ {r : List B} {i : Nat} {s : B} {k : Nat} : has (ball r (i + 1) s) k = true ↔ has (ball r i s) k = true ∨ ∃ n, has (ball r i s) n = true ∧ has (row r n) k = true := by
  show has (ball r i s ||| stp r (ball r i s)) k = true ↔ _
  rw [has_or, Bool.or_eq_true, has_stp]
theorem ball_add (r : List B) (i k : Nat) (s : B) : ball r k (ball r i s) = ball r (i + k) s := by
  induction k with
  | zero => rfl
  | succ k ih =>
    show ball r k (ball r i s) ||| stp r (ball r k (ball r i s)) = ball r (i + k + 1) s
    rw [ih]; rfl
theorem ball_mono {r : List B} {i j : Nat} (h : i ≤ j) {s : B} {k : Nat} (hk : has (ball r i s) k = true) : has (ball r j s) k = true := by
  induction j with
  | zero => have : i = 0 := by omega
            subst this; exact hk
  | succ j ih =>
    rcases Nat.lt_or_ge i (j + 1) with h1 | h1
    · exact has_ball_succ.2 (.inl (ih (by omega)))
    · have : i = j + 1 := by omega
      subst this; exact hk
theorem ball_self {r : List B} (i : Nat) {s : B} {k : Nat} (hk : has s k = true) : has (ball r i s) k = true := ball_mono (i := 0) (Nat.zero_le _) hk
/-- closed: what any of it needs is in it -/
def Closed (r : List B) (x : B) : Prop := ∀ n k, has x n = true → has (row r n) k = true → has x k = true
theorem ball_least {r : List B} {s x : B} (hx : Closed r x) (hs : ∀ k, has s k = true → has x k = true) (i : Nat) (k : Nat) (h : has (ball r i s) k = true) : has x k = true := by
  induction i generalizing k with
  | zero => exact hs k h
  | succ i ih =>
    rcases has_ball_succ.1 h with h | ⟨n, hn, h⟩
    · exact ih k h
    · exact hx n k (ih n hn) h
theorem ball_stable {r : List B} {i : Nat} {s : B} (h : Closed r (ball r i s)) (j : Nat) (hj : i ≤ j) : ball r j s = ball r i s := by
  obtain ⟨d, rfl⟩ : ∃ d, j = i + d := ⟨j - i, by omega⟩
  rw [← ball_add]
  apply eq_of_iff
  intro k
  exact ⟨fun hk => ball_least h (fun _ hh => hh) d k hk, fun hk => ball_self d hk⟩
/-- each step that is not closed brings one more number -/
theorem cnt_lt_of {s t : B} (h : ∀ k, has s k = true → has t k = true) {x : Nat} (hx : has t x = true) (hs : has s x = false) : cnt s < cnt t := by
  rw [cnt_lst, cnt_lst]
  have hsub : lst s = (lst t).filter (has s) := by
    unfold lst
    rw [List.filter_filter]
    apply List.filter_congr
    intro k _
    cases h1 : has s k
    · simp
    · simp [h k h1]
  rw [hsub]
  rcases Nat.lt_or_ge ((lst t).filter (has s)).length (lst t).length with h1 | h1
  · exact h1
  · have h2 := List.length_filter_eq_length_iff.1 (Nat.le_antisymm (List.length_filter_le _ _) h1) x (mem_lst.2 hx)
    rw [hs] at h2; cases h2
theorem not_closed {r : List B} {i : Nat} {s : B} (h : ¬ Closed r (ball r i s)) : cnt (ball r i s) < cnt (ball r (i + 1) s) := by
  unfold Closed at h
  simp only [Classical.not_forall] at h
  obtain ⟨n, k, h1, h2, h3⟩ := h
  exact cnt_lt_of (fun k hk => has_ball_succ.2 (.inl hk)) (has_ball_succ.2 (.inr ⟨n, h1, h2⟩)) (by simpa using h3)
theorem ball_grow {r : List B} {i : Nat} {s : B} : (∃ j, j ≤ i ∧ Closed r (ball r j s)) ∨ cnt s + i + 1 ≤ cnt (ball r (i + 1) s) := by
  induction i with
  | zero =>
    by_cases h : Closed r (ball r 0 s)
    · exact .inl ⟨0, Nat.le_refl _, h⟩
    · right; have := not_closed h; show cnt s + 1 ≤ _; exact this
  | succ i ih =>
    rcases ih with ⟨j, hj, h⟩ | h
    · exact .inl ⟨j, by omega, h⟩
    · by_cases hc : Closed r (ball r (i + 1) s)
      · exact .inl ⟨i + 1, Nat.le_refl _, hc⟩
      · right; have := not_closed hc; omega
/-- all that is come to -/
def cls (r : List B) (s : B) : B := ball r 64 s
theorem cls_closed (r : List B) (s : B) : Closed r (cls r s) := by
  rcases @ball_grow r 64 s with ⟨j, hj, h⟩ | h
  · unfold cls; rw [ball_stable h 64 hj]; exact h
  · have := cnt_le (ball r (64 + 1) s); omega
theorem cls_eq {r : List B} {s : B} {i : Nat} (h : Closed r (ball r i s)) : cls r s = ball r i s := by
  unfold cls
  rcases Nat.lt_or_ge i 64 with h1 | h1
  · exact ball_stable h 64 (by omega)
  · exact (ball_stable (cls_closed r s) i h1).symm
theorem cls_self {r : List B} {s : B} {k : Nat} (h : has s k = true) : has (cls r s) k = true := ball_self _ h
theorem cls_least {r : List B} {s x : B} (hx : Closed r x) (hs : ∀ k, has s k = true → has x k = true) {k : Nat} (h : has (cls r s) k = true) : has x k = true := ball_least hx hs _ k h
theorem cls_idem (r : List B) (s : B) : cls r (cls r s) = cls r s := eq_of_iff fun _ => ⟨cls_least (cls_closed r s) (fun _ h => h), cls_self⟩
theorem cls_mono {r : List B} {s t : B} (h : ∀ k, has s k = true → has t k = true) {k : Nat} (hk : has (cls r s) k = true) : has (cls r t) k = true :=
  cls_least (cls_closed r t) (fun k hk => cls_self (h k hk)) hk
theorem cls_or (r : List B) (s t : B) : cls r (s ||| t) = cls r s ||| cls r t := by
  apply eq_of_iff
  intro k
  rw [has_or, Bool.or_eq_true]
  constructor
  · intro h
    have hc : Closed r (cls r s ||| cls r t) := by
      intro n k hn hr
      rw [has_or, Bool.or_eq_true] at hn ⊢
      rcases hn with hn | hn
      · exact .inl (cls_closed r s n k hn hr)
      · exact .inr (cls_closed r t n k hn hr)
    have := cls_least hc (fun k hk => by
      rw [has_or, Bool.or_eq_true] at hk ⊢
      rcases hk with hk | hk
      · exact .inl (cls_self hk)
      · exact .inr (cls_self hk)) h
    rwa [has_or, Bool.or_eq_true] at this
  · rintro (h | h)
    · exact cls_mono (fun k hk => by rw [has_or, hk]; rfl) h
    · exact cls_mono (fun k hk => by rw [has_or, hk]; simp) h
/-- the closure lies among the rows' numbers -/
theorem ball_in {r : List B} (hv : Valid r) {s : B} (hs : ∀ k, has s k = true → k < r.length) (i : Nat) (k : Nat) (h : has (ball r i s) k = true) : k < r.length := by
  induction i generalizing k with
  | zero => exact hs k h
  | succ i ih =>
    rcases has_ball_succ.1 h with h | ⟨n, _, h⟩
    · exact ih k h
    · exact hv.2 n k h
theorem cnt_le_of {s : B} {n : Nat} (h : ∀ k, has s k = true → k < n) : cnt s ≤ n := by
  have h1 : cnt s = rnk s n := by
    rw [rnk_eq, cnt_lst]
    congr 1
    symm
    rw [List.filter_eq_self]
    intro a ha
    simpa using h a (mem_lst.1 ha)
  rw [h1, rnk_eq]
  have h2 : ((lst s).filter (fun k => decide (k < n))) = (List.range 64).filter (fun k => decide (k < n) && has s k) := by
    unfold lst; rw [List.filter_filter]
  rw [h2]
  have h3 : ((List.range 64).filter (fun k => decide (k < n) && has s k)).length ≤ ((List.range 64).filter (fun k => decide (k < n))).length := by
    rw [← List.filter_filter, ]
    have : ((List.range 64).filter (has s)).filter (fun k => decide (k < n)) = ((List.range 64).filter (fun k => decide (k < n))).filter (has s) := by
      rw [List.filter_filter, List.filter_filter]
      apply List.filter_congr; intro x _; rw [Bool.and_comm]
    rw [this]
    exact List.length_filter_le _ _
  have h4 : ∀ m, ((List.range m).filter (fun k => decide (k < n))).length ≤ n := by
    intro m
    induction m with
    | zero => simp
    | succ m ih =>
      rw [List.range_succ, List.filter_append, List.length_append]
      by_cases hm : m < n
      · have : ((List.range m).filter (fun k => decide (k < n))).length ≤ m := by
          have := List.length_filter_le (fun k => decide (k < n)) (List.range m); simpa using this
        simp [hm]; omega
      · simp [hm]; exact ih
  exact Nat.le_trans h3 (h4 64)
/-- as many steps as there are rows come to all -/
theorem ball_rows {r : List B} (hv : Valid r) {s : B} (hs : ∀ k, has s k = true → k < r.length) : ball r r.length s = cls r s := by
  by_cases h0 : s = 0#64
  · subst h0
    have hc : Closed r (ball r 0 0#64) := by
      intro n k hn _
      have : has (0#64 : B) n = true := hn
      rw [has_zero] at this; cases this
    rw [cls_eq hc, ball_stable hc r.length (Nat.zero_le _)]
  · have h1 : 1 ≤ cnt s := by
      have := cnt_lt_of (s := 0#64) (t := s) (fun k hk => by rw [has_zero] at hk; cases hk) (has_low h0) (has_zero _)
      omega
    rcases @ball_grow r r.length s with ⟨j, hj, h⟩ | h
    · rw [cls_eq h, ball_stable h r.length hj]
    · have := cnt_le_of (ball_in hv hs (r.length + 1))
      omega
end Go.Proofs.YtoiolepengcagaaGreatDoor
