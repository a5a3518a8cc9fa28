/- The walks through glob.odd and glob.class. Conditions: none. -/
import Derived.Test.YtcgimnokdicmcaaPieceW
import Derived.Test.YtcgimnokdicmcaaStr
import Derived.Test.YtcgimnokdicmcaaShelf
import Derived.Deep.QuietTactic
import Derived.BigQuiet
namespace Go.Proofs.Ytcgimnokdicmcaa
open Go.RowKit
theorem odd_mem (c : UInt8) : decide (0 ≤ Lib.indexByte [91, 93, 92, 45, 33] c) = oddC c := by
  have h := (indexByte_ge [91, 93, 92, 45, 33] c).2
  unfold oddC
  rw [Bool.eq_iff_iff]
  simp only [decide_eq_true_eq, h, List.mem_cons, List.not_mem_nil, or_false, Bool.or_eq_true, beq_iff_eq]
  constructor
  · rintro (h | h | h | h | h) <;> simp [h]
  · rintro ((((h | h) | h) | h) | h) <;> simp [h]
theorem clsN_more {f g : Nat} {S : List B} {b : Bool} {s : Txt} (hf : s.length + 1 ≤ f) (hg : s.length + 1 ≤ g) : clsN f S b s = clsN g S b s := by
  induction f generalizing g S b s with
  | zero => omega
  | succ f ih =>
    obtain ⟨g, rfl⟩ : ∃ k, g = k + 1 := ⟨g - 1, by omega⟩
    cases s with
    | nil => rfl
    | cons c s =>
      unfold clsN
      split
      · rfl
      · simp only
        split
        · rfl
        · have := rngOf_le c s
          simp at hf hg
          exact ih (by omega) (by omega)
/-- a class, read on -/
def clsR (S : List B) (b : Bool) (s : Txt) : Option (List B × Txt) := clsN (s.length + 1) S b s
theorem clsR_nil (S : List B) (b : Bool) : clsR S b [] = none := rfl
theorem clsR_end (S : List B) (b : Bool) (s : Txt) : clsR S b (93 :: s) = if b then some (S, s) else none := by unfold clsR clsN; rfl
theorem clsR_cons (S : List B) (b : Bool) (c : UInt8) (s : Txt) (h : c ≠ 93) : clsR S b (c :: s) = if (oddC c || oddC (rngOf c s).1 || decide ((rngOf c s).1 < c)) = true then none else clsR (setN S c.toNat ((rngOf c s).1.toNat + 1 - c.toNat)) true (rngOf c s).2 := by
  show clsN (s.length + 1 + 1) S b (c :: s) = _
  unfold clsN
  rw [if_neg h]
  simp only
  split
  · rfl
  · unfold clsR
    have := rngOf_le c s
    exact clsN_more (by omega) (Nat.le_refl _)
theorem clsOf_not (s : Txt) : clsOf (33 :: s) = (clsR pc0.set false s).map fun x => (setTurn x.1, x.2) := rfl
theorem clsOf_plain {s : Txt} (h : ∀ t, s ≠ 33 :: t) : clsOf s = clsR pc0.set false s := by
  unfold clsOf
  split
  · rename_i t; exact absurd rfl (h t)
  · rfl
/-- what class answers -/
def ClassPost (s : Txt) (w : World) (e : Ending) (w' : World) : Prop :=
  Below w.heap.size w w' ∧ ((∃ (S : List B) (r : Txt) (x : ByteArray), clsOf s = some (S, r) ∧ x.data.toList = r ∧ e = .returned (.tuple #[pcV ⟨false, S⟩, .string x, .bool true])) ∨
  (clsOf s = none ∧ ∃ s1 s2 s3 s4 : B, e = .returned (.tuple #[.agg #[.bool false, .int .u64 (un s1 : Int), .int .u64 (un s2 : Int), .int .u64 (un s3 : Int), .int .u64 (un s4 : Int)], .string ⟨#[]⟩, .bool false])))
theorem byte_eq {c : UInt8} {n : Nat} (hn : n < 256) : (c = UInt8.ofNat n) ↔ c.toNat = n := by
  constructor
  · intro h; rw [h]; simp; omega
  · intro h; rw [← h]; simp
theorem byte_is (c : UInt8) : ((c.toNat : Int) == 93) = decide (c = 93) ∧ ((c.toNat : Int) != 93) = !decide (c = 93) ∧ ((c.toNat : Int) == 45) = decide (c = 45) ∧ ((c.toNat : Int) != 45) = !decide (c = 45) := by
  have h1 := byte_eq (c := c) (n := 93) (by omega)
  have h2 := byte_eq (c := c) (n := 45) (by omega)
  have e1 : ((c.toNat : Int) == 93) = decide (c = 93) := by
    rw [Bool.eq_iff_iff]; simp only [beq_iff_eq, decide_eq_true_eq]
    rw [show (93 : UInt8) = UInt8.ofNat 93 from rfl, h1]; omega
  have e2 : ((c.toNat : Int) == 45) = decide (c = 45) := by
    rw [Bool.eq_iff_iff]; simp only [beq_iff_eq, decide_eq_true_eq]
    rw [show (45 : UInt8) = UInt8.ofNat 45 from rfl, h2]; omega
  exact ⟨e1, by simp only [bne, e1], e2, by simp only [bne, e2]⟩
theorem below_drewN {b : Nat} {w w1 : World} (h : Below b w w1) (k : Nat) : Below b w (w1.drewN k) := ⟨h.os, h.tape, h.output, h.size, h.block⟩
def strSize : Value → Nat
  | .string x => x.size
  | _ => 0
theorem str_full {x : ByteArray} {c : UInt8} {l : Txt} (h : x.data.toList = c :: l) : x.toList.isEmpty = false := by
  rw [Lib.toList_data, h]; rfl
theorem str_void {x : ByteArray} (h : x.data.toList = []) : x.toList.isEmpty = true := by
  rw [Lib.toList_data, h]; rfl
/-- how the range begins that stands behind its first byte -/
theorem rng_cases (c : UInt8) (y : ByteArray) : (∃ (t : UInt8) (z : ByteArray), 2 ≤ y.size ∧ (∃ h0 : 0 < y.size, y[0] = 45) ∧ (∃ h1 : 1 < y.size, y[1] = t) ∧ y.extract 2 y.size = z ∧ rngOf c y.data.toList = (t, z.data.toList) ∧ z.size + 2 = y.size) ∨
    (y.size < 2 ∧ rngOf c y.data.toList = (c, y.data.toList)) ∨ (∃ d : UInt8, 2 ≤ y.size ∧ (∃ h0 : 0 < y.size, y[0] = d) ∧ d ≠ 45 ∧ rngOf c y.data.toList = (c, y.data.toList)) := by
  have hl := ba_len y
  match hy : y.data.toList with
  | [] => right; left; rw [hy] at hl; simp at hl; exact ⟨by omega, rfl⟩
  | [a] =>
    right; left; rw [hy] at hl; simp at hl
    refine ⟨by omega, ?_⟩
    unfold rngOf
    split
    · rename_i h; simp at h
    · rfl
  | a :: b :: l =>
    rw [hy] at hl
    simp at hl
    have h0 : 0 < y.size := by omega
    have h1 : 1 < y.size := by omega
    have ha : y[0] = a := ba_get h0 (by rw [hy]; rfl)
    have hb : y[1] = b := ba_get h1 (by rw [hy]; rfl)
    by_cases h45 : a = 45
    · left
      subst h45
      refine ⟨b, _, by omega, ⟨h0, ha⟩, ⟨h1, hb⟩, rfl, ?_, ?_⟩
      · rw [ba_drop, hy]; rfl
      · rw [← ba_len, ba_drop, hy]; simp; omega
    · right; right
      refine ⟨a, by omega, ⟨h0, ha⟩, h45, ?_⟩
      unfold rngOf
      split
      · rename_i h; simp at h; exact absurd h.1 h45
      · rfl
theorem trim_not (s : ByteArray) : (Lib.hasPrefix s.data.toList [33] = true ∧ s.data.toList = 33 :: Lib.trimPrefix s.data.toList [33]) ∨ (Lib.hasPrefix s.data.toList [33] = false ∧ Lib.trimPrefix s.data.toList [33] = s.data.toList ∧ ∀ t, s.data.toList ≠ 33 :: t) := by
  unfold Lib.trimPrefix Lib.hasPrefix
  match hs : s.data.toList with
  | [] => right; exact ⟨rfl, rfl, fun t h => by cases h⟩
  | c :: l =>
    by_cases h : c = 33
    · subst h; left; exact ⟨by simp, by simp⟩
    · right
      have e : (33 == c) = false := by simpa using fun h2 : (33 : UInt8) = c => h h2.symm
      have e2 : List.isPrefixOf [33] (c :: l) = false := by simp [List.isPrefixOf, e]
      exact ⟨e2, by rw [e2]; rfl, fun t h2 => by injection h2 with h3 _; exact h h3⟩
theorem cls_join (s : ByteArray) {s0 : ByteArray} (h0 : s0.data.toList = Lib.trimPrefix s.data.toList [33]) :
    clsOf s.data.toList = if Lib.hasPrefix s.data.toList [33] = true then (clsR pc0.set false s0.data.toList).map (fun x => (setTurn x.1, x.2)) else clsR pc0.set false s0.data.toList := by
  rcases trim_not s with ⟨h1, h2⟩ | ⟨h1, h2, h3⟩
  · rw [if_pos h1, h0]
    conv => lhs; rw [h2]
    exact clsOf_not _
  · rw [if_neg (by rw [h1]; simp), h0, h2]
    exact clsOf_plain h3
theorem cls_fail (s : ByteArray) {s0 : ByteArray} (h0 : s0.data.toList = Lib.trimPrefix s.data.toList [33]) (hn : clsR pc0.set false s0.data.toList = none) : clsOf s.data.toList = none := by
  rw [cls_join s h0, hn]
  split <;> rfl
theorem below_five {b base : Nat} {w w1 : World} (h : Below base w w1) (hb : base ≤ b) (v0 v1 v2 v3 v4 : Value) :
    Below base w (((((w1.setCell ⟨b, 0, none⟩ v0).setCell ⟨b, 1, none⟩ v1).setCell ⟨b, 2, none⟩ v2).setCell ⟨b, 3, none⟩ v3).setCell ⟨b, 4, none⟩ v4) :=
  ((((h.setCell hb v0).setCell hb v1).setCell hb v2).setCell hb v3).setCell hb v4
end Go.Proofs.Ytcgimnokdicmcaa
