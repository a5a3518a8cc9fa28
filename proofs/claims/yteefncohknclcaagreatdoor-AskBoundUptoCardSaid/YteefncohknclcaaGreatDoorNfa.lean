/- The set of places in a pattern at which one can be, byte by byte: at its end it tells what the pieces stand for. Conditions: at most 60 pieces. -/
import Derived.Test.YteefncohknclcaaGreatDoorGlob
namespace Go.Proofs.YteefncohknclcaaGreatDoor
def anyAt (l : List Pc) (k : Nat) : Bool := (l.getD k pc0).any
/-- on over the pieces that stand for any bytes -/
def skpN (l : List Pc) (a : B) : Nat → B
  | 0 => a
  | k + 1 => if anyAt l k = true then skpN l a k ||| (skpN l a k >>> k &&& 1#64) <<< (k + 1) else skpN l a k
def stpN (l : List Pc) (a : B) (c : Nat) : Nat → B
  | 0 => 0#64
  | k + 1 => if has a k = true then (if anyAt l k = true then stpN l a c k ||| 1#64 <<< k else if pcHas (l.getD k pc0) c = true then stpN l a c k ||| 1#64 <<< (k + 1) else stpN l a c k) else stpN l a c k
def runB (l : List Pc) (a : B) : Txt → B
  | [] => a
  | c :: s => runB l (skpN l (stpN l a c.toNat l.length) l.length) s
def matchB (l : List Pc) (s : Txt) : Bool := has (runB l (skpN l 1#64 l.length) s) l.length
theorem has_bit {x n : Nat} (hx : x < 64) : has (1#64 <<< x) n = true ↔ n = x := by
  unfold has
  rw [BitVec.getLsbD_shiftLeft]
  simp
  constructor
  · rintro ⟨⟨h1, h2⟩, h3⟩
    omega
  · intro h; subst h; omega
theorem has_shr1 (a : B) (k : Nat) {n : Nat} (hk : k + 1 < 64) : has ((a >>> k &&& 1#64) <<< (k + 1)) n = true ↔ n = k + 1 ∧ has a k = true := by
  unfold has
  rw [BitVec.getLsbD_shiftLeft, BitVec.getLsbD_and, BitVec.getLsbD_ushiftRight]
  simp
  constructor
  · rintro ⟨⟨h1, h2⟩, h3, h4⟩
    have : n = k + 1 := by omega
    subst this
    simp at h3
    exact ⟨rfl, h3⟩
  · rintro ⟨rfl, h⟩
    refine ⟨by omega, ?_⟩
    simp [h]
theorem has_skp {l : List Pc} {a : B} {k j : Nat} (hk : k ≤ 60) (hj : j < 64) : has (skpN l a k) j = true ↔ ∃ i, i ≤ j ∧ has a i = true ∧ ∀ m, i ≤ m → m < j → m < k ∧ anyAt l m = true := by
  induction k generalizing j with
  | zero =>
    constructor
    · intro h; exact ⟨j, Nat.le_refl _, h, fun m h1 h2 => by omega⟩
    · rintro ⟨i, h1, h2, h3⟩
      rcases Nat.lt_or_ge i j with h4 | h4
      · have := (h3 i (Nat.le_refl _) h4).1; omega
      · have : i = j := by omega
        subst this; exact h2
  | succ k ih =>
    unfold skpN
    by_cases ha : anyAt l k = true
    · rw [if_pos ha, has_or, Bool.or_eq_true, has_shr1 _ _ (by omega), ih (by omega) hj, ih (by omega) (by omega)]
      constructor
      · rintro (⟨i, h1, h2, h3⟩ | ⟨rfl, i, h1, h2, h3⟩)
        · exact ⟨i, h1, h2, fun m h4 h5 => by have := h3 m h4 h5; exact ⟨by omega, this.2⟩⟩
        · refine ⟨i, by omega, h2, fun m h4 h5 => ?_⟩
          rcases Nat.lt_or_ge m k with h6 | h6
          · exact ⟨by omega, (h3 m h4 h6).2⟩
          · have : m = k := by omega
            subst this; exact ⟨by omega, ha⟩
      · rintro ⟨i, h1, h2, h3⟩
        rcases Nat.lt_or_ge i j with h4 | h4
        · have h5 := (h3 (j - 1) (by omega) (by omega)).1
          rcases Nat.lt_or_ge k (j - 1 + 1) with h6 | h6
          · rcases Nat.lt_or_ge j (k + 1) with h7 | h7
            · exact .inl ⟨i, h1, h2, fun m h8 h9 => ⟨by omega, (h3 m h8 h9).2⟩⟩
            · exact .inr ⟨by omega, i, by omega, h2, fun m h8 h9 => ⟨h9, (h3 m h8 (by omega)).2⟩⟩
          · exact .inl ⟨i, h1, h2, fun m h8 h9 => ⟨by omega, (h3 m h8 h9).2⟩⟩
        · exact .inl ⟨i, h1, h2, fun m h8 h9 => by omega⟩
    · rw [if_neg ha, ih (by omega) hj]
      constructor
      · rintro ⟨i, h1, h2, h3⟩
        exact ⟨i, h1, h2, fun m h4 h5 => by have := h3 m h4 h5; exact ⟨by omega, this.2⟩⟩
      · rintro ⟨i, h1, h2, h3⟩
        refine ⟨i, h1, h2, fun m h4 h5 => ?_⟩
        have h6 := h3 m h4 h5
        refine ⟨?_, h6.2⟩
        rcases Nat.lt_or_ge m k with h7 | h7
        · exact h7
        · have : m = k := by omega
          subst this; exact absurd h6.2 ha
theorem has_stpN {l : List Pc} {a : B} {c k j : Nat} (hk : k ≤ 60) : has (stpN l a c k) j = true ↔ ∃ i, i < k ∧ has a i = true ∧ ((anyAt l i = true ∧ j = i) ∨ (anyAt l i = false ∧ pcHas (l.getD i pc0) c = true ∧ j = i + 1)) := by
  induction k with
  | zero =>
    show has 0#64 j = true ↔ _
    rw [has_zero]
    simp
  | succ k ih =>
    have ih := ih (by omega)
    have key : ∀ R : Prop, (has (stpN l a c k) j = true ∨ R) ↔ ((∃ i, i < k ∧ has a i = true ∧ ((anyAt l i = true ∧ j = i) ∨ (anyAt l i = false ∧ pcHas (l.getD i pc0) c = true ∧ j = i + 1))) ∨ R) := by
      intro R; rw [ih]
    have ex : (∃ i, i < k + 1 ∧ has a i = true ∧ ((anyAt l i = true ∧ j = i) ∨ (anyAt l i = false ∧ pcHas (l.getD i pc0) c = true ∧ j = i + 1))) ↔
        ((∃ i, i < k ∧ has a i = true ∧ ((anyAt l i = true ∧ j = i) ∨ (anyAt l i = false ∧ pcHas (l.getD i pc0) c = true ∧ j = i + 1))) ∨ (has a k = true ∧ ((anyAt l k = true ∧ j = k) ∨ (anyAt l k = false ∧ pcHas (l.getD k pc0) c = true ∧ j = k + 1)))) := by
      constructor
      · rintro ⟨i, h1, h2⟩
        rcases Nat.lt_or_ge i k with h3 | h3
        · exact .inl ⟨i, h3, h2⟩
        · have : i = k := by omega
          subst this; exact .inr h2
      · rintro (⟨i, h1, h2⟩ | h)
        · exact ⟨i, by omega, h2⟩
        · exact ⟨k, by omega, h⟩
    rw [ex]
    unfold stpN
    by_cases h1 : has a k = true
    · rw [if_pos h1]
      by_cases h2 : anyAt l k = true
      · rw [if_pos h2, has_or, Bool.or_eq_true, has_bit (by omega), ih]
        simp [h1, h2]
      · rw [if_neg h2]
        by_cases h3 : pcHas (l.getD k pc0) c = true
        · rw [if_pos h3, has_or, Bool.or_eq_true, has_bit (by omega), ih]
          simp only [h1, h2, h3]
          simp
        · rw [if_neg h3, ih]
          simp only [h1, h2, h3]
          simp
    · rw [if_neg h1, ih]
      simp [h1]
/-- one of the places from which what is left is stood for -/
def Acc (l : List Pc) (a : B) (s : Txt) : Prop := ∃ i, i ≤ l.length ∧ has a i = true ∧ mt (l.drop i) s = true
def Clos (l : List Pc) (a : B) : Prop := ∀ i, i < l.length → has a i = true → anyAt l i = true → has a (i + 1) = true
theorem drop_at {l : List Pc} {i : Nat} (h : i < l.length) : l.drop i = l.getD i pc0 :: l.drop (i + 1) := by
  rw [List.drop_eq_getElem_cons h]; simp [h]
theorem mt_at {l : List Pc} {i : Nat} (h : i < l.length) (s : Txt) : mt (l.drop i) s = if anyAt l i = true then anySuf (mt (l.drop (i + 1))) s else match s with
    | [] => false
    | c :: s => pcHas (l.getD i pc0) c.toNat && mt (l.drop (i + 1)) s := by
  rw [drop_at h]; rfl
theorem skp_clos {l : List Pc} (hl : l.length ≤ 60) (a : B) : Clos l (skpN l a l.length) := by
  intro i hi h1 h2
  rw [has_skp hl (by omega)] at h1 ⊢
  obtain ⟨j, h3, h4, h5⟩ := h1
  refine ⟨j, by omega, h4, fun m h6 h7 => ?_⟩
  rcases Nat.lt_or_ge m i with h8 | h8
  · exact h5 m h6 h8
  · have : m = i := by omega
    subst this; exact ⟨hi, h2⟩
theorem mt_back {l : List Pc} {i j : Nat} (hij : i ≤ j) (hj : j ≤ l.length) (h : ∀ m, i ≤ m → m < j → anyAt l m = true) {s : Txt} (hm : mt (l.drop j) s = true) : mt (l.drop i) s = true := by
  obtain ⟨d, rfl⟩ : ∃ d, j = i + d := ⟨j - i, by omega⟩
  induction d with
  | zero => exact hm
  | succ d ih =>
    apply ih (by omega) (by omega) (fun m h1 h2 => h m h1 (by omega))
    rw [mt_at (by omega), if_pos (h _ (by omega) (by omega))]
    exact anySuf_iff.2 ⟨[], s, rfl, hm⟩
theorem acc_skp {l : List Pc} (hl : l.length ≤ 60) (a : B) (s : Txt) : Acc l (skpN l a l.length) s ↔ Acc l a s := by
  constructor
  · rintro ⟨j, h1, h2, h3⟩
    obtain ⟨i, h4, h5, h6⟩ := (has_skp hl (by omega)).1 h2
    exact ⟨i, by omega, h5, mt_back h4 h1 (fun m h7 h8 => (h6 m h7 h8).2) h3⟩
  · rintro ⟨i, h1, h2, h3⟩
    exact ⟨i, h1, (has_skp hl (by omega)).2 ⟨i, Nat.le_refl _, h2, fun m h4 h5 => by omega⟩, h3⟩
theorem acc_step {l : List Pc} (hl : l.length ≤ 60) {a : B} (ha : Clos l a) (c : UInt8) (s : Txt) : Acc l (stpN l a c.toNat l.length) s ↔ Acc l a (c :: s) := by
  constructor
  · rintro ⟨j, h1, h2, h3⟩
    obtain ⟨i, h4, h5, h6⟩ := (has_stpN hl).1 h2
    refine ⟨i, by omega, h5, ?_⟩
    rw [mt_at h4]
    rcases h6 with ⟨h7, rfl⟩ | ⟨h7, h8, rfl⟩
    · rw [if_pos h7]
      rw [mt_at h4, if_pos h7] at h3
      show (_ || anySuf _ s) = true
      rw [h3]; simp
    · rw [if_neg (by simp [h7])]
      show (pcHas (l.getD i pc0) c.toNat && mt (l.drop (i + 1)) s) = true
      rw [h8, h3]; rfl
  · rintro ⟨i, h1, h2, h3⟩
    obtain ⟨d, hd⟩ : ∃ d, d = l.length - i := ⟨_, rfl⟩
    induction d generalizing i with
    | zero =>
      have : i = l.length := by omega
      subst this
      rw [List.drop_length] at h3
      cases h3
    | succ d ih =>
      have hi : i < l.length := by omega
      rw [mt_at hi] at h3
      by_cases hany : anyAt l i = true
      · rw [if_pos hany] at h3
        have h3' : (mt (l.drop (i + 1)) (c :: s) || anySuf (mt (l.drop (i + 1))) s) = true := h3
        rw [Bool.or_eq_true] at h3'
        rcases h3' with h4 | h4
        · exact ih (i + 1) (by omega) (ha i hi h2 hany) h4 (by omega)
        · refine ⟨i, h1, (has_stpN hl).2 ⟨i, hi, h2, .inl ⟨hany, rfl⟩⟩, ?_⟩
          rw [mt_at hi, if_pos hany]; exact h4
      · rw [if_neg hany] at h3
        have h3' : (pcHas (l.getD i pc0) c.toNat && mt (l.drop (i + 1)) s) = true := h3
        rw [Bool.and_eq_true] at h3'
        exact ⟨i + 1, by omega, (has_stpN hl).2 ⟨i, hi, h2, .inr ⟨by simpa using hany, h3'.1, rfl⟩⟩, h3'.2⟩
theorem acc_end {l : List Pc} {a : B} (ha : Clos l a) : Acc l a [] ↔ has a l.length = true := by
  constructor
  · rintro ⟨i, h1, h2, h3⟩
    obtain ⟨d, hd⟩ : ∃ d, d = l.length - i := ⟨_, rfl⟩
    induction d generalizing i with
    | zero =>
      have : i = l.length := by omega
      subst this; exact h2
    | succ d ih =>
      have hi : i < l.length := by omega
      rw [mt_at hi] at h3
      by_cases hany : anyAt l i = true
      · rw [if_pos hany] at h3
        exact ih (i + 1) (by omega) (ha i hi h2 hany) h3 (by omega)
      · rw [if_neg hany] at h3
        cases h3
  · intro h
    exact ⟨l.length, Nat.le_refl _, h, by rw [List.drop_length]; rfl⟩
theorem run_acc {l : List Pc} (hl : l.length ≤ 60) (s : Txt) {a : B} (ha : Clos l a) : has (runB l a s) l.length = true ↔ Acc l a s := by
  induction s generalizing a with
  | nil => exact (acc_end ha).symm
  | cons c s ih =>
    show has (runB l (skpN l (stpN l a c.toNat l.length) l.length) s) l.length = true ↔ _
    rw [ih (skp_clos hl _), acc_skp hl, acc_step hl ha]
theorem match_mt {l : List Pc} (hl : l.length ≤ 60) (s : Txt) : matchB l s = mt l s := by
  rw [Bool.eq_iff_iff]
  unfold matchB
  rw [run_acc hl s (skp_clos hl _), acc_skp hl]
  constructor
  · rintro ⟨i, h1, h2, h3⟩
    have h4 : has (1#64 <<< 0) i = true := h2
    rw [has_bit (by omega)] at h4
    subst h4; exact h3
  · intro h
    exact ⟨0, by omega, (has_bit (x := 0) (by omega)).2 rfl, h⟩
end Go.Proofs.YteefncohknclcaaGreatDoor
