/- Patterns: how they are read, and what a list of pieces stands for. Conditions: none. -/
import Derived.Test.YteefncohknclcaaGreatDoorSets
namespace Go.Proofs.YteefncohknclcaaGreatDoor
abbrev Txt := List UInt8
/-- a piece: for any bytes, or for one byte of a set -/
structure Pc where
  any : Bool
  set : List B
def wd (S : List B) (j : Nat) : B := S.getD j 0#64
def pcHas (p : Pc) (c : Nat) : Bool := has (wd p.set (c / 64)) (c % 64)
def pc0 : Pc := ⟨false, [0#64, 0#64, 0#64, 0#64]⟩
def setOne (S : List B) (c : Nat) : List B := S.set (c / 64) (wd S (c / 64) ||| 1#64 <<< (c % 64))
/-- the bytes f, f+1 .. are put in, so many -/
def setN (S : List B) (f : Nat) : Nat → List B
  | 0 => S
  | k + 1 => setOne (setN S f k) (f + k)
def setTurn (S : List B) : List B := S.map fun x => ~~~x
theorem setOne_len (S : List B) (c : Nat) : (setOne S c).length = S.length := by simp [setOne]
theorem setN_len (S : List B) (f k : Nat) : (setN S f k).length = S.length := by
  induction k with
  | zero => rfl
  | succ k ih => show (setOne _ _).length = _; rw [setOne_len, ih]
theorem wd_setOne {S : List B} (hS : S.length = 4) {c : Nat} (hc : c < 256) (d : Nat) : has (wd (setOne S c) (d / 64)) (d % 64) = (has (wd S (d / 64)) (d % 64) || decide (d = c)) := by
  have e : wd (setOne S c) (d / 64) = if c / 64 = d / 64 then wd S (c / 64) ||| 1#64 <<< (c % 64) else wd S (d / 64) := by
    unfold wd setOne
    rw [List.getD_eq_getElem?_getD, List.getElem?_set]
    by_cases h : c / 64 = d / 64
    · have h2 : d / 64 < S.length := by omega
      simp [h2, h, wd]
    · simp [h]
  rw [e]
  by_cases h : c / 64 = d / 64
  · rw [if_pos h, has_or, h]
    have h1 : has (1#64 <<< (c % 64)) (d % 64) = decide (d % 64 = c % 64) := by
      unfold has
      rw [BitVec.getLsbD_shiftLeft]
      by_cases h3 : d % 64 = c % 64
      · rw [h3]; simp; omega
      · by_cases h4 : d % 64 < c % 64
        · simp [h4, h3]
        · simp [h3, h4]
          intro _
          have : d % 64 - c % 64 ≠ 0 := by omega
          simp [this]
    rw [h1]
    congr 1
    by_cases h3 : d % 64 = c % 64
    · have : d = c := by omega
      simp [this]
    · have : ¬ d = c := fun e => h3 (by rw [e])
      simp [h3, this]
  · rw [if_neg h]
    have : ¬ d = c := fun e => h (by rw [e])
    simp [this]
theorem wd_setN {S : List B} (hS : S.length = 4) {f k : Nat} (hc : f + k ≤ 256) (d : Nat) : has (wd (setN S f k) (d / 64)) (d % 64) = (has (wd S (d / 64)) (d % 64) || decide (f ≤ d ∧ d < f + k)) := by
  induction k with
  | zero =>
    have : ¬ (f ≤ d ∧ d < f + 0) := by omega
    rw [decide_eq_false this, Bool.or_false]; rfl
  | succ k ih =>
    show has (wd (setOne (setN S f k) (f + k)) (d / 64)) (d % 64) = _
    rw [wd_setOne (by rw [setN_len, hS]) (by omega) d, ih (by omega), Bool.or_assoc]
    congr 1
    by_cases h : d = f + k
    · have : f ≤ d ∧ d < f + (k + 1) := by omega
      simp [h]
    · by_cases h2 : f ≤ d ∧ d < f + k
      · have : f ≤ d ∧ d < f + (k + 1) := by omega
        simp [h2, this]
      · have : ¬ (f ≤ d ∧ d < f + (k + 1)) := by omega
        simp [h, h2, this]
theorem wd_turn {S : List B} (hS : S.length = 4) (d : Nat) (hd : d < 256) : has (wd (setTurn S) (d / 64)) (d % 64) = !has (wd S (d / 64)) (d % 64) := by
  have h1 : d / 64 < S.length := by omega
  have e : wd (setTurn S) (d / 64) = ~~~ wd S (d / 64) := by unfold wd setTurn; simp [h1]
  rw [e, has_not _ _ (by omega)]
/-- one byte alone; every byte -/
def pcOne (c : Nat) : Pc := ⟨false, setN pc0.set c 1⟩
def pcAll : Pc := ⟨false, setTurn pc0.set⟩
def pcAny : Pc := ⟨true, pc0.set⟩
theorem pc0_no (d : Nat) (hd : d < 256) : has (wd pc0.set (d / 64)) (d % 64) = false := by
  have : d / 64 < 4 := by omega
  have e : wd pc0.set (d / 64) = 0#64 := by
    unfold wd pc0
    rcases (show d / 64 = 0 ∨ d / 64 = 1 ∨ d / 64 = 2 ∨ d / 64 = 3 by omega) with h | h | h | h <;> rw [h] <;> rfl
  rw [e, has_zero]
theorem pcOne_has {c d : Nat} (hc : c < 256) (hd : d < 256) : pcHas (pcOne c) d = decide (d = c) := by
  unfold pcHas pcOne
  rw [wd_setN rfl (by omega) d, pc0_no d hd, Bool.false_or]
  congr 1
  exact propext ⟨fun h => by omega, fun h => by omega⟩
theorem pcAll_has {d : Nat} (hd : d < 256) : pcHas pcAll d = true := by
  unfold pcHas pcAll
  rw [wd_turn rfl d hd, pc0_no d hd]; rfl
/-! what pieces stand for -/
def anySuf (f : Txt → Bool) : Txt → Bool
  | [] => f []
  | c :: s => f (c :: s) || anySuf f s
def mt : List Pc → Txt → Bool
  | [], s => s.isEmpty
  | p :: l, s => if p.any then anySuf (mt l) s else match s with
    | [] => false
    | c :: s => pcHas p c.toNat && mt l s
theorem mt_cons (p : Pc) (l : List Pc) (s : Txt) : mt (p :: l) s = if p.any then anySuf (mt l) s else match s with
    | [] => false
    | c :: s => pcHas p c.toNat && mt l s := rfl
theorem anySuf_iff {f : Txt → Bool} {s : Txt} : anySuf f s = true ↔ ∃ a b, s = a ++ b ∧ f b = true := by
  induction s with
  | nil =>
    constructor
    · intro h; exact ⟨[], [], rfl, h⟩
    · rintro ⟨a, b, h, hf⟩
      have : b = [] := (List.append_eq_nil_iff.1 h.symm).2
      subst this; exact hf
  | cons c s ih =>
    show (f (c :: s) || anySuf f s) = true ↔ _
    rw [Bool.or_eq_true, ih]
    constructor
    · rintro (h | ⟨a, b, rfl, h⟩)
      · exact ⟨[], c :: s, rfl, h⟩
      · exact ⟨c :: a, b, rfl, h⟩
    · rintro ⟨a, b, h, hf⟩
      cases a with
      | nil => simp at h; subst h; exact .inl hf
      | cons x a => simp at h; exact .inr ⟨a, b, h.2, hf⟩
theorem mt_split {l m : List Pc} {s : Txt} : mt (l ++ m) s = true ↔ ∃ a b, s = a ++ b ∧ mt l a = true ∧ mt m b = true := by
  induction l generalizing s with
  | nil =>
    constructor
    · intro h; exact ⟨[], s, rfl, rfl, h⟩
    · rintro ⟨a, b, rfl, h1, h2⟩
      have : a = [] := by cases a with
        | nil => rfl
        | cons _ _ => cases h1
      subst this; exact h2
  | cons p l ih =>
    show mt (p :: (l ++ m)) s = true ↔ _
    simp only [mt_cons]
    by_cases hp : p.any = true
    · simp only [hp, if_true]
      rw [anySuf_iff]
      constructor
      · rintro ⟨a, b, rfl, h⟩
        obtain ⟨x, y, rfl, h1, h2⟩ := ih.1 h
        exact ⟨a ++ x, y, by simp, anySuf_iff.2 ⟨a, x, rfl, h1⟩, h2⟩
      · rintro ⟨a, b, rfl, h1, h2⟩
        obtain ⟨x, y, rfl, h3⟩ := anySuf_iff.1 h1
        exact ⟨x, y ++ b, by simp, ih.2 ⟨y, b, rfl, h3, h2⟩⟩
    · simp only [hp, Bool.false_eq_true, if_false]
      cases s with
      | nil =>
        simp only [Bool.false_eq_true, false_iff]
        rintro ⟨a, b, h, h1, _⟩
        have : a = [] := (List.append_eq_nil_iff.1 h.symm).1
        subst this; simp at h1
      | cons c s =>
        simp only [Bool.and_eq_true]
        rw [ih]
        constructor
        · rintro ⟨hc, a, b, rfl, h1, h2⟩
          exact ⟨c :: a, b, rfl, by simp [hc, h1], h2⟩
        · rintro ⟨a, b, h, h1, h2⟩
          cases a with
          | nil => simp at h1
          | cons x a =>
            simp at h
            obtain ⟨rfl, rfl⟩ := h
            simp at h1
            exact ⟨h1.1, a, b, rfl, h1.2, h2⟩
theorem mt_any (s : Txt) : mt [pcAny] s = true := by
  show anySuf (mt []) s = true
  rw [anySuf_iff]
  exact ⟨s, [], by simp, rfl⟩
theorem mt_all {s : Txt} : mt [pcAll] s = true ↔ s.length = 1 := by
  cases s with
  | nil => simp [mt, pcAll]
  | cons c s =>
    have h : pcHas pcAll c.toNat = true := pcAll_has c.toNat_lt
    show (pcHas pcAll c.toNat && s.isEmpty) = true ↔ _
    rw [h]; simp
theorem mt_any_any {l m : List Pc} {s : Txt} : mt (l ++ ([pcAny] ++ m)) s = true ↔ ∃ a b c, s = a ++ (b ++ c) ∧ mt l a = true ∧ mt m c = true := by
  rw [mt_split]
  constructor
  · rintro ⟨a, b, rfl, h1, h2⟩
    obtain ⟨x, y, rfl, _, h3⟩ := mt_split.1 h2
    exact ⟨a, x, y, rfl, h1, h3⟩
  · rintro ⟨a, b, c, rfl, h1, h2⟩
    exact ⟨a, b ++ c, rfl, h1, mt_split.2 ⟨b, c, rfl, mt_any b, h2⟩⟩
theorem stars_two {l m : List Pc} (s : Txt) : mt (l ++ ([pcAny] ++ ([pcAny] ++ m))) s = mt (l ++ ([pcAny] ++ m)) s := by
  rw [Bool.eq_iff_iff]
  rw [mt_any_any, mt_any_any]
  constructor
  · rintro ⟨a, b, c, rfl, h1, h2⟩
    obtain ⟨x, y, rfl, _, h3⟩ := mt_split.1 h2
    exact ⟨a, b ++ x, y, by simp, h1, h3⟩
  · rintro ⟨a, b, c, rfl, h1, h2⟩
    exact ⟨a, b, c, rfl, h1, mt_split.2 ⟨[], c, rfl, mt_any [], h2⟩⟩
theorem one_more {b : Txt} (h : 0 < b.length) : (∃ x y, b = x ++ y ∧ x.length = 1) ∧ ∃ x y, b = x ++ y ∧ y.length = 1 := by
  constructor
  · exact ⟨b.take 1, b.drop 1, (List.take_append_drop 1 b).symm, by rw [List.length_take]; omega⟩
  · exact ⟨b.take (b.length - 1), b.drop (b.length - 1), by simp, by rw [List.length_drop]; omega⟩
theorem ahead_iff {l m : List Pc} (s : Txt) : mt (l ++ ([pcAll] ++ ([pcAny] ++ m))) s = true ↔ ∃ a b c, s = a ++ (b ++ c) ∧ 0 < b.length ∧ mt l a = true ∧ mt m c = true := by
  rw [mt_split]
  constructor
  · rintro ⟨a, b, rfl, h1, h2⟩
    obtain ⟨x, y, rfl, h3, h4⟩ := mt_split.1 h2
    obtain ⟨u, v, rfl, _, h5⟩ := mt_split.1 h4
    have := mt_all.1 h3
    exact ⟨a, x ++ u, v, by simp, by simp; omega, h1, h5⟩
  · rintro ⟨a, b, c, rfl, hb, h1, h2⟩
    obtain ⟨⟨x, y, rfl, hx⟩, _⟩ := one_more hb
    exact ⟨a, x ++ (y ++ c), by simp, h1, mt_split.2 ⟨x, y ++ c, rfl, mt_all.2 hx, mt_split.2 ⟨y, c, rfl, mt_any y, h2⟩⟩⟩
theorem behind_iff {l m : List Pc} (s : Txt) : mt (l ++ ([pcAny] ++ ([pcAll] ++ m))) s = true ↔ ∃ a b c, s = a ++ (b ++ c) ∧ 0 < b.length ∧ mt l a = true ∧ mt m c = true := by
  rw [mt_any_any]
  constructor
  · rintro ⟨a, b, c, rfl, h1, h2⟩
    obtain ⟨x, y, rfl, h3, h4⟩ := mt_split.1 h2
    have := mt_all.1 h3
    exact ⟨a, b ++ x, y, by simp, by simp; omega, h1, h4⟩
  · rintro ⟨a, b, c, rfl, hb, h1, h2⟩
    obtain ⟨_, ⟨x, y, rfl, hy⟩⟩ := one_more hb
    exact ⟨a, x, y ++ c, by simp, h1, mt_split.2 ⟨y, c, rfl, mt_all.2 hy, h2⟩⟩
theorem stars_turn {l m : List Pc} (s : Txt) : mt (l ++ ([pcAll] ++ ([pcAny] ++ m))) s = mt (l ++ ([pcAny] ++ ([pcAll] ++ m))) s := by
  rw [Bool.eq_iff_iff, ahead_iff, behind_iff]
theorem stars_less {l m : List Pc} {s : Txt} (h : mt (l ++ ([pcAll] ++ ([pcAny] ++ m))) s = true) : mt (l ++ ([pcAny] ++ m)) s = true := by
  obtain ⟨a, b, c, rfl, _, h1, h2⟩ := (ahead_iff s).1 h
  exact mt_any_any.2 ⟨a, b, c, rfl, h1, h2⟩
/-- each byte of a text by itself stands for that text alone -/
theorem mt_singles (s t : Txt) : mt (s.map fun c => pcOne c.toNat) t = decide (s = t) := by
  induction s generalizing t with
  | nil => cases t <;> simp [mt]
  | cons c s ih =>
    cases t with
    | nil => simp [mt, pcOne]
    | cons d t =>
      show (pcHas (pcOne c.toNat) d.toNat && mt (s.map fun c => pcOne c.toNat) t) = _
      rw [pcOne_has c.toNat_lt d.toNat_lt, ih]
      by_cases h : d = c
      · subst h; simp
      · have h1 : ¬ d.toNat = c.toNat := fun e => h (UInt8.toNat_inj.1 e)
        have h2 : ¬ c = d := fun e => h e.symm
        simp [h1, h2]
/-! how a pattern is read -/
def oddC (c : UInt8) : Bool := c == 91 || c == 93 || c == 92 || c == 45 || c == 33
/-- one range of a class: its two ends, and what stands behind it -/
def rngOf (c : UInt8) : Txt → UInt8 × Txt
  | 45 :: t :: s => (t, s)
  | s => (c, s)
/-- a class behind its bracket, and a sign that turns it -/
def clsN : Nat → List B → Bool → Txt → Option (List B × Txt)
  | 0, _, _, _ => none
  | _ + 1, _, _, [] => none
  | f + 1, S, some_, c :: s =>
    if c = 93 then (if some_ then some (S, s) else none)
    else
      let q := rngOf c s
      if oddC c || oddC q.1 || decide (q.1 < c) then none
      else clsN f (setN S c.toNat (q.1.toNat + 1 - c.toNat)) true q.2
def clsOf (s : Txt) : Option (List B × Txt) :=
  match s with
  | 33 :: s => (clsN (s.length + 1) pc0.set false s).map fun x => (setTurn x.1, x.2)
  | s => clsN (s.length + 1) pc0.set false s
/-- one piece of a pattern that is not empty -/
def onePc (c : UInt8) (s : Txt) : Option (Pc × Txt) :=
  if c = 42 then some (pcAny, s)
  else if c = 63 then some (pcAll, s)
  else if c = 91 then (clsOf s).map fun x => (⟨false, x.1⟩, x.2)
  else if c = 93 then none
  else if c = 92 then (match s with
    | [] => none
    | d :: s => some (pcOne d.toNat, s))
  else some (pcOne c.toNat, s)
def prsN : Nat → Txt → Option (List Pc)
  | _, [] => some []
  | 0, _ :: _ => none
  | f + 1, c :: s => (onePc c s).bind fun x => (prsN f x.2).map (x.1 :: ·)
def prs (s : Txt) : Option (List Pc) := prsN s.length s
theorem rngOf_le (c : UInt8) (s : Txt) : (rngOf c s).2.length ≤ s.length := by
  unfold rngOf; split <;> simp <;> omega
theorem clsN_le {f : Nat} {S : List B} {b : Bool} {s : Txt} {x : List B × Txt} (h : clsN f S b s = some x) : x.2.length ≤ s.length := by
  induction f generalizing S b s with
  | zero => cases h
  | succ f ih =>
    cases s with
    | nil => cases h
    | cons c s =>
      unfold clsN at h
      split at h
      · split at h
        · injection h with h; subst h; simp
        · cases h
      · simp only at h
        split at h
        · cases h
        · have := ih h
          have := rngOf_le c s
          simp; omega
theorem clsOf_le {s : Txt} {x : List B × Txt} (h : clsOf s = some x) : x.2.length ≤ s.length := by
  unfold clsOf at h
  split at h
  · rw [Option.map_eq_some_iff] at h
    obtain ⟨y, h1, rfl⟩ := h
    have := clsN_le h1
    simp; omega
  · exact clsN_le h
theorem onePc_le {c : UInt8} {s : Txt} {x : Pc × Txt} (h : onePc c s = some x) : x.2.length ≤ s.length := by
  unfold onePc at h
  split at h
  · injection h with h; subst h; simp
  · split at h
    · injection h with h; subst h; simp
    · split at h
      · rw [Option.map_eq_some_iff] at h
        obtain ⟨y, h1, rfl⟩ := h
        exact clsOf_le h1
      · split at h
        · cases h
        · split at h
          · split at h
            · cases h
            · injection h with h; subst h; simp
          · injection h with h; subst h; simp
theorem prsN_more {f g : Nat} {s : Txt} (hf : s.length ≤ f) (hg : s.length ≤ g) : prsN f s = prsN g s := by
  induction f generalizing g s with
  | zero =>
    have : s = [] := by cases s with
      | nil => rfl
      | cons _ _ => simp at hf
    subst this
    cases g <;> rfl
  | succ f ih =>
    cases s with
    | nil => cases g <;> rfl
    | cons c s =>
      cases g with
      | zero => simp at hg
      | succ g =>
        show (onePc c s).bind _ = (onePc c s).bind _
        cases h : onePc c s with
        | none => rfl
        | some x =>
          have := onePc_le h
          simp at hf hg
          show (prsN f x.2).map _ = (prsN g x.2).map _
          rw [ih (g := g) (by omega) (by omega)]
theorem prs_nil : prs [] = some [] := rfl
theorem prs_cons (c : UInt8) (s : Txt) : prs (c :: s) = (onePc c s).bind fun x => (prs x.2).map (x.1 :: ·) := by
  show (onePc c s).bind _ = _
  cases h : onePc c s with
  | none => rfl
  | some x =>
    have := onePc_le h
    show (prsN s.length x.2).map _ = (prs x.2).map _
    unfold prs
    rw [prsN_more this (Nat.le_refl _)]
/-! a pattern behind another one -/
theorem clsN_app {f g : Nat} {S : List B} {b : Bool} {s : Txt} {x : List B × Txt} (t : Txt) (hg : f ≤ g) (h : clsN f S b s = some x) : clsN g S b (s ++ t) = some (x.1, x.2 ++ t) := by
  induction f generalizing g S b s with
  | zero => cases h
  | succ f ih =>
    obtain ⟨g, rfl⟩ : ∃ k, g = k + 1 := ⟨g - 1, by omega⟩
    cases s with
    | nil => cases h
    | cons c s =>
      show clsN (g + 1) S b (c :: (s ++ t)) = _
      unfold clsN at h ⊢
      split at h
      · rename_i hc
        rw [if_pos hc]
        split at h
        · rename_i hb
          injection h with h; subst h
          rw [if_pos hb]
        · cases h
      · rename_i hc
        rw [if_neg hc]
        simp only at h ⊢
        split at h
        · cases h
        · rename_i ho
          have hr : rngOf c (s ++ t) = ((rngOf c s).1, (rngOf c s).2 ++ t) ∨ (s = [] ∨ s = [45]) := by
            match s with
            | [] => exact .inr (.inl rfl)
            | [a] =>
              by_cases ha : a = 45
              · subst ha; exact .inr (.inr rfl)
              · left
                unfold rngOf
                split
                · rename_i h1; simp at h1; exact absurd h1.1 ha
                · split
                  · rename_i h1; simp at h1
                  · rfl
            | a :: d :: s =>
              left
              unfold rngOf
              by_cases ha : a = 45
              · subst ha; rfl
              · split
                · rename_i h1; simp at h1; exact absurd h1.1 ha
                · split
                  · rename_i h1; simp at h1; exact absurd h1.1 ha
                  · rfl
          rcases hr with hr | rfl | rfl
          · rw [hr]
            simp only
            rw [if_neg ho]
            exact ih (by omega) h
          · exfalso
            have : rngOf c [] = (c, []) := rfl
            rw [this] at h
            cases f <;> simp [clsN] at h
          · exfalso
            have : rngOf c [45] = (c, [45]) := rfl
            rw [this] at h
            cases f with
            | zero => cases h
            | succ f =>
              unfold clsN at h
              simp [oddC] at h
theorem clsOf_app {s : Txt} {x : List B × Txt} (t : Txt) (h : clsOf s = some x) : clsOf (s ++ t) = some (x.1, x.2 ++ t) := by
  unfold clsOf at h
  split at h
  · rename_i s
    rw [Option.map_eq_some_iff] at h
    obtain ⟨y, h1, rfl⟩ := h
    show (clsN ((s ++ t).length + 1) pc0.set false (s ++ t)).map _ = _
    rw [clsN_app t (by simp) h1]; rfl
  · rename_i hs
    have hne : s ≠ [] := fun e => by subst e; simp [clsN] at h
    unfold clsOf
    split
    · rename_i u he
      cases s with
      | nil => exact absurd rfl hne
      | cons c s =>
        simp at he
        exact absurd (by rw [he.1]) (hs s)
    · exact clsN_app t (by simp) h
theorem onePc_app {c : UInt8} {s : Txt} {x : Pc × Txt} (t : Txt) (h : onePc c s = some x) : onePc c (s ++ t) = some (x.1, x.2 ++ t) := by
  unfold onePc at h ⊢
  by_cases h1 : c = 42
  · rw [if_pos h1] at h ⊢; injection h with h; subst h; rfl
  · rw [if_neg h1] at h ⊢
    by_cases h2 : c = 63
    · rw [if_pos h2] at h ⊢; injection h with h; subst h; rfl
    · rw [if_neg h2] at h ⊢
      by_cases h3 : c = 91
      · rw [if_pos h3] at h ⊢
        rw [Option.map_eq_some_iff] at h
        obtain ⟨y, h4, rfl⟩ := h
        rw [clsOf_app t h4]; rfl
      · rw [if_neg h3] at h ⊢
        by_cases h4 : c = 93
        · rw [if_pos h4] at h; cases h
        · rw [if_neg h4] at h ⊢
          by_cases h5 : c = 92
          · rw [if_pos h5] at h ⊢
            cases s with
            | nil => cases h
            | cons d s => simp only at h; injection h with h; subst h; rfl
          · rw [if_neg h5] at h ⊢; injection h with h; subst h; rfl
theorem prs_app {s : Txt} {l : List Pc} (t : Txt) (h : prs s = some l) : prs (s ++ t) = (prs t).map (l ++ ·) := by
  induction l generalizing s with
  | nil =>
    cases s with
    | nil => rw [List.nil_append]; cases prs t <;> rfl
    | cons c s =>
      rw [prs_cons] at h
      rw [Option.bind_eq_some_iff] at h
      obtain ⟨x, _, h2⟩ := h
      rw [Option.map_eq_some_iff] at h2
      obtain ⟨_, _, h3⟩ := h2
      cases h3
  | cons p l ih =>
    cases s with
    | nil => rw [prs_nil] at h; cases h
    | cons c s =>
      rw [prs_cons, Option.bind_eq_some_iff] at h
      obtain ⟨x, h1, h2⟩ := h
      rw [Option.map_eq_some_iff] at h2
      obtain ⟨m, h3, h4⟩ := h2
      injection h4 with h4 h5
      subst h4 h5
      rw [List.cons_append, prs_cons, onePc_app t h1]
      show (prs (x.2 ++ t)).map _ = _
      rw [ih h3]
      cases prs t <;> rfl
theorem prs_star (t : Txt) : prs (42 :: t) = (prs t).map (pcAny :: ·) := by rw [prs_cons]; rfl
theorem prs_what (t : Txt) : prs (63 :: t) = (prs t).map (pcAll :: ·) := by rw [prs_cons]; rfl
/-! quoted texts -/
def specC (c : UInt8) : Bool := c == 42 || c == 63 || c == 91 || c == 93 || c == 92
def quo : Txt → Txt
  | [] => []
  | c :: s => if specC c then 92 :: c :: quo s else c :: quo s
theorem quo_cons (c : UInt8) (s : Txt) : quo (c :: s) = if specC c then 92 :: c :: quo s else c :: quo s := rfl
theorem prs_quo (s : Txt) : prs (quo s) = some (s.map fun c => pcOne c.toNat) := by
  induction s with
  | nil => rfl
  | cons c s ih =>
    unfold quo
    by_cases h : specC c = true
    · rw [if_pos h, prs_cons]
      show (prs (quo s)).map _ = _
      rw [ih]; rfl
    · rw [if_neg h, prs_cons]
      simp only [specC, Bool.or_eq_true, beq_iff_eq, not_or] at h
      obtain ⟨⟨⟨⟨h1, h2⟩, h3⟩, h4⟩, h5⟩ := h
      have : onePc c (quo s) = some (pcOne c.toNat, quo s) := by
        unfold onePc
        rw [if_neg h1, if_neg h2, if_neg h3, if_neg h4, if_neg h5]
      rw [this]
      show (prs (quo s)).map _ = _
      rw [ih]; rfl
theorem quo_app (s t : Txt) : quo (s ++ t) = quo s ++ quo t := by
  induction s with
  | nil => rfl
  | cons c s ih =>
    rw [List.cons_append, quo_cons, quo_cons, ih]
    split <;> rfl
end Go.Proofs.YteefncohknclcaaGreatDoor
