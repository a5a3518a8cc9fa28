/- Joined lines on lists of bytes, plainly: what Join tells; a text behind another one. Conditions: none. -/
import Derived.Test.YtoiolepengcagaaDoorWordsP
import Derived.Lib.Replace
import Derived.Lib.CountLaws
import Derived.Lib.IndexLaws
namespace Go.Proofs.YtoiolepengcagaaDoor
abbrev Bl := List UInt8
/-! ### strings.ReplaceAll, byte by byte -/
theorem repl_cons (old new : Bl) (hold : old ≠ []) (hne : (old == new) = false) (c : UInt8) (l : Bl) :
    Lib.replaceAll (c :: l) old new = if old.isPrefixOf (c :: l) = true then new ++ Lib.replaceAll ((c :: l).drop old.length) old new else c :: Lib.replaceAll l old new := by
  have hR : ∀ s, Lib.replaceAll s old new = Lib.replaceK old new (Lib.count s old) s := by
    intro s
    unfold Lib.replaceAll Lib.replace Lib.replaceNum
    rw [hne, if_neg (by decide), if_pos (.inl (by decide))]
  rw [hR, hR, hR]
  have hi : Lib.index (c :: l) old = if old.isPrefixOf (c :: l) = true then 0 else if (Lib.index l old == -1) = true then -1 else Lib.index l old + 1 := by
    rw [Lib.index]
  by_cases hp : old.isPrefixOf (c :: l) = true
  · rw [if_pos hp] at hi ⊢
    have h0 : Lib.index (c :: l) old = ((0 : Nat) : Int) := hi
    have q1 := Lib.count_hit hold h0
    rw [Nat.add_comm 1] at q1
    rw [q1, Lib.replaceK_hit _ _ _ _ _ h0]
    simp
  · rw [if_neg hp] at hi ⊢
    by_cases hm : (Lib.index l old == -1) = true
    · rw [if_pos hm] at hi
      rw [Lib.count_miss hi, Lib.count_miss (eq_of_beq hm)]
      rfl
    · rw [if_neg hm] at hi
      have hge := Lib.index_ge l old
      obtain ⟨i, hii⟩ : ∃ i : Nat, Lib.index l old = i := ⟨(Lib.index l old).toNat, by
        have : Lib.index l old ≠ -1 := fun e => hm (by rw [e]; rfl)
        omega⟩
      have h1 : Lib.index (c :: l) old = ((i + 1 : Nat) : Int) := by rw [hi, hii]; omega
      have q1 := Lib.count_hit hold h1
      rw [Nat.add_comm 1] at q1
      have q2 := Lib.count_hit hold hii
      rw [Nat.add_comm 1] at q2
      rw [q1, Lib.replaceK_hit _ _ _ _ _ h1, q2, Lib.replaceK_hit _ _ _ _ _ hii]
      have e : (c :: l).drop (i + 1 + old.length) = l.drop (i + old.length) := by rw [show i + 1 + old.length = (i + old.length) + 1 by omega]; rfl
      rw [e]
      rfl
theorem repl_nil (old new : Bl) (hold : old ≠ []) : Lib.replaceAll [] old new = [] := by
  unfold Lib.replaceAll Lib.replace
  split
  · rfl
  · have : Lib.index [] old = -1 := by
      rw [Lib.index]
      cases old with
      | nil => exact absurd rfl hold
      | cons _ _ => rfl
    unfold Lib.replaceNum
    rw [if_pos (.inl (by decide)), Lib.count_miss this]
    rfl
/-- with the sign ahead of every hash -/
def shw (l : Bl) : Bl := Lib.replaceAll l [35] [92, 35]
/-- without it -/
def une (l : Bl) : Bl := Lib.replaceAll l [92, 35] [35]
theorem shw_cons (c : UInt8) (l : Bl) : shw (c :: l) = if c = 35 then 92 :: 35 :: shw l else c :: shw l := by
  unfold shw
  rw [repl_cons _ _ (by simp) (by decide)]
  by_cases h : c = 35
  · subst h
    rw [if_pos rfl, if_pos (by simp [List.isPrefixOf])]
    rfl
  · rw [if_neg h, if_neg (by
      simp [List.isPrefixOf]
      exact fun e => h e.symm)]
theorem shw_nil : shw [] = [] := repl_nil _ _ (by simp)
theorem une_nil : une [] = [] := repl_nil _ _ (by simp)
theorem une_hash (l : Bl) : une (92 :: 35 :: l) = 35 :: une l := by
  unfold une
  rw [repl_cons _ _ (by simp) (by decide), if_pos (by simp [List.isPrefixOf])]
  rfl
theorem une_cons {c : UInt8} {l : Bl} (h : c ≠ 92 ∨ ∀ m, l ≠ 35 :: m) : une (c :: l) = c :: une l := by
  unfold une
  rw [repl_cons _ _ (by simp) (by decide), if_neg]
  intro hp
  cases l with
  | nil => simp [List.isPrefixOf] at hp
  | cons d m =>
    simp [List.isPrefixOf] at hp
    obtain ⟨h1, h2⟩ := hp
    rcases h with h | h
    · exact h h1.symm
    · exact h m (by rw [← h2])
theorem shw_head (l : Bl) : ∀ m, shw l ≠ 35 :: m := by
  intro m h
  cases l with
  | nil => rw [shw_nil] at h; cases h
  | cons c l =>
    rw [shw_cons] at h
    split at h
    · injection h with h _; exact absurd h (by decide)
    · rename_i hc; injection h with h _; exact hc h
theorem une_shw (l : Bl) : une (shw l) = l := by
  induction l with
  | nil => rw [shw_nil, une_nil]
  | cons c l ih =>
    rw [shw_cons]
    split
    · rename_i h; subst h; rw [une_hash, ih]
    · rw [une_cons (.inr (shw_head l)), ih]
/-- up to what is said aside -/
def hcut : UInt8 → Bl → Bl
  | _, [] => []
  | p, c :: l => if c = 35 ∧ p ≠ 92 then [] else c :: hcut c l
theorem hcut_shw (l : Bl) : ∀ p, hcut p (shw l) = shw l := by
  induction l with
  | nil => intro p; rw [shw_nil]; rfl
  | cons c l ih =>
    intro p
    rw [shw_cons]
    split
    · rename_i h
      show (if (92 : UInt8) = 35 ∧ p ≠ 92 then [] else 92 :: (if (35 : UInt8) = 35 ∧ (92 : UInt8) ≠ 92 then [] else 35 :: hcut 35 (shw l))) = _
      rw [if_neg (fun e => absurd e.1 (by decide)), if_neg (fun e => e.2 rfl), ih]
    · rename_i h
      show (if c = 35 ∧ p ≠ 92 then [] else c :: hcut c (shw l)) = _
      rw [if_neg (fun e => h e.1), ih]
/-- a line as it is told -/
def cutL (l : Bl) : Bl := Lib.trimRightS (une (hcut 0 l)) [32, 9]
theorem cutL_shw (l : Bl) : cutL (shw l) = Lib.trimRightS l [32, 9] := by unfold cutL; rw [hcut_shw, une_shw]
/-! ### the first line -/
def nl : Bl → Bl × Bl
  | [] => ([], [])
  | c :: l => if c = 10 then ([], l) else (c :: (nl l).1, (nl l).2)
theorem nl_no {l : Bl} (h : (10 : UInt8) ∉ l) : nl l = (l, []) := by
  induction l with
  | nil => rfl
  | cons c l ih =>
    have hc : c ≠ 10 := fun e => h (e ▸ List.mem_cons_self)
    rw [nl, if_neg hc, ih (fun e => h (List.mem_cons_of_mem _ e))]
theorem nl_yes {u : Bl} (h : (10 : UInt8) ∉ u) (v : Bl) : nl (u ++ 10 :: v) = (u, v) := by
  induction u with
  | nil => rfl
  | cons c u ih =>
    have hc : c ≠ 10 := fun e => h (e ▸ List.mem_cons_self)
    rw [List.cons_append, nl, if_neg hc, ih (fun e => h (List.mem_cons_of_mem _ e))]
theorem nl_split (l : Bl) : ((10 : UInt8) ∉ l ∧ nl l = (l, [])) ∨ ∃ u v, l = u ++ 10 :: v ∧ (10 : UInt8) ∉ u ∧ nl l = (u, v) := by
  induction l with
  | nil => exact .inl ⟨by simp, rfl⟩
  | cons c l ih =>
    by_cases hc : c = 10
    · subst hc
      exact .inr ⟨[], l, rfl, by simp, rfl⟩
    · rw [nl, if_neg hc]
      rcases ih with ⟨h1, h2⟩ | ⟨u, v, h1, h2, h3⟩
      · exact .inl ⟨by simp [h1]; exact fun e => hc e.symm, by rw [h2]⟩
      · exact .inr ⟨c :: u, v, by rw [h1]; rfl, by simp [h2]; exact fun e => hc e.symm, by rw [h3]⟩
theorem nl_cut (l : Bl) : Lib.cut l [10] = ((nl l).1, (nl l).2, decide ((10 : UInt8) ∈ l)) := by
  unfold Lib.cut
  rcases nl_split l with ⟨h1, h2⟩ | ⟨u, v, h1, h2, h3⟩
  · have hi : Lib.index l [10] = -1 := by
      clear h2
      induction l with
      | nil => rfl
      | cons c l ih =>
        rw [Lib.index, ih (fun e => h1 (List.mem_cons_of_mem _ e))]
        have hc : c ≠ 10 := fun e => h1 (e ▸ List.mem_cons_self)
        rw [if_neg (by simp [List.isPrefixOf]; exact fun e => hc e.symm)]
        rfl
    rw [hi, if_neg (by decide), h2, decide_eq_false h1]
  · have hi : Lib.index l [10] = u.length := by
      rw [h1]
      clear h1 h3
      induction u with
      | nil => rw [List.nil_append, Lib.index, if_pos (by simp [List.isPrefixOf])]; rfl
      | cons c u ih =>
        have hc : c ≠ 10 := fun e => h2 (e ▸ List.mem_cons_self)
        rw [List.cons_append, Lib.index, ih (fun e => h2 (List.mem_cons_of_mem _ e)), if_neg (by simp [List.isPrefixOf]; exact fun e => hc e.symm)]
        rw [if_neg (by simp)]
        simp
    rw [hi, if_pos (by omega), h3, decide_eq_true (by rw [h1]; simp)]
    simp only [Int.toNat_natCast]
    rw [h1, List.take_left' rfl, ← List.drop_drop, List.drop_left' rfl]
    rfl
theorem nl_len (l : Bl) : (nl l).1.length + (nl l).2.length ≤ l.length ∧ (l ≠ [] → (nl l).2.length < l.length) := by
  rcases nl_split l with ⟨h1, h2⟩ | ⟨u, v, h1, h2, h3⟩
  · rw [h2]
    refine ⟨by simp, fun h => ?_⟩
    have := List.length_pos_iff.2 h
    simpa using this
  · rw [h3, h1]
    simp only [List.length_append, List.length_cons]
    exact ⟨by omega, fun _ => by omega⟩
/-! ### lines that go on -/
/-- a line as it is read on: without blanks ahead -/
def onl (text one : Bl) : Bl := if text = [] then one else Lib.trimLeftS one [32, 9]
def lgo : Nat → Bl → Bl → Nat → Bl × Bl × Nat
  | 0, text, s, at_ => (text, s, at_)
  | f + 1, text, s, at_ =>
    if Lib.hasSuffix (onl text (nl s).1) [92] = true ∧ (nl s).2 ≠ [] then
      lgo f (text ++ Lib.trimSuffix (onl text (nl s).1) [92] ++ [32]) (nl s).2 (at_ + 1)
    else (text ++ Lib.trimSuffix (onl text (nl s).1) [92], (nl s).2, at_)
theorem lgo_succ (f : Nat) (text s : Bl) (at_ : Nat) : lgo (f + 1) text s at_ = if Lib.hasSuffix (onl text (nl s).1) [92] = true ∧ (nl s).2 ≠ [] then lgo f (text ++ Lib.trimSuffix (onl text (nl s).1) [92] ++ [32]) (nl s).2 (at_ + 1) else (text ++ Lib.trimSuffix (onl text (nl s).1) [92], (nl s).2, at_) := by rw [lgo]
theorem lgo_fuel : ∀ f text s at_, s.length ≤ f → lgo (f + 1) text s at_ = lgo f text s at_ := by
  intro f
  induction f with
  | zero =>
    intro text s at_ h
    have : s = [] := List.length_eq_zero_iff.1 (by omega)
    subst this
    have h1 : onl text (nl []).1 = [] := by unfold onl; split <;> rfl
    have h3 : Lib.trimSuffix ([] : Bl) [92] = [] := rfl
    rw [lgo, lgo, if_neg (fun g => g.2 rfl), h1, h3, List.append_nil]
    rfl
  | succ f ih =>
    intro text s at_ h
    rw [lgo_succ (f + 1) text s at_, lgo_succ f text s at_]
    split
    · rename_i hc
      have hs : s ≠ [] := fun e => by subst e; exact hc.2 rfl
      rw [ih _ _ _ (by have := (nl_len s).2 hs; omega)]
    · rfl
theorem lgo_more (k : Nat) : ∀ f text s at_, s.length ≤ f → lgo (f + k) text s at_ = lgo f text s at_ := by
  induction k with
  | zero => intro f text s at_ _; rfl
  | succ k ih => intro f text s at_ h; rw [← Nat.add_assoc, lgo_fuel _ _ _ _ (by omega), ih _ _ _ _ h]
def lg (text s : Bl) (at_ : Nat) : Bl × Bl × Nat := lgo s.length text s at_
theorem lg_eq (text s : Bl) (at_ : Nat) : lg text s at_ = if Lib.hasSuffix (onl text (nl s).1) [92] = true ∧ (nl s).2 ≠ [] then lg (text ++ Lib.trimSuffix (onl text (nl s).1) [92] ++ [32]) (nl s).2 (at_ + 1) else (text ++ Lib.trimSuffix (onl text (nl s).1) [92], (nl s).2, at_) := by
  have h : lg text s at_ = lgo (s.length + 1) text s at_ := (lgo_fuel _ _ _ _ (Nat.le_refl _)).symm
  rw [h, lgo]
  split
  · rename_i hc
    have hs : s ≠ [] := fun e => by subst e; exact hc.2 rfl
    have hl := (nl_len s).2 hs
    unfold lg
    obtain ⟨k, hk⟩ : ∃ k, s.length = (nl s).2.length + k := ⟨s.length - (nl s).2.length, by omega⟩
    rw [hk, lgo_more k _ _ _ _ (Nat.le_refl _)]
  · rfl
theorem lg_len : ∀ n text s at_, s.length ≤ n → s ≠ [] → (lg text s at_).2.1.length < s.length := by
  intro n
  induction n with
  | zero => intro text s at_ h hs; exact absurd (List.length_eq_zero_iff.1 (by omega)) hs
  | succ n ih =>
    intro text s at_ h hs
    have hl := (nl_len s).2 hs
    rw [lg_eq]
    split
    · rename_i hc
      have := ih (text ++ Lib.trimSuffix (onl text (nl s).1) [92] ++ [32]) (nl s).2 (at_ + 1) (by omega) hc.2
      omega
    · exact hl
/-! ### all lines -/
def jgo : Nat → Bl → Nat → List (Nat × Bl)
  | 0, _, _ => []
  | f + 1, s, at_ => if s = [] then [] else (if cutL (lg [] s (at_ + 1)).1 = [] then [] else [(at_ + 1, cutL (lg [] s (at_ + 1)).1)]) ++ jgo f (lg [] s (at_ + 1)).2.1 (lg [] s (at_ + 1)).2.2
theorem jgo_succ (f : Nat) (s : Bl) (at_ : Nat) : jgo (f + 1) s at_ = if s = [] then [] else (if cutL (lg [] s (at_ + 1)).1 = [] then [] else [(at_ + 1, cutL (lg [] s (at_ + 1)).1)]) ++ jgo f (lg [] s (at_ + 1)).2.1 (lg [] s (at_ + 1)).2.2 := by rw [jgo]
theorem jgo_fuel : ∀ f s at_, s.length ≤ f → jgo (f + 1) s at_ = jgo f s at_ := by
  intro f
  induction f with
  | zero =>
    intro s at_ h
    have : s = [] := List.length_eq_zero_iff.1 (by omega)
    subst this
    rw [jgo, jgo, if_pos rfl]
  | succ f ih =>
    intro s at_ h
    rw [jgo_succ (f + 1) s at_, jgo_succ f s at_]
    split
    · rfl
    · rename_i hs
      rw [ih _ _ (by have := lg_len _ [] s (at_ + 1) (Nat.le_refl _) hs; omega)]
theorem jgo_more (k : Nat) : ∀ f s at_, s.length ≤ f → jgo (f + k) s at_ = jgo f s at_ := by
  induction k with
  | zero => intro f s at_ _; rfl
  | succ k ih => intro f s at_ h; rw [← Nat.add_assoc, jgo_fuel _ _ _ (by omega), ih _ _ _ h]
def jg (s : Bl) (at_ : Nat) : List (Nat × Bl) := jgo s.length s at_
theorem jg_nil (at_ : Nat) : jg [] at_ = [] := rfl
theorem jg_eq {s : Bl} (hs : s ≠ []) (at_ : Nat) : jg s at_ = (if cutL (lg [] s (at_ + 1)).1 = [] then [] else [(at_ + 1, cutL (lg [] s (at_ + 1)).1)]) ++ jg (lg [] s (at_ + 1)).2.1 (lg [] s (at_ + 1)).2.2 := by
  have h : jg s at_ = jgo (s.length + 1) s at_ := (jgo_fuel _ _ _ (Nat.le_refl _)).symm
  rw [h, jgo, if_neg hs]
  have hl := lg_len _ [] s (at_ + 1) (Nat.le_refl _) hs
  unfold jg
  obtain ⟨k, hk⟩ : ∃ k, s.length = (lg [] s (at_ + 1)).2.1.length + k := ⟨s.length - (lg [] s (at_ + 1)).2.1.length, by omega⟩
  have := jgo_more k _ (lg [] s (at_ + 1)).2.1 (lg [] s (at_ + 1)).2.2 (Nat.le_refl _)
  rw [← hk] at this
  rw [this]
def joinL (s : Bl) : List (Nat × Bl) := jg s 0
/-- the numbers moved on -/
def moved (k : Nat) (l : List (Nat × Bl)) : List (Nat × Bl) := l.map fun x => (x.1 + k, x.2)
theorem lg_moved (k : Nat) : ∀ n text s at_, s.length ≤ n → lg text s (at_ + k) = ((lg text s at_).1, (lg text s at_).2.1, (lg text s at_).2.2 + k) := by
  intro n
  induction n with
  | zero =>
    intro text s at_ h
    have : s = [] := List.length_eq_zero_iff.1 (by omega)
    subst this
    rfl
  | succ n ih =>
    intro text s at_ h
    rw [lg_eq, lg_eq text s at_]
    split
    · rename_i hc
      have hs : s ≠ [] := fun e => by subst e; exact hc.2 rfl
      have hl := (nl_len s).2 hs
      rw [show at_ + k + 1 = (at_ + 1) + k by omega]
      exact ih _ _ _ (by omega)
    · rfl
theorem jg_moved (k : Nat) : ∀ n s at_, s.length ≤ n → jg s (at_ + k) = moved k (jg s at_) := by
  intro n
  induction n with
  | zero =>
    intro s at_ h
    have : s = [] := List.length_eq_zero_iff.1 (by omega)
    subst this
    rfl
  | succ n ih =>
    intro s at_ h
    by_cases hs : s = []
    · subst hs; rfl
    · have hl := lg_len _ [] s (at_ + 1) (Nat.le_refl _) hs
      rw [jg_eq hs, jg_eq hs, show at_ + k + 1 = (at_ + 1) + k by omega, lg_moved k _ _ _ _ (Nat.le_refl _)]
      simp only
      rw [ih _ _ (by omega)]
      unfold moved
      rw [List.map_append]
      congr 1
      split <;> rfl
/-! ### a text behind another one -/
/-- ends with a point and a line's end -/
def Dotted (w : Bl) : Prop := ∃ v, w = v ++ [46, 10]
theorem nl_dotted {w : Bl} (h : Dotted w) : (∃ v, nl w = (v ++ [46], []) ∧ w = v ++ [46, 10] ∧ (10 : UInt8) ∉ v) ∨ ∃ u r, nl w = (u, r) ∧ w = u ++ 10 :: r ∧ (10 : UInt8) ∉ u ∧ Dotted r := by
  obtain ⟨v, rfl⟩ := h
  rcases nl_split v with ⟨h1, _⟩ | ⟨u, r, h1, h2, _⟩
  · left
    refine ⟨v, ?_, rfl, h1⟩
    have : v ++ [46, 10] = (v ++ [46]) ++ 10 :: [] := by simp
    rw [this, nl_yes (by simp [h1])]
  · right
    refine ⟨u, r ++ [46, 10], ?_, by rw [h1]; simp, h2, r, rfl⟩
    rw [h1, List.append_assoc, List.cons_append, nl_yes h2]
theorem suffix_dot (v : Bl) : Lib.hasSuffix (v ++ [46]) [92] = false := by
  unfold Lib.hasSuffix
  rw [← Bool.not_eq_true, List.isSuffixOf_iff_suffix]
  intro h
  have h1 := List.IsSuffix.getLast h (by simp)
  simp at h1
theorem trimLeft_dot (v : Bl) : ∃ v', Lib.trimLeftS (v ++ [46]) [32, 9] = v' ++ [46] := by
  unfold Lib.trimLeftS
  induction v with
  | nil => exact ⟨[], rfl⟩
  | cons c v ih =>
    rw [List.cons_append, List.dropWhile_cons]
    split
    · exact ih
    · exact ⟨c :: v, rfl⟩
theorem onl_dot (text v : Bl) : Lib.hasSuffix (onl text (v ++ [46])) [92] = false := by
  unfold onl
  split
  · exact suffix_dot v
  · obtain ⟨v', e⟩ := trimLeft_dot v
    rw [e]
    exact suffix_dot v'
theorem lg_behind : ∀ n text w t at_, w.length ≤ n → Dotted w → lg text (w ++ t) at_ = ((lg text w at_).1, (lg text w at_).2.1 ++ t, (lg text w at_).2.2) ∧
    ((lg text w at_).2.1 = [] ∨ Dotted (lg text w at_).2.1) ∧ (lg text w at_).2.2 + (lg text w at_).2.1.count 10 + 1 = at_ + w.count 10 := by
  intro n
  induction n with
  | zero =>
    intro text w t at_ h hw
    obtain ⟨v, rfl⟩ := hw
    simp at h
  | succ n ih =>
    intro text w t at_ h hw
    rcases nl_dotted hw with ⟨v, h1, h2, h3⟩ | ⟨u, r, h1, h2, h3, h4⟩
    · have e : nl (w ++ t) = (v ++ [46], t) := by
        rw [h2, show v ++ [46, 10] ++ t = (v ++ [46]) ++ 10 :: t by simp, nl_yes (by simp [h3])]
      rw [lg_eq text (w ++ t), lg_eq text w, e, h1]
      simp only [onl_dot]
      rw [if_neg (by simp), if_neg (by simp)]
      refine ⟨rfl, .inl rfl, ?_⟩
      have hc : v.count 10 = 0 := List.count_eq_zero.2 h3
      rw [h2, List.count_append, hc]
      simp
    · have e : nl (w ++ t) = (u, r ++ t) := by rw [h2, List.append_assoc, List.cons_append, nl_yes h3]
      have hr : r ≠ [] := by obtain ⟨v, rfl⟩ := h4; simp
      have hrt : r ++ t ≠ [] := by simp [hr]
      have hcw : w.count 10 = r.count 10 + 1 := by
        have hc : u.count 10 = 0 := List.count_eq_zero.2 h3
        rw [h2, List.count_append, hc]
        simp
      rw [lg_eq text (w ++ t), lg_eq text w, e, h1]
      by_cases hs : Lib.hasSuffix (onl text u) [92] = true
      · rw [if_pos ⟨hs, hrt⟩, if_pos ⟨hs, hr⟩]
        have hlr : r.length ≤ n := by rw [h2] at h; simp at h; omega
        obtain ⟨i1, i2, i3⟩ := ih (text ++ Lib.trimSuffix (onl text u) [92] ++ [32]) r t (at_ + 1) hlr h4
        exact ⟨i1, i2, by rw [hcw]; simp only; omega⟩
      · rw [if_neg (fun g => hs g.1), if_neg (fun g => hs g.1)]
        exact ⟨rfl, .inr h4, by rw [hcw]; show at_ + r.count 10 + 1 = _; omega⟩
theorem jg_behind (t : Bl) : ∀ n w at_, w.length ≤ n → (w = [] ∨ Dotted w) → jg (w ++ t) at_ = jg w at_ ++ jg t (at_ + w.count 10) := by
  intro n
  induction n with
  | zero =>
    intro w at_ h hw
    have : w = [] := List.length_eq_zero_iff.1 (by omega)
    subst this
    rw [jg_nil]; rfl
  | succ n ih =>
    intro w at_ h hw
    rcases hw with rfl | hw
    · rw [jg_nil]; rfl
    · have hne : w ≠ [] := by obtain ⟨v, rfl⟩ := hw; simp
      have hnt : w ++ t ≠ [] := by simp [hne]
      obtain ⟨i1, i2, i3⟩ := lg_behind _ [] w t (at_ + 1) (Nat.le_refl _) hw
      have hl := lg_len _ [] w (at_ + 1) (Nat.le_refl _) hne
      rw [jg_eq hnt, jg_eq hne, i1]
      simp only
      rw [ih _ _ (by omega) i2, List.append_assoc, show (lg [] w (at_ + 1)).2.2 + (lg [] w (at_ + 1)).2.1.count 10 = at_ + w.count 10 by omega]
theorem join_behind (w t : Bl) (h : Dotted w) : joinL (w ++ t) = joinL w ++ moved (w.count 10) (joinL t) := by
  unfold joinL
  rw [jg_behind t _ _ _ (Nat.le_refl _) (.inr h), jg_moved _ _ _ _ (Nat.le_refl _)]
end Go.Proofs.YtoiolepengcagaaDoor
