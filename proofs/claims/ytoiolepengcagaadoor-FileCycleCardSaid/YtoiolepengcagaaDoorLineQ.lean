/- Lines that are printed and joined again, plainly. Conditions: none. -/
import Derived.Test.YtoiolepengcagaaDoorLineP
namespace Go.Proofs.YtoiolepengcagaaDoor
theorem mem_hcut {c : UInt8} : ∀ (l : Bl) (p : UInt8), c ∈ hcut p l → c ∈ l := by
  intro l
  induction l with
  | nil => intro p h; exact h
  | cons d l ih =>
    intro p h
    rw [hcut] at h
    split at h
    · cases h
    · rcases List.mem_cons.1 h with rfl | h
      · exact List.mem_cons_self
      · exact List.mem_cons_of_mem _ (ih _ h)
theorem mem_une {c : UInt8} : ∀ (n : Nat) (l : Bl), l.length ≤ n → c ∈ une l → c ∈ l := by
  intro n
  induction n with
  | zero =>
    intro l hn h
    have : l = [] := List.length_eq_zero_iff.1 (by omega)
    subst this
    rw [une_nil] at h
    exact h
  | succ n ih =>
    intro l hn h
    match l, hn, h with
    | [], _, h => rw [une_nil] at h; exact h
    | [d], _, h =>
      rw [une_cons (.inr (fun m e => by cases e)), une_nil] at h
      exact h
    | d :: e :: m, hn, h =>
      by_cases hde : d = 92 ∧ e = 35
      · obtain ⟨rfl, rfl⟩ := hde
        rw [une_hash] at h
        simp only [List.length_cons] at hn
        rcases List.mem_cons.1 h with rfl | h
        · simp
        · exact List.mem_cons_of_mem _ (List.mem_cons_of_mem _ (ih m (by omega) h))
      · rw [une_cons (by
          by_cases h1 : d = 92
          · refine .inr (fun m' e' => ?_)
            injection e' with e1 _
            exact hde ⟨h1, e1⟩
          · exact .inl h1)] at h
        simp only [List.length_cons] at hn
        rcases List.mem_cons.1 h with rfl | h
        · exact List.mem_cons_self
        · exact List.mem_cons_of_mem _ (ih _ (by simp only [List.length_cons]; omega) h)
theorem mem_trimR {c : UInt8} {l cs : Bl} (h : c ∈ Lib.trimRightS l cs) : c ∈ l := by
  unfold Lib.trimRightS at h
  rw [List.mem_reverse] at h
  have := (List.dropWhile_sublist (fun x => cs.contains x)).mem h
  exact List.mem_reverse.1 this
theorem mem_trimL {c : UInt8} {l cs : Bl} (h : c ∈ Lib.trimLeftS l cs) : c ∈ l := (List.dropWhile_sublist (fun x => cs.contains x)).mem h
theorem mem_trimSuf {c : UInt8} {l p : Bl} (h : c ∈ Lib.trimSuffix l p) : c ∈ l := by
  unfold Lib.trimSuffix at h
  split at h
  · exact List.mem_of_mem_take h
  · exact h
theorem mem_cutL {c : UInt8} {l : Bl} (h : c ∈ cutL l) : c ∈ l := mem_hcut _ _ (mem_une _ _ (Nat.le_refl _) (mem_trimR h))
theorem nl_no10 (s : Bl) : (10 : UInt8) ∉ (nl s).1 := by
  rcases nl_split s with ⟨h1, h2⟩ | ⟨u, v, h1, h2, h3⟩
  · rw [h2]; exact h1
  · rw [h3]; exact h2
theorem onl_no10 (text s : Bl) : (10 : UInt8) ∉ Lib.trimSuffix (onl text (nl s).1) [92] := by
  intro h
  have := mem_trimSuf h
  unfold onl at this
  split at this
  · exact nl_no10 s this
  · exact nl_no10 s (mem_trimL this)
theorem nl_count (s : Bl) : (nl s).2.count 10 ≤ s.count 10 ∧ ((nl s).2 ≠ [] → (nl s).2.count 10 + 1 = s.count 10) := by
  rcases nl_split s with ⟨h1, h2⟩ | ⟨u, v, h1, h2, h3⟩
  · rw [h2]; exact ⟨by simp, fun h => absurd rfl h⟩
  · have hc : u.count 10 = 0 := List.count_eq_zero.2 h2
    rw [h3, h1, List.count_append, hc]
    simp
theorem lg_facts : ∀ n text s at_, s.length ≤ n → (10 : UInt8) ∉ text → (10 : UInt8) ∉ (lg text s at_).1 ∧ at_ ≤ (lg text s at_).2.2 ∧ (lg text s at_).2.2 + (lg text s at_).2.1.count 10 ≤ at_ + s.count 10 ∧
    ((lg text s at_).2.1 ≠ [] → (lg text s at_).2.2 + (lg text s at_).2.1.count 10 + 1 ≤ at_ + s.count 10) := by
  intro n
  induction n with
  | zero =>
    intro text s at_ h ht
    have : s = [] := List.length_eq_zero_iff.1 (by omega)
    subst this
    exact ⟨ht, Nat.le_refl _, by show at_ + 0 ≤ _; simp, fun h => absurd rfl h⟩
  | succ n ih =>
    intro text s at_ h ht
    obtain ⟨c1, c2⟩ := nl_count s
    rw [lg_eq]
    split
    · rename_i hc
      have hs : s ≠ [] := fun e => by subst e; exact hc.2 rfl
      have hl := (nl_len s).2 hs
      have hc2 := c2 hc.2
      obtain ⟨i1, i2, i3, i4⟩ := ih (text ++ Lib.trimSuffix (onl text (nl s).1) [92] ++ [32]) (nl s).2 (at_ + 1) (by omega) (by
        intro g
        rcases List.mem_append.1 g with g | g
        · rcases List.mem_append.1 g with g | g
          · exact ht g
          · exact onl_no10 _ _ g
        · simp at g)
      exact ⟨i1, by omega, by omega, fun g => by have := i4 g; omega⟩
    · refine ⟨fun g => ?_, Nat.le_refl _, by simp only; omega, fun g => by simp only at g ⊢; have := c2 g; omega⟩
      rcases List.mem_append.1 g with g | g
      · exact ht g
      · exact onl_no10 _ _ g
theorem jg_facts : ∀ n s at_, s.length ≤ n → (∀ x ∈ jg s at_, at_ < x.1 ∧ x.1 ≤ at_ + s.count 10 + 1 ∧ x.2 ≠ [] ∧ (10 : UInt8) ∉ x.2) ∧ (jg s at_).Pairwise (fun x y => x.1 < y.1) := by
  intro n
  induction n with
  | zero =>
    intro s at_ h
    have : s = [] := List.length_eq_zero_iff.1 (by omega)
    subst this
    rw [jg_nil]
    exact ⟨fun x hx => (by cases hx), List.Pairwise.nil⟩
  | succ n ih =>
    intro s at_ h
    by_cases hs : s = []
    · subst hs
      rw [jg_nil]
      exact ⟨fun x hx => (by cases hx), List.Pairwise.nil⟩
    · have hl := lg_len _ [] s (at_ + 1) (Nat.le_refl _) hs
      obtain ⟨f1, f2, f3, f4⟩ := lg_facts _ [] s (at_ + 1) (Nat.le_refl _) (by simp)
      obtain ⟨i1, i2⟩ := ih (lg [] s (at_ + 1)).2.1 (lg [] s (at_ + 1)).2.2 (by omega)
      rw [jg_eq hs]
      have hrest : ∀ x ∈ jg (lg [] s (at_ + 1)).2.1 (lg [] s (at_ + 1)).2.2, at_ + 1 < x.1 ∧ x.1 ≤ at_ + s.count 10 + 1 ∧ x.2 ≠ [] ∧ (10 : UInt8) ∉ x.2 := by
        intro x hx
        obtain ⟨j1, j2, j3, j4⟩ := i1 x hx
        have hr : (lg [] s (at_ + 1)).2.1 ≠ [] := fun e => by rw [e, jg_nil] at hx; cases hx
        have := f4 hr
        exact ⟨by omega, by omega, j3, j4⟩
      split
      · refine ⟨fun x hx => ?_, i2⟩
        obtain ⟨k1, k2, k3, k4⟩ := hrest x hx
        exact ⟨by omega, k2, k3, k4⟩
      · rename_i hc
        refine ⟨fun x hx => ?_, ?_⟩
        · rcases List.mem_append.1 hx with hx | hx
          · have : x = (at_ + 1, cutL (lg [] s (at_ + 1)).1) := by simpa using hx
            subst this
            exact ⟨by simp, by simp only; omega, hc, fun g => f1 (mem_cutL g)⟩
          · obtain ⟨k1, k2, k3, k4⟩ := hrest x hx
            exact ⟨by omega, k2, k3, k4⟩
        · rw [List.singleton_append, List.pairwise_cons]
          exact ⟨fun x hx => by have := (hrest x hx).1; exact this, i2⟩
/-! ### printed -/
theorem shw_flat (l : Bl) : shw l = l.flatMap fun c => if c = 35 then [92, 35] else [c] := by
  induction l with
  | nil => rw [shw_nil]; rfl
  | cons c l ih =>
    rw [shw_cons, List.flatMap_cons, ← ih]
    split <;> rfl
theorem shw_app (a b : Bl) : shw (a ++ b) = shw a ++ shw b := by rw [shw_flat, shw_flat, shw_flat, List.flatMap_append]
theorem mem_shw {c : UInt8} {l : Bl} (h : c ∈ shw l) : c ∈ l ∨ c = 92 := by
  rw [shw_flat, List.mem_flatMap] at h
  obtain ⟨d, hd, hc⟩ := h
  split at hc
  · rename_i e
    subst e
    simp at hc
    rcases hc with rfl | rfl
    · exact .inr rfl
    · exact .inl hd
  · have : c = d := by simpa using hc
    subst this
    exact .inl hd
/-- a text of a line that is joined as it was printed -/
def PlainL (x : Bl) : Prop := ∃ k, joinL (shw x) = [(k, x)]
theorem trimR_len (l cs : Bl) : (Lib.trimRightS l cs).length ≤ l.length := by
  unfold Lib.trimRightS
  rw [List.length_reverse]
  have := (List.dropWhile_sublist (l := l.reverse) (fun x => cs.contains x)).length_le
  rwa [List.length_reverse] at this
theorem plain_facts {x : Bl} (h : PlainL x) : x ≠ [] ∧ (10 : UInt8) ∉ x ∧ Lib.hasSuffix (shw x) [92] = false ∧ cutL (shw x) = x := by
  obtain ⟨k, hk⟩ := h
  obtain ⟨_, _, hne, h10⟩ := (jg_facts _ (shw x) 0 (Nat.le_refl _)).1 (k, x) (by show _ ∈ joinL _; rw [hk]; simp)
  simp only at hne h10
  have hs10 : (10 : UInt8) ∉ shw x := by
    intro g
    rcases mem_shw g with g | g
    · exact h10 g
    · exact absurd g (by decide)
  have hsn : shw x ≠ [] := by
    intro g
    cases x with
    | nil => exact hne rfl
    | cons c l => rw [shw_cons] at g; split at g <;> cases g
  have hlg : lg [] (shw x) 1 = (Lib.trimSuffix (shw x) [92], [], 1) := by
    rw [lg_eq, nl_no hs10, if_neg (fun g => g.2 rfl)]
    rfl
  have hx : cutL (Lib.trimSuffix (shw x) [92]) = x := by
    unfold joinL at hk
    rw [jg_eq hsn, hlg] at hk
    simp only [jg_nil, List.append_nil] at hk
    split at hk
    · cases hk
    · injection hk with hk _
      injection hk with _ hk
  have hsuf : Lib.hasSuffix (shw x) [92] = false := by
    rw [← Bool.not_eq_true]
    intro g
    have g2 := g
    unfold Lib.hasSuffix at g
    rw [List.isSuffixOf_iff_suffix] at g
    rcases List.eq_nil_or_concat x with e | ⟨x', c, e⟩
    · exact hne e
    · rw [List.concat_eq_append] at e
      have hsx : shw x = shw x' ++ (if c = 35 then [92, 35] else [c]) := by
        rw [e, shw_app]
        congr 1
        rw [shw_flat]
        simp
      by_cases hc : c = 35
      · rw [if_pos hc] at hsx
        rw [hsx] at g
        have := List.IsSuffix.getLast g (by simp)
        simp at this
      · rw [if_neg hc] at hsx
        rw [hsx] at g
        have h92 := List.IsSuffix.getLast g (by simp)
        simp at h92
        have ht : Lib.trimSuffix (shw x) [92] = shw x' := by
          unfold Lib.trimSuffix
          rw [if_pos g2, hsx]
          simp
        rw [ht, cutL_shw] at hx
        have := trimR_len x' [32, 9]
        rw [hx, e] at this
        simp at this
        omega
  refine ⟨hne, h10, hsuf, ?_⟩
  have ht : Lib.trimSuffix (shw x) [92] = shw x := by
    unfold Lib.trimSuffix
    rw [hsuf]
    rfl
  rw [ht] at hx
  exact hx
theorem jg_empty (s : Bl) (at_ : Nat) : jg (10 :: s) at_ = jg s (at_ + 1) := by
  have h : lg [] (10 :: s) (at_ + 1) = ([], s, at_ + 1) := by
    rw [lg_eq]
    rfl
  rw [jg_eq (by simp), h]
  rfl
theorem jg_empties (s : Bl) : ∀ k at_, jg (List.replicate k 10 ++ s) at_ = jg s (at_ + k) := by
  intro k
  induction k with
  | zero => intro at_; rfl
  | succ k ih =>
    intro at_
    rw [List.replicate_succ, List.cons_append, jg_empty, ih]
    congr 1
    omega
theorem jg_plain {x : Bl} (h : PlainL x) (s : Bl) (at_ : Nat) : jg (shw x ++ 10 :: s) at_ = (at_ + 1, x) :: jg s (at_ + 1) := by
  obtain ⟨h1, h2, h3, h4⟩ := plain_facts h
  have hs10 : (10 : UInt8) ∉ shw x := by
    intro g
    rcases mem_shw g with g | g
    · exact h2 g
    · exact absurd g (by decide)
  have ht : Lib.trimSuffix (shw x) [92] = shw x := by
    unfold Lib.trimSuffix
    rw [h3]
    rfl
  have hlg : lg [] (shw x ++ 10 :: s) (at_ + 1) = (shw x, s, at_ + 1) := by
    rw [lg_eq, nl_yes hs10]
    have ho : onl [] (shw x) = shw x := rfl
    simp only [ho, h3]
    rw [if_neg (by simp), ht]
    rfl
  rw [jg_eq (by simp), hlg]
  simp only
  rw [h4, if_neg h1]
  rfl
/-- the printed lines -/
def prn : List (Nat × Bl) → Nat → Bl
  | [], _ => []
  | (a, x) :: l, at_ => List.replicate (a - at_ - 1) 10 ++ (shw x ++ 10 :: prn l a)
/-- lines that can be printed -/
def PrOk : List (Nat × Bl) → Nat → Prop
  | [], _ => True
  | (a, x) :: l, at_ => at_ < a ∧ PlainL x ∧ PrOk l a
theorem join_prn : ∀ l at_, PrOk l at_ → jg (prn l at_) at_ = l := by
  intro l
  induction l with
  | nil => intro at_ _; exact jg_nil at_
  | cons y l ih =>
    obtain ⟨a, x⟩ := y
    intro at_ h
    obtain ⟨h1, h2, h3⟩ := h
    show jg (List.replicate (a - at_ - 1) 10 ++ (shw x ++ 10 :: prn l a)) at_ = _
    rw [jg_empties, jg_plain h2, show at_ + (a - at_ - 1) + 1 = a by omega, ih a h3]
end Go.Proofs.YtoiolepengcagaaDoor
