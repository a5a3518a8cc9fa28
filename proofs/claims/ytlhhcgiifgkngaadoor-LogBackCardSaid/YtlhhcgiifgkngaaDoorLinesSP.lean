/- The lines of a text, their ends included, plainly (strings.Lines), for the laws of package log. Conditions: none. -/
namespace Go.Proofs.YtlhhcgiifgkngaaDoor
/-- the lines, their ends included -/
def linS : List UInt8 → List (List UInt8)
  | [] => []
  | c :: l => if c = 10 then [10] :: linS l else match linS l with
    | [] => [[c]]
    | x :: xs => (c :: x) :: xs
theorem linS_flat (l : List UInt8) : (linS l).flatten = l := by
  induction l with
  | nil => rfl
  | cons c l ih =>
    unfold linS
    split
    · rename_i h
      rw [List.flatten_cons, ih, h]
      rfl
    · split
      · rename_i h
        rw [h] at ih
        have : l = [] := by simpa using ih.symm
        rw [this]
        rfl
      · rename_i x xs h
        rw [h] at ih
        rw [List.flatten_cons] at ih ⊢
        rw [← ih]
        rfl
theorem linS_nil {l : List UInt8} : linS l = [] ↔ l = [] := by
  constructor
  · intro h
    have := linS_flat l
    rw [h] at this
    simpa using this.symm
  · rintro rfl
    rfl
/-- a line that ends, and what stands behind it -/
theorem linS_end (x l : List UInt8) (hx : (10 : UInt8) ∉ x) : linS (x ++ 10 :: l) = (x ++ [10]) :: linS l := by
  induction x with
  | nil =>
    show linS (10 :: l) = [10] :: linS l
    rw [linS, if_pos rfl]
  | cons c x ih =>
    have hc : c ≠ 10 := fun e => hx (by rw [e]; exact List.mem_cons_self)
    have := ih (fun h => hx (List.mem_cons_of_mem _ h))
    rw [List.cons_append, linS, if_neg hc, this]
    rfl
/-- a text without an end is one line -/
theorem linS_open (x : List UInt8) (hx : (10 : UInt8) ∉ x) (h0 : x ≠ []) : linS x = [x] := by
  induction x with
  | nil => exact absurd rfl h0
  | cons c x ih =>
    have hc : c ≠ 10 := fun e => hx (by rw [e]; exact List.mem_cons_self)
    rw [linS, if_neg hc]
    by_cases hn : x = []
    · subst hn; rfl
    · rw [ih (fun h => hx (List.mem_cons_of_mem _ h)) hn]
/-- the first line, if one ends -/
theorem linS_first (l : List UInt8) : (10 : UInt8) ∈ l → ∃ x r, (10 : UInt8) ∉ x ∧ l = x ++ 10 :: r := by
  induction l with
  | nil => intro h; cases h
  | cons c l ih =>
    intro h
    by_cases hc : c = 10
    · exact ⟨[], l, by simp, by rw [hc]; rfl⟩
    · obtain ⟨x, r, h1, h2⟩ := ih (by rcases List.mem_cons.1 h with h | h; exact absurd h.symm hc; exact h)
      exact ⟨c :: x, r, by
        intro h3
        rcases List.mem_cons.1 h3 with h3 | h3
        · exact hc h3.symm
        · exact h1 h3, by rw [h2]; rfl⟩
/-- the lines of the first k lines are these -/
theorem linS_take : ∀ (k : Nat) (l : List UInt8), k < (linS l).length → linS ((linS l).take k).flatten = (linS l).take k := by
  intro k
  induction k with
  | zero => intro l _; rfl
  | succ k ih =>
    intro l hk
    by_cases h : (10 : UInt8) ∈ l
    · obtain ⟨x, r, h1, rfl⟩ := linS_first l h
      rw [linS_end x r h1] at hk ⊢
      rw [List.length_cons] at hk
      rw [List.take_succ_cons, List.flatten_cons, List.append_assoc]
      show linS (x ++ 10 :: ((linS r).take k).flatten) = _
      rw [linS_end x _ h1, ih r (by omega)]
    · exfalso
      by_cases h0 : l = []
      · subst h0; simp [linS] at hk
      · rw [linS_open l h h0] at hk
        simp at hk
/-- lines that all end, joined, have these lines -/
theorem linS_texts : ∀ ls : List (List UInt8), (∀ s ∈ ls, ∃ y, (10 : UInt8) ∉ y ∧ s = y ++ [10]) → linS ls.flatten = ls := by
  intro ls
  induction ls with
  | nil => intro _; rfl
  | cons s ls ih =>
    intro h
    obtain ⟨y, h1, rfl⟩ := h s List.mem_cons_self
    rw [List.flatten_cons, List.append_assoc]
    show linS (y ++ 10 :: ls.flatten) = _
    rw [linS_end y _ h1, ih (fun x hx => h x (List.mem_cons_of_mem _ hx))]
/-- how far the n lines ahead reach: the loop of LogWrong -/
def scanN : List UInt8 → Nat → Nat
  | [], _ => 0
  | _ :: _, 0 => 0
  | c :: l, n + 1 => 1 + scanN l (if c = 10 then n else n + 1)
theorem scanN_zero (l : List UInt8) : scanN l 0 = 0 := by cases l <;> rfl
theorem scanN_end (x l : List UInt8) (hx : (10 : UInt8) ∉ x) (n : Nat) : scanN (x ++ 10 :: l) (n + 1) = x.length + 1 + scanN l n := by
  induction x with
  | nil =>
    show scanN (10 :: l) (n + 1) = _
    rw [scanN, if_pos rfl]
    simp
  | cons c x ih =>
    have hc : c ≠ 10 := fun e => hx (by rw [e]; exact List.mem_cons_self)
    rw [List.cons_append, scanN, if_neg hc, ih (fun h => hx (List.mem_cons_of_mem _ h)), List.length_cons]
    omega
theorem scanN_take : ∀ (n : Nat) (l : List UInt8), n < (linS l).length → l.take (scanN l n) = ((linS l).take n).flatten := by
  intro n
  induction n with
  | zero => intro l _; rw [scanN_zero]; rfl
  | succ n ih =>
    intro l hk
    by_cases h : (10 : UInt8) ∈ l
    · obtain ⟨x, r, h1, rfl⟩ := linS_first l h
      rw [linS_end x r h1] at hk ⊢
      rw [List.length_cons] at hk
      rw [scanN_end x r h1, List.take_succ_cons, List.flatten_cons, ← ih r (by omega), List.append_assoc]
      show (x ++ 10 :: r).take _ = x ++ (10 :: r.take (scanN r n))
      rw [show x.length + 1 + scanN r n = x.length + (scanN r n + 1) by omega, List.take_length_add_append, List.take_succ_cons]
    · exfalso
      by_cases h0 : l = []
      · subst h0; simp [linS] at hk
      · rw [linS_open l h h0] at hk
        simp at hk
end Go.Proofs.YtlhhcgiifgkngaaDoor
