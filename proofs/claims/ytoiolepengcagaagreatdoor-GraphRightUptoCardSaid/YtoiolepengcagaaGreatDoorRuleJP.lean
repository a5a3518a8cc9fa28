/- Rules joined, plainly. Conditions: none. -/
import Derived.Test.YtoiolepengcagaaGreatDoorMapS
namespace Go.Proofs.YtoiolepengcagaaGreatDoor
abbrev Rl := List ByteArray × List ByteArray
def rulesE : List Rl → Int
  | [] => 0
  | r :: l => if ruleE r.1 r.2 ≠ 0 then ruleE r.1 r.2 else rulesE l
def addN (zs : List ByteArray) (n : ByteArray) : List ByteArray := if Lib.containsS zs n = true then zs else zs ++ [n]
def addAll (zs N : List ByteArray) : List ByteArray := N.foldl addN zs
def grpT (g : Bs → List ByteArray) (T N : List ByteArray) : Bs → List ByteArray := T.foldl (fun g t => upd g t.data.toList (addAll (g t.data.toList) N)) g
def grpR (l : List Rl) (g : Bs → List ByteArray) : Bs → List ByteArray := l.foldl (fun g r => grpT g r.1 r.2) g
theorem addN_mem {zs : List ByteArray} {n x : ByteArray} : x ∈ addN zs n ↔ x ∈ zs ∨ x = n := by
  unfold addN
  split
  · rename_i h
    rw [Lib.containsS_iff] at h
    exact ⟨.inl, fun g => g.elim id (fun e => e ▸ h)⟩
  · simp
theorem addAll_mem {N : List ByteArray} : ∀ {zs : List ByteArray} {x : ByteArray}, x ∈ addAll zs N ↔ x ∈ zs ∨ x ∈ N := by
  induction N with
  | nil => intro zs x; simp [addAll]
  | cons n N ih =>
    intro zs x
    show x ∈ addAll (addN zs n) N ↔ _
    rw [ih, addN_mem, List.mem_cons, or_assoc]
theorem addN_len (zs : List ByteArray) (n : ByteArray) : (addN zs n).length ≤ zs.length + 1 := by
  unfold addN
  split <;> simp
theorem addAll_len (N : List ByteArray) : ∀ zs : List ByteArray, (addAll zs N).length ≤ zs.length + N.length := by
  induction N with
  | nil => intro zs; simp [addAll]
  | cons n N ih =>
    intro zs
    show (addAll (addN zs n) N).length ≤ _
    have := ih (addN zs n)
    have := addN_len zs n
    rw [List.length_cons]
    omega
theorem addAll_take {N : List ByteArray} {k : Nat} {x : ByteArray} (zs : List ByteArray) (h : N[k]? = some x) : addAll zs (N.take (k + 1)) = addN (addAll zs (N.take k)) x := by
  unfold addAll
  rw [List.take_add_one, h, List.foldl_append]
  rfl
theorem grpT_take {T N : List ByteArray} {k : Nat} {x : ByteArray} (g : Bs → List ByteArray) (h : T[k]? = some x) : grpT g (T.take (k + 1)) N = upd (grpT g (T.take k) N) x.data.toList (addAll (grpT g (T.take k) N x.data.toList) N) := by
  unfold grpT
  rw [List.take_add_one, h, List.foldl_append]
  rfl
theorem grpR_take {l : List Rl} {k : Nat} {r : Rl} (g : Bs → List ByteArray) (h : l[k]? = some r) : grpR (l.take (k + 1)) g = grpT (grpR (l.take k) g) r.1 r.2 := by
  unfold grpR
  rw [List.take_add_one, h, List.foldl_append]
  rfl
theorem ba_inj {x y : ByteArray} (h : x.data.toList = y.data.toList) : x = y := by
  cases x; cases y
  exact congrArg ByteArray.mk (Array.toList_inj.1 h)
theorem grpT_mem {N : List ByteArray} {n : ByteArray} : ∀ (T : List ByteArray) (g : Bs → List ByteArray) (t : Bs), n ∈ grpT g T N t ↔ n ∈ g t ∨ (t ∈ T.map (·.data.toList) ∧ n ∈ N) := by
  intro T
  induction T with
  | nil => intro g t; simp [grpT]
  | cons u T ih =>
    intro g t
    show n ∈ grpT (upd g u.data.toList (addAll (g u.data.toList) N)) T N t ↔ _
    rw [ih]
    by_cases h : t = u.data.toList
    · subst h
      rw [upd_same, addAll_mem]
      simp only [List.map_cons, List.mem_cons, true_or, true_and]
      constructor
      · rintro ((h | h) | ⟨_, h⟩)
        · exact .inl h
        · exact .inr h
        · exact .inr h
      · rintro (h | h)
        · exact .inl (.inl h)
        · exact .inl (.inr h)
    · rw [upd_other _ _ h]
      simp [h]
theorem grpR_mem {n : ByteArray} : ∀ (l : List Rl) (g : Bs → List ByteArray) (t : Bs), n ∈ grpR l g t ↔ n ∈ g t ∨ ∃ r ∈ l, t ∈ r.1.map (·.data.toList) ∧ n ∈ r.2 := by
  intro l
  induction l with
  | nil => intro g t; simp [grpR]
  | cons r l ih =>
    intro g t
    show n ∈ grpR l (grpT g r.1 r.2) t ↔ _
    rw [ih, grpT_mem, or_assoc]
    simp only [List.mem_cons, exists_eq_or_imp]
theorem grpT_len {N : List ByteArray} : ∀ (T : List ByteArray) (g : Bs → List ByteArray) (t : Bs), (grpT g T N t).length ≤ (g t).length + T.length * N.length := by
  intro T
  induction T with
  | nil => intro g t; simp [grpT]
  | cons u T ih =>
    intro g t
    have h := ih (upd g u.data.toList (addAll (g u.data.toList) N)) t
    show (grpT (upd g u.data.toList (addAll (g u.data.toList) N)) T N t).length ≤ _
    rw [List.length_cons, Nat.succ_mul]
    by_cases e : t = u.data.toList
    · subst e
      rw [upd_same] at h
      have := addAll_len N (g u.data.toList)
      omega
    · rw [upd_other _ _ e] at h
      omega
theorem grpR_len : ∀ (l : List Rl) (g : Bs → List ByteArray) (t : Bs), (∀ r ∈ l, r.1.length ≤ 20 ∧ r.2.length ≤ 20) → (grpR l g t).length ≤ (g t).length + l.length * 400 := by
  intro l
  induction l with
  | nil => intro g t _; simp [grpR]
  | cons r l ih =>
    intro g t h
    have h1 := ih (grpT g r.1 r.2) t (fun x hx => h x (List.mem_cons_of_mem _ hx))
    have h2 := grpT_len (N := r.2) r.1 g t
    obtain ⟨a, b⟩ := h r List.mem_cons_self
    have h3 : r.1.length * r.2.length ≤ 20 * 20 := Nat.mul_le_mul a b
    show (grpR l (grpT g r.1 r.2) t).length ≤ _
    rw [List.length_cons, Nat.succ_mul]
    omega
/-- a rule that is joined passes the check -/
theorem rulesE_take : ∀ (l : List Rl) (k : Nat) (r : Rl), rulesE (l.take k) = 0 → l[k]? = some r → rulesE (l.take (k + 1)) = ruleE r.1 r.2 := by
  intro l
  induction l with
  | nil => intro k r _ h; simp at h
  | cons x l ih =>
    intro k r h0 h
    cases k with
    | zero =>
      simp at h
      subst h
      show (if ruleE x.1 x.2 ≠ 0 then ruleE x.1 x.2 else rulesE (l.take 0)) = _
      split
      · rfl
      · rename_i h1
        have : ruleE x.1 x.2 = 0 := by simpa using h1
        rw [this]
        rfl
    | succ k =>
      rw [List.take_succ_cons] at h0 ⊢
      unfold rulesE at h0 ⊢
      split at h0
      · rename_i h1; exact absurd h0 h1
      · rename_i h1
        rw [if_neg h1]
        exact ih k r h0 (by simpa using h)
theorem rulesE_all {l : List Rl} (h : rulesE l = 0) : ∀ r ∈ l, ruleE r.1 r.2 = 0 := by
  induction l with
  | nil => intro r hr; cases hr
  | cons x l ih =>
    unfold rulesE at h
    split at h
    · rename_i h1; exact absurd h h1
    · rename_i h1
      intro r hr
      rcases List.mem_cons.1 hr with rfl | hr
      · simpa using h1
      · exact ih h r hr
theorem rulesE_more : ∀ (l m : List Rl), rulesE l ≠ 0 → rulesE (l ++ m) = rulesE l := by
  intro l
  induction l with
  | nil => intro m h; exact absurd rfl h
  | cons x l ih =>
    intro m h
    unfold rulesE at h
    show (if ruleE x.1 x.2 ≠ 0 then ruleE x.1 x.2 else rulesE (l ++ m)) = (if ruleE x.1 x.2 ≠ 0 then ruleE x.1 x.2 else rulesE l)
    split
    · rfl
    · rename_i h1
      rw [if_neg h1] at h
      exact ih m h
theorem ruleE_few {T N : List ByteArray} (h : ruleE T N = 0) : T.length ≤ 20 ∧ N.length ≤ 20 := by
  unfold ruleE at h
  split at h
  · cases h
  · rename_i h1; omega
end Go.Proofs.YtoiolepengcagaaGreatDoor
