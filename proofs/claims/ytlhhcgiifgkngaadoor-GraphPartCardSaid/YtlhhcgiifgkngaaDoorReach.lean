/- Rows of sets as a graph: the step from a set, the sets within so many steps, the closure, and how they answer the laws of reach. Conditions: none. -/
import Derived.Test.YtlhhcgiifgkngaaDoorSets
namespace Go.Proofs.YtlhhcgiifgkngaaDoor
/-- row n, none if there is none -/
def row (r : List B) (n : Nat) : B := r.getD n 0#64
theorem row_lt {r : List B} {n k : Nat} (h : has (row r n) k = true) : n < r.length := by
  rcases Nat.lt_or_ge n r.length with h1 | h1
  · exact h1
  · unfold row at h
    rw [List.getD_eq_getElem?_getD, List.getElem?_eq_none h1] at h
    simp [has] at h
/-- all of a set are numbers of rows -/
def inB (n : Nat) (s : B) : Bool := decide (s &&& ~~~belowB n = 0#64)
theorem inB_iff {n : Nat} {s : B} : inB n s = true ↔ ∀ k, has s k = true → k < n := by
  unfold inB
  rw [decide_eq_true_iff, eq_zero_iff]
  constructor
  · intro h k hk
    have h1 := h k
    rw [has_and, hk, has_not _ _ (has_lt hk), has_below _ _ (has_lt hk)] at h1
    simpa using h1
  · intro h k
    rw [has_and]
    by_cases hk : has s k = true
    · rw [has_not _ _ (has_lt hk), has_below _ _ (has_lt hk)]
      simp [h k hk]
    · have : has s k = false := by simpa using hk
      simp [this]
def okSets (n : Nat) (ss : List B) : Bool := ss.all (inB n)
def chkN (n : Nat) (ss : List B) : Int := if okSets n ss = true then 0 else 4
def chkR (r : List B) : Int := if 64 < r.length then 2 else chkN r.length r
def chks (r ss : List B) : Int := if chkR r ≠ 0 then chkR r else chkN r.length ss
/-- the rows are a graph -/
def Valid (r : List B) : Prop := r.length ≤ 64 ∧ ∀ i k, has (row r i) k = true → k < r.length
theorem okSets_rows {r : List B} : okSets r.length r = true ↔ ∀ i k, has (row r i) k = true → k < r.length := by
  unfold okSets
  rw [List.all_eq_true]
  constructor
  · intro h i k hk
    have hi := row_lt hk
    have e : row r i = r[i] := by unfold row; simp [hi]
    exact inB_iff.1 (h _ (List.getElem_mem hi)) k (by rw [← e]; exact hk)
  · intro h s hs
    obtain ⟨i, hi, rfl⟩ := List.mem_iff_getElem.1 hs
    refine inB_iff.2 fun k hk => h i k ?_
    have e : row r i = r[i] := by unfold row; simp [hi]
    rw [e]; exact hk
theorem chkR_zero {r : List B} : chkR r = 0 ↔ Valid r := by
  unfold chkR chkN Valid
  rw [← okSets_rows]
  by_cases h : 64 < r.length
  · simp [h]; omega
  · by_cases h2 : okSets r.length r = true <;> simp [h, h2]; omega
theorem chks_zero {r ss : List B} : chks r ss = 0 ↔ Valid r ∧ ∀ s ∈ ss, ∀ k, has s k = true → k < r.length := by
  unfold chks
  have hs : okSets r.length ss = true ↔ ∀ s ∈ ss, ∀ k, has s k = true → k < r.length := by
    unfold okSets; rw [List.all_eq_true]
    exact ⟨fun h s hs => inB_iff.1 (h s hs), fun h s hs => inB_iff.2 (h s hs)⟩
  rw [← hs, ← chkR_zero]
  by_cases h : chkR r = 0
  · unfold chkN
    by_cases h2 : okSets r.length ss = true <;> simp [h, h2]
  · simp [h]
/-- one step from a set -/
def stp (r : List B) (s : B) : B := (lst s).foldl (fun a n => a ||| row r n) 0#64
theorem has_foldl (f : Nat → B) (l : List Nat) (a : B) (k : Nat) : has (l.foldl (fun a n => a ||| f n) a) k = true ↔ has a k = true ∨ ∃ n ∈ l, has (f n) k = true := by
  induction l generalizing a with
  | nil => simp
  | cons x l ih =>
    rw [List.foldl_cons, ih, has_or]
    simp only [Bool.or_eq_true, List.mem_cons]
    constructor
    · rintro ((h | h) | ⟨n, hn, h⟩)
      · exact .inl h
      · exact .inr ⟨x, .inl rfl, h⟩
      · exact .inr ⟨n, .inr hn, h⟩
    · rintro (h | ⟨n, rfl | hn, h⟩)
      · exact .inl (.inl h)
      · exact .inl (.inr h)
      · exact .inr ⟨n, hn, h⟩
theorem has_stp {r : List B} {s : B} {k : Nat} : has (stp r s) k = true ↔ ∃ n, has s n = true ∧ has (row r n) k = true := by
  unfold stp
  rw [has_foldl, has_zero]
  constructor
  · rintro (h | ⟨n, hn, h⟩)
    · cases h
    · exact ⟨n, mem_lst.1 hn, h⟩
  · rintro ⟨n, hn, h⟩
    exact .inr ⟨n, mem_lst.2 hn, h⟩
theorem eq_of_iff {s t : B} (h : ∀ k, has s k = true ↔ has t k = true) : s = t := set_ext fun k _ => by
  have := h k
  cases h1 : has s k <;> cases h2 : has t k <;> simp [h1, h2] at this <;> rfl
/-- within so many steps -/
def ball (r : List B) : Nat → B → B
  | 0, s => s
  | k + 1, s => ball r k s ||| stp r (ball r k s)
theorem has_ball_succ {r : List B} {i : Nat} {s : B} {k : Nat} : has (ball r (i + 1) s) k = true ↔ has (ball r i s) k = true ∨ ∃ n, has (ball r i s) n = true ∧ has (row r n) k = true := by
  show has (ball r i s ||| stp r (ball r i s)) k = true ↔ _
  rw [has_or, Bool.or_eq_true, has_stp]
theorem ball_add (r : List B) (i k : Nat) (s : B) : ball r k (ball r i s) = ball r (i + k) s := by
  induction k with
  | zero => rfl
  | succ k ih =>
    show ball r k (ball r i s) ||| stp r (ball r k (ball r i s)) = ball r (i + k + 1) s
    rw [ih]; rfl
theorem ball_mono {r : List B} {i j : Nat} (h : i ≤ j) {s : B} {k : Nat} (hk : has (ball r i s) k = true) : has (ball r j s) k = true := by
  induction j with
  | zero => have : i = 0 := by omega
            subst this; exact hk
  | succ j ih =>
    rcases Nat.lt_or_ge i (j + 1) with h1 | h1
    · exact has_ball_succ.2 (.inl (ih (by omega)))
    · have : i = j + 1 := by omega
      subst this; exact hk
theorem ball_self {r : List B} (i : Nat) {s : B} {k : Nat} (hk : has s k = true) : has (ball r i s) k = true := ball_mono (i := 0) (Nat.zero_le _) hk
/-- closed: what any of it needs is in it -/
def Closed (r : List B) (x : B) : Prop := ∀ n k, has x n = true → has (row r n) k = true → has x k = true
theorem ball_least {r : List B} {s x : B} (hx : Closed r x) (hs : ∀ k, has s k = true → has x k = true) (i : Nat) (k : Nat) (h : has (ball r i s) k = true) : has x k = true := by
  induction i generalizing k with
  | zero => exact hs k h
  | succ i ih =>
    rcases has_ball_succ.1 h with h | ⟨n, hn, h⟩
    · exact ih k h
    · exact hx n k (ih n hn) h
theorem ball_stable {r : List B} {i : Nat} {s : B} (h : Closed r (ball r i s)) (j : Nat) (hj : i ≤ j) : ball r j s = ball r i s := by
  obtain ⟨d, rfl⟩ : ∃ d, j = i + d := ⟨j - i, by omega⟩
  rw [← ball_add]
  apply eq_of_iff
  intro k
  exact ⟨fun hk => ball_least h (fun _ hh => hh) d k hk, fun hk => ball_self d hk⟩
/-- each step that is not closed brings one more number -/
theorem cnt_lt_of {s t : B} (h : ∀ k, has s k = true → has t k = true) {x : Nat} (hx : has t x = true) (hs : has s x = false) : cnt s < cnt t := by
  rw [cnt_lst, cnt_lst]
  have hsub : lst s = (lst t).filter (has s) := by
    unfold lst
    rw [List.filter_filter]
    apply List.filter_congr
    intro k _
    cases h1 : has s k
    · simp
    · simp [h k h1]
  rw [hsub]
  rcases Nat.lt_or_ge ((lst t).filter (has s)).length (lst t).length with h1 | h1
  · exact h1
  · have h2 := List.length_filter_eq_length_iff.1 (Nat.le_antisymm (List.length_filter_le _ _) h1) x (mem_lst.2 hx)
    rw [hs] at h2; cases h2
theorem not_closed {r : List B} {i : Nat} {s : B} (h : ¬ Closed r (ball r i s)) : cnt (ball r i s) < cnt (ball r (i + 1) s) := by
  unfold Closed at h
  simp only [Classical.not_forall] at h
  obtain ⟨n, k, h1, h2, h3⟩ := h
  exact cnt_lt_of (fun k hk => has_ball_succ.2 (.inl hk)) (has_ball_succ.2 (.inr ⟨n, h1, h2⟩)) (by simpa using h3)
theorem ball_grow {r : List B} {i : Nat} {s : B} : (∃ j, j ≤ i ∧ Closed r (ball r j s)) ∨ cnt s + i + 1 ≤ cnt (ball r (i + 1) s) := by
  induction i with
  | zero =>
    by_cases h : Closed r (ball r 0 s)
    · exact .inl ⟨0, Nat.le_refl _, h⟩
    · right; have := not_closed h; show cnt s + 1 ≤ _; exact this
  | succ i ih =>
    rcases ih with ⟨j, hj, h⟩ | h
    · exact .inl ⟨j, by omega, h⟩
    · by_cases hc : Closed r (ball r (i + 1) s)
      · exact .inl ⟨i + 1, Nat.le_refl _, hc⟩
      · right; have := not_closed hc; omega
/-- all that is come to -/
def cls (r : List B) (s : B) : B := ball r 64 s
theorem cls_closed (r : List B) (s : B) : Closed r (cls r s) := by
  rcases @ball_grow r 64 s with ⟨j, hj, h⟩ | h
  · unfold cls; rw [ball_stable h 64 hj]; exact h
  · have := cnt_le (ball r (64 + 1) s); omega
theorem cls_eq {r : List B} {s : B} {i : Nat} (h : Closed r (ball r i s)) : cls r s = ball r i s := by
  unfold cls
  rcases Nat.lt_or_ge i 64 with h1 | h1
  · exact ball_stable h 64 (by omega)
  · exact (ball_stable (cls_closed r s) i h1).symm
theorem cls_self {r : List B} {s : B} {k : Nat} (h : has s k = true) : has (cls r s) k = true := ball_self _ h
theorem cls_least {r : List B} {s x : B} (hx : Closed r x) (hs : ∀ k, has s k = true → has x k = true) {k : Nat} (h : has (cls r s) k = true) : has x k = true := ball_least hx hs _ k h
theorem cls_idem (r : List B) (s : B) : cls r (cls r s) = cls r s := eq_of_iff fun _ => ⟨cls_least (cls_closed r s) (fun _ h => h), cls_self⟩
theorem cls_mono {r : List B} {s t : B} (h : ∀ k, has s k = true → has t k = true) {k : Nat} (hk : has (cls r s) k = true) : has (cls r t) k = true :=
  cls_least (cls_closed r t) (fun k hk => cls_self (h k hk)) hk
theorem cls_or (r : List B) (s t : B) : cls r (s ||| t) = cls r s ||| cls r t := by
  apply eq_of_iff
  intro k
  rw [has_or, Bool.or_eq_true]
  constructor
  · intro h
    have hc : Closed r (cls r s ||| cls r t) := by
      intro n k hn hr
      rw [has_or, Bool.or_eq_true] at hn ⊢
      rcases hn with hn | hn
      · exact .inl (cls_closed r s n k hn hr)
      · exact .inr (cls_closed r t n k hn hr)
    have := cls_least hc (fun k hk => by
      rw [has_or, Bool.or_eq_true] at hk ⊢
      rcases hk with hk | hk
      · exact .inl (cls_self hk)
      · exact .inr (cls_self hk)) h
    rwa [has_or, Bool.or_eq_true] at this
  · rintro (h | h)
    · exact cls_mono (fun k hk => by rw [has_or, hk]; rfl) h
    · exact cls_mono (fun k hk => by rw [has_or, hk]; simp) h
/-- the closure lies among the rows' numbers -/
theorem ball_in {r : List B} (hv : Valid r) {s : B} (hs : ∀ k, has s k = true → k < r.length) (i : Nat) (k : Nat) (h : has (ball r i s) k = true) : k < r.length := by
  induction i generalizing k with
  | zero => exact hs k h
  | succ i ih =>
    rcases has_ball_succ.1 h with h | ⟨n, _, h⟩
    · exact ih k h
    · exact hv.2 n k h
theorem cnt_le_of {s : B} {n : Nat} (h : ∀ k, has s k = true → k < n) : cnt s ≤ n := by
  have h1 : cnt s = rnk s n := by
    rw [rnk_eq, cnt_lst]
    congr 1
    symm
    rw [List.filter_eq_self]
    intro a ha
    simpa using h a (mem_lst.1 ha)
  rw [h1, rnk_eq]
  have h2 : ((lst s).filter (fun k => decide (k < n))) = (List.range 64).filter (fun k => decide (k < n) && has s k) := by
    unfold lst; rw [List.filter_filter]
  rw [h2]
  have h3 : ((List.range 64).filter (fun k => decide (k < n) && has s k)).length ≤ ((List.range 64).filter (fun k => decide (k < n))).length := by
    rw [← List.filter_filter, ]
    have : ((List.range 64).filter (has s)).filter (fun k => decide (k < n)) = ((List.range 64).filter (fun k => decide (k < n))).filter (has s) := by
      rw [List.filter_filter, List.filter_filter]
      apply List.filter_congr; intro x _; rw [Bool.and_comm]
    rw [this]
    exact List.length_filter_le _ _
  have h4 : ∀ m, ((List.range m).filter (fun k => decide (k < n))).length ≤ n := by
    intro m
    induction m with
    | zero => simp
    | succ m ih =>
      rw [List.range_succ, List.filter_append, List.length_append]
      by_cases hm : m < n
      · have : ((List.range m).filter (fun k => decide (k < n))).length ≤ m := by
          have := List.length_filter_le (fun k => decide (k < n)) (List.range m); simpa using this
        simp [hm]; omega
      · simp [hm]; exact ih
  exact Nat.le_trans h3 (h4 64)
/-- as many steps as there are rows come to all -/
theorem ball_rows {r : List B} (hv : Valid r) {s : B} (hs : ∀ k, has s k = true → k < r.length) : ball r r.length s = cls r s := by
  by_cases h0 : s = 0#64
  · subst h0
    have hc : Closed r (ball r 0 0#64) := by
      intro n k hn _
      have : has (0#64 : B) n = true := hn
      rw [has_zero] at this; cases this
    rw [cls_eq hc, ball_stable hc r.length (Nat.zero_le _)]
  · have h1 : 1 ≤ cnt s := by
      have := cnt_lt_of (s := 0#64) (t := s) (fun k hk => by rw [has_zero] at hk; cases hk) (has_low h0) (has_zero _)
      omega
    rcases @ball_grow r r.length s with ⟨j, hj, h⟩ | h
    · rw [cls_eq h, ball_stable h r.length hj]
    · have := cnt_le_of (ball_in hv hs (r.length + 1))
      omega
end Go.Proofs.YtlhhcgiifgkngaaDoor
