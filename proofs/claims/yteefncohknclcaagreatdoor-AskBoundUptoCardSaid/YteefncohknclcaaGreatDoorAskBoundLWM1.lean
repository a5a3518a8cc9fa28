/- Texts joined: Of, Reach, GraphP, Pairs, OrderW. Conditions: theirs. -/
import Derived.Test.YteefncohknclcaaGreatDoorBitsW
import Derived.Test.YteefncohknclcaaGreatDoorSets
import Derived.Test.YteefncohknclcaaGreatDoorMem
import Derived.Deep.SlicePairs
import Derived.WideShapes
import Derived.SizedLaws
import Derived.Test.YteefncohknclcaaGreatDoorSearchW
import Derived.RegionTactic
import Derived.ChangeAlike
import Derived.Deep.QuietTactic
import Derived.BigQuiet
import Derived.StillTailTactics
namespace Go.Proofs.YteefncohknclcaaGreatDoor
theorem has_one (x n : Nat) (hn : n < 64) : has (1#64 <<< x) n = decide (n = x) := by
  unfold has
  rw [BitVec.getLsbD_shiftLeft]
  by_cases h : n = x
  · subst h; simp [hn]
  · by_cases h2 : n < x
    · simp [h, h2]
    · have h3 : n - x ≠ 0 := by omega
      simp [h, h2]
      intro _ h4
      have : n - x < 1 := by
        rcases Nat.lt_or_ge (n - x) 1 with h5 | h5
        · exact h5
        · exfalso; revert h4; simp; omega
      omega
theorem has_ofL (xs : List Nat) (n : Nat) (hn : n < 64) : has (ofL xs) n = decide (n ∈ xs) := by
  unfold ofL
  suffices h : ∀ (xs : List Nat) (s : B), has (xs.foldl (fun s x => s ||| 1#64 <<< x) s) n = (has s n || decide (n ∈ xs)) by
    rw [h, has_zero]; simp
  intro xs
  induction xs with
  | nil => intro s; simp
  | cons x xs ih =>
    intro s
    rw [List.foldl_cons, ih, has_or, has_one x n hn]
    by_cases h1 : n = x <;> by_cases h2 : n ∈ xs <;> simp [h1, h2]
theorem ofL_lst (s : B) : ofL (lst s) = s := set_ext fun n hn => by
  rw [has_ofL _ _ hn]
  by_cases h : has s n = true
  · rw [h]; simpa using mem_lst.2 h
  · have : n ∉ lst s := fun hc => h (mem_lst.1 hc)
    simp [this]
    simpa using h
end Go.Proofs.YteefncohknclcaaGreatDoor
namespace Go.Proofs.YteefncohknclcaaGreatDoor
/-- row n, none if there is none -/
def row (r : List B) (n : Nat) : B := r.getD n 0#64
theorem row_lt {r : List B} {n k : Nat} (h : has (row r n) k = true) : n < r.length := by
  rcases Nat.lt_or_ge n r.length with h1 | h1
  · exact h1
  · unfold row at h
    rw [List.getD_eq_getElem?_getD, List.getElem?_eq_none h1] at h
    simp [has] at h
/-- all of a set are numbers of rows -/
def inB (n : Nat) (s : B) : Bool := decide (s &&& ~~~belowB n = 0#64)
theorem inB_iff {n : Nat} {s : B} : inB n s = true ↔ ∀ k, has s k = true → k < n := by
  unfold inB
  rw [decide_eq_true_iff, eq_zero_iff]
  constructor
  · intro h k hk
    have h1 := h k
    rw [has_and, hk, has_not _ _ (has_lt hk), has_below _ _ (has_lt hk)] at h1
    simpa using h1
  · intro h k
    rw [has_and]
    by_cases hk : has s k = true
    · rw [has_not _ _ (has_lt hk), has_below _ _ (has_lt hk)]
      simp [h k hk]
    · have : has s k = false := by simpa using hk
      simp [this]
def okSets (n : Nat) (ss : List B) : Bool := ss.all (inB n)
def chkN (n : Nat) (ss : List B) : Int := if okSets n ss = true then 0 else 4
def chkR (r : List B) : Int := if 64 < r.length then 2 else chkN r.length r
def chks (r ss : List B) : Int := if chkR r ≠ 0 then chkR r else chkN r.length ss
/-- the rows are a graph -/
def Valid (r : List B) : Prop := r.length ≤ 64 ∧ ∀ i k, has (row r i) k = true → k < r.length
theorem okSets_rows {r : List B} : okSets r.length r = true ↔ ∀ i k, has (row r i) k = true → k < r.length := by
  unfold okSets
  rw [List.all_eq_true]
  constructor
  · intro h i k hk
    have hi := row_lt hk
    have e : row r i = r[i] := by unfold row; simp [hi]
    exact inB_iff.1 (h _ (List.getElem_mem hi)) k (by rw [← e]; exact hk)
  · intro h s hs
    obtain ⟨i, hi, rfl⟩ := List.mem_iff_getElem.1 hs
    refine inB_iff.2 fun k hk => h i k ?_
    have e : row r i = r[i] := by unfold row; simp [hi]
    rw [e]; exact hk
theorem chkR_zero {r : List B} : chkR r = 0 ↔ Valid r := by
  unfold chkR chkN Valid
  rw [← okSets_rows]
  by_cases h : 64 < r.length
  · simp [h]; omega
  · by_cases h2 : okSets r.length r = true <;> simp [h, h2]; omega
theorem chks_zero {r ss : List B} : chks r ss = 0 ↔ Valid r ∧ ∀ s ∈ ss, ∀ k, has s k = true → k < r.length := by
  unfold chks
  have hs : okSets r.length ss = true ↔ ∀ s ∈ ss, ∀ k, has s k = true → k < r.length := by
    unfold okSets; rw [List.all_eq_true]
    exact ⟨fun h s hs => inB_iff.1 (h s hs), fun h s hs => inB_iff.2 (h s hs)⟩
  rw [← hs, ← chkR_zero]
  by_cases h : chkR r = 0
  · unfold chkN
    by_cases h2 : okSets r.length ss = true <;> simp [h, h2]
  · simp [h]
/-- one step from a set -/
def stp (r : List B) (s : B) : B := (lst s).foldl (fun a n => a ||| row r n) 0#64
theorem has_foldl (f : Nat → B) (l : List Nat) (a : B) (k : Nat) : has (l.foldl (fun a n => a ||| f n) a) k = true ↔ has a k = true ∨ ∃ n ∈ l, has (f n) k = true := by
  induction l generalizing a with
  | nil => simp
  | cons x l ih =>
    rw [List.foldl_cons, ih, has_or]
    simp only [Bool.or_eq_true, List.mem_cons]
    constructor
    · rintro ((h | h) | ⟨n, hn, h⟩)
      · exact .inl h
      · exact .inr ⟨x, .inl rfl, h⟩
      · exact .inr ⟨n, .inr hn, h⟩
    · rintro (h | ⟨n, rfl | hn, h⟩)
      · exact .inl (.inl h)
      · exact .inl (.inr h)
      · exact .inr ⟨n, hn, h⟩
theorem has_stp {r : List B} {s : B} {k : Nat} : has (stp r s) k = true ↔ ∃ n, has s n = true ∧ has (row r n) k = true := by
  unfold stp
  rw [has_foldl, has_zero]
  constructor
  · rintro (h | ⟨n, hn, h⟩)
    · cases h
    · exact ⟨n, mem_lst.1 hn, h⟩
  · rintro ⟨n, hn, h⟩
    exact .inr ⟨n, mem_lst.2 hn, h⟩
theorem eq_of_iff {s t : B} (h : ∀ k, has s k = true ↔ has t k = true) : s = t := set_ext fun k _ => by
  have := h k
  cases h1 : has s k <;> cases h2 : has t k <;> simp [h1, h2] at this <;> rfl
/-- within so many steps -/
def ball (r : List B) : Nat → B → B
  | 0, s => s
  | k + 1, s => ball r k s ||| stp r (ball r k s)
theorem has_ball_succ {r : List B} {i : Nat} {s : B} {k : Nat} : has (ball r (i + 1) s) k = true ↔ has (ball r i s) k = true ∨ ∃ n, has (ball r i s) n = true ∧ has (row r n) k = true := by
  show has (ball r i s ||| stp r (ball r i s)) k = true ↔ _
  rw [has_or, Bool.or_eq_true, has_stp]
theorem ball_add (r : List B) (i k : Nat) (s : B) : ball r k (ball r i s) = ball r (i + k) s := by
  induction k with
  | zero => rfl
  | succ k ih =>
    show ball r k (ball r i s) ||| stp r (ball r k (ball r i s)) = ball r (i + k + 1) s
    rw [ih]; rfl
theorem ball_mono {r : List B} {i j : Nat} (h : i ≤ j) {s : B} {k : Nat} (hk : has (ball r i s) k = true) : has (ball r j s) k = true := by
  induction j with
  | zero => have : i = 0 := by omega
            subst this; exact hk
  | succ j ih =>
    rcases Nat.lt_or_ge i (j + 1) with h1 | h1
    · exact has_ball_succ.2 (.inl (ih (by omega)))
    · have : i = j + 1 := by omega
      subst this; exact hk
theorem ball_self {r : List B} (i : Nat) {s : B} {k : Nat} (hk : has s k = true) : has (ball r i s) k = true := ball_mono (i := 0) (Nat.zero_le _) hk
/-- closed: what any of it needs is in it -/
def Closed (r : List B) (x : B) : Prop := ∀ n k, has x n = true → has (row r n) k = true → has x k = true
theorem ball_least {r : List B} {s x : B} (hx : Closed r x) (hs : ∀ k, has s k = true → has x k = true) (i : Nat) (k : Nat) (h : has (ball r i s) k = true) : has x k = true := by
  induction i generalizing k with
  | zero => exact hs k h
  | succ i ih =>
    rcases has_ball_succ.1 h with h | ⟨n, hn, h⟩
    · exact ih k h
    · exact hx n k (ih n hn) h
theorem ball_stable {r : List B} {i : Nat} {s : B} (h : Closed r (ball r i s)) (j : Nat) (hj : i ≤ j) : ball r j s = ball r i s := by
  obtain ⟨d, rfl⟩ : ∃ d, j = i + d := ⟨j - i, by omega⟩
  rw [← ball_add]
  apply eq_of_iff
  intro k
  exact ⟨fun hk => ball_least h (fun _ hh => hh) d k hk, fun hk => ball_self d hk⟩
/-- each step that is not closed brings one more number -/
theorem cnt_lt_of {s t : B} (h : ∀ k, has s k = true → has t k = true) {x : Nat} (hx : has t x = true) (hs : has s x = false) : cnt s < cnt t := by
  rw [cnt_lst, cnt_lst]
  have hsub : lst s = (lst t).filter (has s) := by
    unfold lst
    rw [List.filter_filter]
    apply List.filter_congr
    intro k _
    cases h1 : has s k
    · simp
    · simp [h k h1]
  rw [hsub]
  rcases Nat.lt_or_ge ((lst t).filter (has s)).length (lst t).length with h1 | h1
  · exact h1
  · have h2 := List.length_filter_eq_length_iff.1 (Nat.le_antisymm (List.length_filter_le _ _) h1) x (mem_lst.2 hx)
    rw [hs] at h2; cases h2
theorem not_closed {r : List B} {i : Nat} {s : B} (h : ¬ Closed r (ball r i s)) : cnt (ball r i s) < cnt (ball r (i + 1) s) := by
  unfold Closed at h
  simp only [Classical.not_forall] at h
  obtain ⟨n, k, h1, h2, h3⟩ := h
  exact cnt_lt_of (fun k hk => has_ball_succ.2 (.inl hk)) (has_ball_succ.2 (.inr ⟨n, h1, h2⟩)) (by simpa using h3)
theorem ball_grow {r : List B} {i : Nat} {s : B} : (∃ j, j ≤ i ∧ Closed r (ball r j s)) ∨ cnt s + i + 1 ≤ cnt (ball r (i + 1) s) := by
  induction i with
  | zero =>
    by_cases h : Closed r (ball r 0 s)
    · exact .inl ⟨0, Nat.le_refl _, h⟩
    · right; have := not_closed h; show cnt s + 1 ≤ _; exact this
  | succ i ih =>
    rcases ih with ⟨j, hj, h⟩ | h
    · exact .inl ⟨j, by omega, h⟩
    · by_cases hc : Closed r (ball r (i + 1) s)
      · exact .inl ⟨i + 1, Nat.le_refl _, hc⟩
      · right; have := not_closed hc; omega
/-- all that is come to -/
def cls (r : List B) (s : B) : B := ball r 64 s
theorem cls_closed (r : List B) (s : B) : Closed r (cls r s) := by
  rcases @ball_grow r 64 s with ⟨j, hj, h⟩ | h
  · unfold cls; rw [ball_stable h 64 hj]; exact h
  · have := cnt_le (ball r (64 + 1) s); omega
theorem cls_eq {r : List B} {s : B} {i : Nat} (h : Closed r (ball r i s)) : cls r s = ball r i s := by
  unfold cls
  rcases Nat.lt_or_ge i 64 with h1 | h1
  · exact ball_stable h 64 (by omega)
  · exact (ball_stable (cls_closed r s) i h1).symm
theorem cls_self {r : List B} {s : B} {k : Nat} (h : has s k = true) : has (cls r s) k = true := ball_self _ h
theorem cls_least {r : List B} {s x : B} (hx : Closed r x) (hs : ∀ k, has s k = true → has x k = true) {k : Nat} (h : has (cls r s) k = true) : has x k = true := ball_least hx hs _ k h
theorem cls_idem (r : List B) (s : B) : cls r (cls r s) = cls r s := eq_of_iff fun _ => ⟨cls_least (cls_closed r s) (fun _ h => h), cls_self⟩
theorem cls_mono {r : List B} {s t : B} (h : ∀ k, has s k = true → has t k = true) {k : Nat} (hk : has (cls r s) k = true) : has (cls r t) k = true :=
  cls_least (cls_closed r t) (fun k hk => cls_self (h k hk)) hk
theorem cls_or (r : List B) (s t : B) : cls r (s ||| t) = cls r s ||| cls r t := by
  apply eq_of_iff
  intro k
  rw [has_or, Bool.or_eq_true]
  constructor
  · intro h
    have hc : Closed r (cls r s ||| cls r t) := by
      intro n k hn hr
      rw [has_or, Bool.or_eq_true] at hn ⊢
      rcases hn with hn | hn
      · exact .inl (cls_closed r s n k hn hr)
      · exact .inr (cls_closed r t n k hn hr)
    have := cls_least hc (fun k hk => by
      rw [has_or, Bool.or_eq_true] at hk ⊢
      rcases hk with hk | hk
      · exact .inl (cls_self hk)
      · exact .inr (cls_self hk)) h
    rwa [has_or, Bool.or_eq_true] at this
  · rintro (h | h)
    · exact cls_mono (fun k hk => by rw [has_or, hk]; rfl) h
    · exact cls_mono (fun k hk => by rw [has_or, hk]; simp) h
/-- the closure lies among the rows' numbers -/
theorem ball_in {r : List B} (hv : Valid r) {s : B} (hs : ∀ k, has s k = true → k < r.length) (i : Nat) (k : Nat) (h : has (ball r i s) k = true) : k < r.length := by
  induction i generalizing k with
  | zero => exact hs k h
  | succ i ih =>
    rcases has_ball_succ.1 h with h | ⟨n, _, h⟩
    · exact ih k h
    · exact hv.2 n k h
theorem cnt_le_of {s : B} {n : Nat} (h : ∀ k, has s k = true → k < n) : cnt s ≤ n := by
  have h1 : cnt s = rnk s n := by
    rw [rnk_eq, cnt_lst]
    congr 1
    symm
    rw [List.filter_eq_self]
    intro a ha
    simpa using h a (mem_lst.1 ha)
  rw [h1, rnk_eq]
  have h2 : ((lst s).filter (fun k => decide (k < n))) = (List.range 64).filter (fun k => decide (k < n) && has s k) := by
    unfold lst; rw [List.filter_filter]
  rw [h2]
  have h3 : ((List.range 64).filter (fun k => decide (k < n) && has s k)).length ≤ ((List.range 64).filter (fun k => decide (k < n))).length := by
    rw [← List.filter_filter, ]
    have : ((List.range 64).filter (has s)).filter (fun k => decide (k < n)) = ((List.range 64).filter (fun k => decide (k < n))).filter (has s) := by
      rw [List.filter_filter, List.filter_filter]
      apply List.filter_congr; intro x _; rw [Bool.and_comm]
    rw [this]
    exact List.length_filter_le _ _
  have h4 : ∀ m, ((List.range m).filter (fun k => decide (k < n))).length ≤ n := by
    intro m
    induction m with
    | zero => simp
    | succ m ih =>
      rw [List.range_succ, List.filter_append, List.length_append]
      by_cases hm : m < n
      · have : ((List.range m).filter (fun k => decide (k < n))).length ≤ m := by
          have := List.length_filter_le (fun k => decide (k < n)) (List.range m); simpa using this
        simp [hm]; omega
      · simp [hm]; exact ih
  exact Nat.le_trans h3 (h4 64)
/-- as many steps as there are rows come to all -/
theorem ball_rows {r : List B} (hv : Valid r) {s : B} (hs : ∀ k, has s k = true → k < r.length) : ball r r.length s = cls r s := by
  by_cases h0 : s = 0#64
  · subst h0
    have hc : Closed r (ball r 0 0#64) := by
      intro n k hn _
      have : has (0#64 : B) n = true := hn
      rw [has_zero] at this; cases this
    rw [cls_eq hc, ball_stable hc r.length (Nat.zero_le _)]
  · have h1 : 1 ≤ cnt s := by
      have := cnt_lt_of (s := 0#64) (t := s) (fun k hk => by rw [has_zero] at hk; cases hk) (has_low h0) (has_zero _)
      omega
    rcases @ball_grow r r.length s with ⟨j, hj, h⟩ | h
    · rw [cls_eq h, ball_stable h r.length hj]
    · have := cnt_le_of (ball_in hv hs (r.length + 1))
      omega
end Go.Proofs.YteefncohknclcaaGreatDoor
namespace Go.Proofs.YteefncohknclcaaGreatDoor
abbrev E2 := Int × Int
/-- an edge ahead of another one -/
def elt (a b : E2) : Prop := a.1 < b.1 ∨ (a.1 = b.1 ∧ a.2 < b.2)
instance (a b : E2) : Decidable (elt a b) := inferInstanceAs (Decidable (_ ∨ _))
def EIn (n : Nat) (x : E2) : Prop := 0 ≤ x.1 ∧ x.1 < n ∧ 0 ≤ x.2 ∧ x.2 < n
def ERise (es : List E2) : Prop := ∀ i, i + 1 < es.length → elt (es.getD i (0, 0)) (es.getD (i + 1) (0, 0))
/-- a row with an edge more -/
def put1 (s : B) (a : Nat) (x : E2) : B := if x.1 = (a : Int) then s ||| (1#64 <<< x.2.toNat) else s
def rowE (es : List E2) (a : Nat) : B := es.foldl (fun s x => put1 s a x) 0#64
def rowsE (n : Nat) (es : List E2) : List B := (List.range n).map (rowE es)
theorem rowE_snoc (es : List E2) (x : E2) (a : Nat) : rowE (es ++ [x]) a = put1 (rowE es a) a x := by
  unfold rowE; rw [List.foldl_append]; rfl
theorem rowE_nil (a : Nat) : rowE [] a = 0#64 := rfl
theorem rowsE_len (n : Nat) (es : List E2) : (rowsE n es).length = n := by unfold rowsE; simp
theorem rowsE_get {n a : Nat} (es : List E2) (h : a < n) : (rowsE n es).getD a 0#64 = rowE es a := by
  unfold rowsE
  rw [List.getD_eq_getElem?_getD, List.getElem?_map, List.getElem?_range h]; rfl
theorem rowsE_at {n i : Nat} (es : List E2) (h : i < (rowsE n es).length) : (rowsE n es)[i] = rowE es i := by
  have hn : i < n := by rw [rowsE_len] at h; exact h
  have := rowsE_get es hn
  rw [List.getD_eq_getElem?_getD, List.getElem?_eq_getElem h] at this
  exact this
theorem rowsE_nil (n : Nat) : rowsE n [] = List.replicate n 0#64 := by
  apply List.ext_getElem
  · rw [rowsE_len]; simp
  · intro i h1 h2
    rw [List.getElem_replicate, rowsE_at]
    rfl
theorem rowsE_snoc {n a b : Nat} (es : List E2) (h : a < n) : rowsE n (es ++ [((a : Int), (b : Int))]) = (rowsE n es).set a ((rowsE n es).getD a 0#64 ||| (1#64 <<< b)) := by
  apply List.ext_getElem
  · rw [List.length_set, rowsE_len, rowsE_len]
  · intro i h1 h2
    have h1' : i < n := by rw [rowsE_len] at h1; exact h1
    rw [List.getElem_set, rowsE_at, rowE_snoc]
    unfold put1
    by_cases hi : a = i
    · subst hi
      rw [if_pos rfl, if_pos rfl, rowsE_get es h]; simp
    · rw [if_neg (show ¬ ((a : Int) = (i : Int)) by omega), if_neg hi, rowsE_at]
theorem has_put1 {s : B} {a b : Nat} {x : E2} (hx : 0 ≤ x.2 ∧ x.2 < 64) (hb : b < 64) : has (put1 s a x) b = (has s b || decide (x = ((a : Int), (b : Int)))) := by
  obtain ⟨x1, x2⟩ := x
  unfold put1
  simp only at hx ⊢
  obtain ⟨k, rfl⟩ := Int.eq_ofNat_of_zero_le hx.1
  by_cases h : x1 = (a : Int)
  · subst h
    rw [if_pos rfl, has_or, Int.toNat_natCast, has_one _ _ hb]
    congr 1
    rw [decide_eq_decide]
    constructor
    · rintro rfl; rfl
    · intro e; injection e with _ e; omega
  · rw [if_neg h, decide_eq_false (fun e => h (by injection e)), Bool.or_false]
theorem has_fold {a b : Nat} (hb : b < 64) : ∀ (es : List E2) (s : B), (∀ x ∈ es, 0 ≤ x.2 ∧ x.2 < 64) → has (es.foldl (fun s x => put1 s a x) s) b = (has s b || decide (((a : Int), (b : Int)) ∈ es))
  | [], s, _ => by simp
  | x :: es, s, h => by
    rw [List.foldl_cons, has_fold hb es _ (fun y hy => h y (List.mem_cons_of_mem _ hy)), has_put1 (h x List.mem_cons_self) hb, Bool.or_assoc]
    congr 1
    rw [Bool.eq_iff_iff, Bool.or_eq_true, decide_eq_true_iff, decide_eq_true_iff, decide_eq_true_iff, List.mem_cons]
    exact or_congr eq_comm Iff.rfl
theorem has_rowE {es : List E2} {a b : Nat} (hb : b < 64) (h : ∀ x ∈ es, 0 ≤ x.2 ∧ x.2 < 64) : has (rowE es a) b = decide (((a : Int), (b : Int)) ∈ es) := by
  unfold rowE
  rw [has_fold hb es _ h, has_zero, Bool.false_or]
end Go.Proofs.YteefncohknclcaaGreatDoor
namespace Go.Proofs.YteefncohknclcaaGreatDoor
open Go.RowKit Go.ChangeShapes
theorem list_of {α : Type} (n : Nat) (Q : Nat → α → Prop) (h : ∀ i, i < n → ∃ a, Q i a) : ∃ l : List α, l.length = n ∧ ∀ i a, l[i]? = some a → Q i a := by
  induction n with
  | zero => exact ⟨[], rfl, fun i a h => by cases h⟩
  | succ n ih =>
    obtain ⟨l, h1, h2⟩ := ih fun i hi => h i (by omega)
    obtain ⟨a, ha⟩ := h n (by omega)
    refine ⟨l ++ [a], by simp [h1], fun i b hb => ?_⟩
    rcases Nat.lt_or_ge i n with hi | hi
    · rw [List.getElem?_append_left (by omega)] at hb; exact h2 i b hb
    · have hi2 : i < (l ++ [a]).length := (List.getElem?_eq_some_iff.1 hb).1
      have : i = n := by simp [h1] at hi2; omega
      subst this
      rw [List.getElem?_append_right (by omega), h1, Nat.sub_self] at hb
      injection hb with hb
      subst hb; exact ha
section
variable {α : Type} (f g : α → Value)
/-- the cells of pairs -/
def cells2 (l : List α) : List Value := l.flatMap fun x => [f x, g x]
theorem cells2_cons (x : α) (l : List α) : cells2 f g (x :: l) = f x :: g x :: cells2 f g l := rfl
theorem cells2_append (l m : List α) : cells2 f g (l ++ m) = cells2 f g l ++ cells2 f g m := by unfold cells2; simp
theorem cells2_len (l : List α) : (cells2 f g l).length = l.length * 2 := by
  induction l with
  | nil => rfl
  | cons x l ih => rw [cells2_cons, List.length_cons, List.length_cons, ih, List.length_cons]; omega
theorem cells2_at {l : List α} {k : Nat} {x : α} (h : l[k]? = some x) : (cells2 f g l)[k * 2]? = some (f x) ∧ (cells2 f g l)[k * 2 + 1]? = some (g x) := by
  induction l generalizing k with
  | nil => cases h
  | cons y l ih =>
    rw [cells2_cons]
    cases k with
    | zero => simp at h; subst h; exact ⟨rfl, rfl⟩
    | succ k =>
      have := ih (k := k) (by simpa using h)
      rw [show (k + 1) * 2 = k * 2 + 1 + 1 from by omega]
      simpa using this
theorem cells2_of {l : List α} {j : Nat} {u : Value} (h : (cells2 f g l)[j]? = some u) : ∃ k x, l[k]? = some x ∧ ((j = k * 2 ∧ u = f x) ∨ (j = k * 2 + 1 ∧ u = g x)) := by
  have hj := (List.getElem?_eq_some_iff.1 h).1
  rw [cells2_len] at hj
  have hk : j / 2 < l.length := by omega
  obtain ⟨h1, h2⟩ := cells2_at f g (List.getElem?_eq_getElem hk)
  refine ⟨j / 2, l[j / 2], List.getElem?_eq_getElem hk, ?_⟩
  rcases Nat.mod_two_eq_zero_or_one j with e | e
  · rw [show j / 2 * 2 = j from by omega, h] at h1
    injection h1 with h1
    exact .inl ⟨by omega, h1⟩
  · rw [show j / 2 * 2 + 1 = j from by omega, h] at h2
    injection h2 with h2
    exact .inr ⟨by omega, h2⟩
/-- a slice of pairs that the call can read -/
structure P2At (w : World) (p : Option Addr) (n c : Nat) (l : List α) : Prop where
  len : l.length = n
  at_ : 0 < n → ∃ b o, p = some ⟨b, o, none⟩ ∧ b < w.heap.size ∧ ∀ k x, l[k]? = some x → w.cell? ⟨b, o + k * 2, none⟩ = some (f x) ∧ w.cell? ⟨b, o + (k * 2 + 1), none⟩ = some (g x)
  big : n ≤ 8796093022208
variable {f g}
theorem P2At.below {w w' : World} {p : Option Addr} {n c : Nat} {l : List α} (h : P2At f g w p n c l) (hb : Below w.heap.size w w') : P2At f g w' p n c l :=
  ⟨h.len, fun hn => by
    obtain ⟨b, o, e, h1, h2⟩ := h.at_ hn
    refine ⟨b, o, e, Nat.lt_of_lt_of_le h1 hb.size, fun k x hx => ?_⟩
    obtain ⟨h3, h4⟩ := h2 k x hx
    exact ⟨(hb.cell h1).trans h3, (hb.cell h1).trans h4⟩, h.big⟩
theorem P2At.cell {w : World} {p : Option Addr} {n c : Nat} {l : List α} (h : P2At f g w p n c l) {k : Nat} {x : α} (hx : l[k]? = some x) :
    ∃ b o, p = some ⟨b, o, none⟩ ∧ b < w.heap.size ∧ w.cell? ⟨b, o + k * 2, none⟩ = some (f x) ∧ w.cell? ⟨b, o + (k * 2 + 1), none⟩ = some (g x) := by
  have hk := (List.getElem?_eq_some_iff.1 hx).1
  have := h.len
  obtain ⟨b, o, e, h1, h2⟩ := h.at_ (by omega)
  exact ⟨b, o, e, h1, h2 k x hx⟩
theorem P2At.own {w : World} {base n c : Nat} {e : TypeId} {p : Option Addr} {l : List α} (h : w.ownsRow base e 2 (.slice p n c) n (cells2 f g l)) (hbig : n ≤ 8796093022208) : P2At f g w p n c l := by
  have hl : l.length = n := by have := h.1; rw [cells2_len] at this; omega
  refine ⟨hl, fun hn => ?_, hbig⟩
  obtain ⟨b, cap, hv, _, _⟩ := h.form hn
  injection hv with e1 e2 e3
  subst e1 e3
  have hlt := h.lt b rfl
  refine ⟨b, 0, rfl, hlt.2, fun k x hx => ?_⟩
  obtain ⟨h1, h2⟩ := cells2_at f g hx
  have c1 := h.cells (g := b) rfl _ _ h1
  have c2 := h.cells (g := b) rfl _ _ h2
  rw [Addr.add_lit] at c1 c2
  exact ⟨c1, c2⟩
end
/-- the slice of pairs that a law is handed -/
theorem p2_arg {A B H : Type} {enc : TypeId × Value → H} {P : Program} {W : World} {fuel len cap : Nat} {a : Option Addr} {d : DataW H} {p : List MemPlace} {t e : TypeId} {f0 f1 : Field} (F : A → Value) (G : B → Value)
    (ht : P.underlying t = some (.slice e)) (he : P.underlying e = some (.struct #[f0, f1])) (ce : P.cellsOf e = 2) (o0 : f0.offset = 0) (o1 : f1.offset = 1) (c0 : P.cellsOf f0.type = 1) (c1 : P.cellsOf f1.type = 1)
    (hF : ∀ n v x, DataW.trod enc P W 0 (fun _ => true) true n f0.type [v] = some x → ∃ a, v = F a) (hG : ∀ n v x, DataW.trod enc P W 0 (fun _ => true) true n f1.type [v] = some x → ∃ b, v = G b)
    (hby : 16 ≤ P.bytesOf e) (hf : DataW.trod enc P W 0 (fun _ => true) true fuel t [.slice a len cap] = some (d, p)) (hsz : ∀ n, n ∈ d.weights P t → n ≤ reachBytes) :
    ∃ l : List (A × B), P2At (fun x => F x.1) (fun x => G x.2) W a len cap l := by
  rcases Go.Deep.open_slice_pairs ht he ce o0 o1 c0 c1 hf with ⟨h1, _⟩ | ⟨ad, ln, cp, m, n, V0, V1, D0, D1, P0, P1, h1, _, h3, _, h5, h6, h7⟩
  · injection h1 with h1 _
    injection h1 with e1 e2 e3
    subst e1 e2 e3
    exact ⟨[], rfl, fun h => by omega, by omega⟩
  · injection h1 with h1 _
    injection h1 with e1 e2 e3
    subst e1 e2 e3
    simp only [if_true] at h5
    subst h5
    have hex : ∀ i, i < len → ∃ q : A × B, W.cell? (ad.add (i * 2)) = some (F q.1) ∧ W.cell? (ad.add (i * 2 + 1)) = some (G q.2) := by
      intro i hi
      obtain ⟨k1, k2, k3, k4⟩ := h7 i (by omega)
      obtain ⟨x, hx⟩ := hF _ _ _ k3
      obtain ⟨y, hy⟩ := hG _ _ _ k4
      exact ⟨(x, y), by rw [k1, hx], by rw [k2, hy]⟩
    obtain ⟨l, hl, hq⟩ := list_of len _ hex
    injection h6 with h6 _
    have hb := hsz ((len + (m - len)) * P.bytesOf e) (by
      rw [h6, DataW.weights, ht]
      simp)
    have hrb : reachBytes < 2 ^ 47 := reachBytes_lt
    have hmul : (len + (m - len)) * 16 ≤ (len + (m - len)) * P.bytesOf e := Nat.mul_le_mul_left _ hby
    refine ⟨l, hl, fun hn => ?_, by omega⟩
    obtain ⟨b, o, s⟩ := ad
    have hs : s = none := by
      have h0 := (h7 0 (by omega)).1
      simpa [Addr.add] using World.cell?_spot h0
    subst hs
    refine ⟨b, o, rfl, ?_, fun k x hx => ?_⟩
    · have := World.block_lt_of_cell? W _ (h7 0 (by omega)).1
      rwa [block_of_add] at this
    · have := hq k x hx
      rw [Addr.add_lit, Addr.add_lit] at this
      exact this
end Go.Proofs.YteefncohknclcaaGreatDoor
namespace Go.Proofs.YteefncohknclcaaGreatDoor
open Go.RowKit Go.Shelf
def cmpS (x y : ByteArray) : Int := if x.data.toList < y.data.toList then -1 else if y.data.toList < x.data.toList then 1 else 0
theorem cmpS_neg {x y : ByteArray} : cmpS x y < 0 ↔ x.data.toList < y.data.toList := by
  unfold cmpS
  by_cases h : x.data.toList < y.data.toList
  · rw [if_pos h]; simp [h]
  · rw [if_neg h]
    split
    · simp [h]
    · simp [h]
theorem run_gtr_str {x y : ByteArray} {b c : Bool} (h : Op.bytesLess x.toList y.toList = b) (h2 : (x.toList == y.toList) = c) (w : World) : (binOp .gtr 9 (.string x) (.string y)).run Tryz.prog w = .ok (.bool (!(b || c))) w := by
  simp [binOp, Op.stringOp, h, h2]
theorem bytesLess_of (x y : ByteArray) : Op.bytesLess x.toList y.toList = decide (x.data.toList < y.data.toList) := by rw [Proofs.bytesLess_eq, Lib.toList_data, Lib.toList_data]
set_option maxHeartbeats 400000 in
theorem isNaNs_ok (x : ByteArray) (w : World) : Calls Tryz.prog 111 #[.string x] w fun e w' => e = .returned (.bool false) ∧ w' = w := by
  go_enter Tryz.func111, Tryz.ntmps111
  go_wp2
  go_ret
  exact ⟨by simp, rfl⟩
set_option maxHeartbeats 1000000 in
theorem cmpS_ok (x y : ByteArray) (w : World) : Calls Tryz.prog 77 #[.string x, .string y] w fun e w' => e = .returned (.int .i64 (cmpS x y)) ∧ w' = w := by
  by_cases h : x.data.toList < y.data.toList
  · have hv : cmpS x y = -1 := by unfold cmpS; rw [if_pos h]
    have h1 := (bytesLess_of x y).trans (decide_eq_true h)
    rw [hv]
    clear hv h
    go_enter Tryz.func77, Tryz.ntmps77
    go_wp2_with (go_at_call 111; refine (isNaNs_ok _ _).mono ?_; rintro e w' ⟨rfl, rfl⟩)
    go_ret
    exact ⟨rfl, rfl⟩
  · have h1 := (bytesLess_of x y).trans (decide_eq_false h)
    by_cases h2 : y.data.toList < x.data.toList
    · have hv : cmpS x y = 1 := by unfold cmpS; rw [if_neg h, if_pos h2]
      have hne : (x.toList == y.toList) = false := by
        rw [Lib.toList_data, Lib.toList_data, beq_eq_false_iff_ne]
        intro e
        rw [e] at h2
        exact lt_irr h2
      have h3 := run_gtr_str ((bytesLess_of x y).trans (decide_eq_false h)) hne
      rw [hv]
      clear hv h h2 hne
      go_enter Tryz.func77, Tryz.ntmps77
      go_wp2_with (go_at_call 111; refine (isNaNs_ok _ _).mono ?_; rintro e w' ⟨rfl, rfl⟩)
      go_ret
      exact ⟨rfl, rfl⟩
    · have hv : cmpS x y = 0 := by unfold cmpS; rw [if_neg h, if_neg h2]
      have hne : (x.toList == y.toList) = true := by
        rw [Lib.toList_data, Lib.toList_data, beq_iff_eq]
        exact List.le_antisymm (List.not_lt.1 h2) (List.not_lt.1 h)
      have h3 := run_gtr_str ((bytesLess_of x y).trans (decide_eq_false h)) hne
      rw [hv]
      clear hv h h2 hne
      go_enter Tryz.func77, Tryz.ntmps77
      go_wp2_with (go_at_call 111; refine (isNaNs_ok _ _).mono ?_; rintro e w' ⟨rfl, rfl⟩)
      go_ret
      exact ⟨rfl, rfl⟩
theorem drewN_add (w : World) (a b : Nat) : (w.drewN a).drewN b = w.drewN (a + b) := by simp [World.drewN, Nat.add_assoc]
/-- each name below the next one -/
def RiseTo (zs : List ByteArray) (k : Nat) : Prop := ∀ i, i < k → (zs.getD i ByteArray.empty).data.toList < (zs.getD (i + 1) ByteArray.empty).data.toList
theorem rise_to {zs : List ByteArray} : RiseTo zs (zs.length - 1) ↔ Rise zs := by
  constructor
  · intro h i j hij hj
    obtain ⟨d, rfl⟩ : ∃ d, j = i + d + 1 := ⟨j - i - 1, by omega⟩
    induction d with
    | zero => exact h i (by omega)
    | succ d ih => exact List.lt_trans (ih (by omega) (by omega)) (h (i + d + 1) (by omega))
  · intro h i hi
    exact h i (i + 1) (by omega) (by omega)
theorem rise_next {zs : List ByteArray} {k : Nat} (h : RiseTo zs k) (hk : cmpS (zs.getD k ByteArray.empty) (zs.getD (k + 1) ByteArray.empty) < 0) : RiseTo zs (k + 1) := fun i hi => by
  rcases Nat.lt_or_ge i k with h1 | h1
  · exact h i h1
  · rw [show i = k from by omega]; exact cmpS_neg.1 hk
set_option maxHeartbeats 1000000 in
theorem risesS_ok (p : Option Addr) (n c : Nat) (zs : List ByteArray) (w : World) (h : NL w p n c zs) :
    Calls Tryz.prog 76 #[.slice p n c, .func (.func 77) #[] #[]] w fun e w' => ((e = .returned (.bool true) ∧ Rise zs) ∨ (e = .returned (.bool false) ∧ ¬ Rise zs)) ∧ ∃ q, w' = w.drewN q := by
  have hl := h.at_.len
  have hbig := h.at_.big
  subst hl
  have HN := Lib.hid h
  clear h
  go_enter Tryz.func76, Tryz.ntmps76
  go_wp2
  go_loopw [9] (fun i wr => ∃ k : Nat, i = .int .i64 k ∧ (k = 0 ∨ k < zs.length) ∧ Hid (RiseTo zs k) ∧ Hid (∃ q, wr = w.drewN q)) (fun i _ => zs.length - (intOf i).toNat)
  case atStart => exact ⟨0, rfl, .inl rfl, show RiseTo zs 0 from fun i hi => by omega, show ∃ q, w = w.drewN q from ⟨0, rfl⟩⟩
  case round =>
    obtain ⟨k, rfl, hk, HR, HW⟩ := hrel
    by_cases hlt : (k : Int) < (zs.length : Int) - 1
    · have HNw : Hid (NL wr p zs.length c zs) := by
        show NL _ _ _ _ _
        obtain ⟨q, hq⟩ := HW.out
        rw [hq]; exact HN.out.drew q
      obtain ⟨ad, rfl, _⟩ := HN.out.at_.reads.2 (by omega)
      obtain ⟨b, o, rfl, _⟩ := HN.out.plain _ rfl
      have hc1 := HNw.out.cellAt k (by omega)
      have hc2 := HNw.out.cellAt (k + 1) (by omega)
      have HX : Hid (cmpS (zs.getD k ByteArray.empty) (zs.getD (k + 1) ByteArray.empty) < 0 → RiseTo zs (k + 1)) := by show _ → _; exact rise_next HR.out
      have HY : Hid (¬ cmpS (zs.getD k ByteArray.empty) (zs.getD (k + 1) ByteArray.empty) < 0 → ¬ Rise zs) := by
        show _ → _
        intro h1 h2
        exact h1 (cmpS_neg.2 (h2 k (k + 1) (by omega) (by omega)))
      generalize zs.getD k ByteArray.empty = x at *
      generalize zs.getD (k + 1) ByteArray.empty = y at *
      obtain ⟨z, hz⟩ : ∃ z, cmpS x y = z := ⟨_, rfl⟩
      rw [hz] at HX HY
      have HZ := Lib.hid hz
      clear hz
      by_cases h0 : (0 : Int) ≤ z
      · go_wp2
        go_quiet ((go_at_call 77; refine (cmpS_ok x y _).mono ?_; rintro e w'' ⟨he, hw⟩; rw [HZ.out] at he; exact ⟨he, _, hw⟩))
        go_wp2
        go_ret
        refine ⟨.inr ⟨rfl, HY.out (by omega)⟩, ?_⟩
        obtain ⟨q, hq⟩ := HW.out
        exact ⟨_, by rw [hq, drewN_add]⟩
      · go_wp2
        go_quiet ((go_at_call 77; refine (cmpS_ok x y _).mono ?_; rintro e w'' ⟨he, hw⟩; rw [HZ.out] at he; exact ⟨he, _, hw⟩))
        go_wp2
        go_roundw
        case rel =>
          refine ⟨k + 1, by go_num, by omega, HX.out (by omega), ?_⟩
          obtain ⟨q, hq⟩ := HW.out
          exact ⟨_, by rw [hq, drewN_add]⟩
        case measure => simp [intOf]; omega
    · go_wp2
      go_ret
      refine ⟨.inl ⟨rfl, ?_⟩, HW.out⟩
      rw [← rise_to]
      have : zs.length - 1 = k := by omega
      rw [this]; exact HR.out
theorem cell_drew (w : World) (a : Addr) : w.drew.cell? a = w.cell? a := rfl
def ordE (a b : E2) : Int := if Lib.compareInt a.1 b.1 ≠ 0 then Lib.compareInt a.1 b.1 else Lib.compareInt a.2 b.2
def e2V (x : E2) : Value := .agg #[.int .i64 x.1, .int .i64 x.2]
set_option maxHeartbeats 1000000 in
theorem or_ok (x y : Int) (b : Nat) (w : World) (h1 : w.cell? ⟨b, 0, none⟩ = some (.int .i64 x)) (h2 : w.cell? ⟨b, 1, none⟩ = some (.int .i64 y)) :
    Calls Tryz.prog 80 #[.slice (some ⟨b, 0, none⟩) 2 2] w fun e w' => e = .returned (.int .i64 (if x ≠ 0 then x else y)) ∧ w' = w := by
  go_enter Tryz.func80, Tryz.ntmps80
  go_wp2
  go_loop [8] (fun i => i = .int .i64 0 ∨ (i = .int .i64 1 ∧ x = 0) ∨ (i = .int .i64 2 ∧ x = 0 ∧ y = 0)) (fun i => 2 - (intOf i).toNat)
  case atStart => exact .inl rfl
  case round =>
    rcases hrel with rfl | ⟨rfl, rfl⟩ | ⟨rfl, rfl, rfl⟩
    · by_cases hx : x = 0
      · subst hx
        go_wp2
        go_round
        case rel => exact .inr (.inl ⟨by go_num, trivial⟩)
        case measure => simp [intOf]
      · have hb : (x != 0) = true := by simpa using hx
        go_wp2
        go_ret
        exact ⟨by first | rfl | (rw [if_pos hx]; rfl), rfl⟩
    · by_cases hy : y = 0
      · subst hy
        go_wp2
        go_round
        case rel => exact .inr (.inr ⟨by go_num, trivial, trivial⟩)
        case measure => simp [intOf]
      · have hb : (y != 0) = true := by simpa using hy
        go_wp2
        go_ret
        exact ⟨by simp, rfl⟩
    · go_wp2
      go_ret
      exact ⟨by simp, rfl⟩
set_option maxHeartbeats 1000000 in
set_option maxRecDepth 100000 in
theorem eorder_ok (a b : E2) (w : World) : Calls Tryz.prog 51 #[e2V a, e2V b] w fun e w' => e = .returned (.int .i64 (ordE a b)) ∧ Below w.heap.size w w' := by
  obtain ⟨a1, a2⟩ := a
  obtain ⟨b1, b2⟩ := b
  unfold e2V ordE
  simp only
  obtain ⟨x, hx⟩ : ∃ x, Lib.compareInt a1 b1 = x := ⟨_, rfl⟩
  obtain ⟨y, hy⟩ : ∃ y, Lib.compareInt a2 b2 = y := ⟨_, rfl⟩
  rw [hx, hy]
  have HO := Lib.hid (or_ok x y)
  obtain ⟨v, hv⟩ : ∃ v, (if x ≠ 0 then x else y) = v := ⟨_, rfl⟩
  rw [hv] at HO ⊢
  clear hv
  have HX := Lib.hid (Tryz.cmp_Compare_int a1 b1)
  have HY := Lib.hid (Tryz.cmp_Compare_int a2 b2)
  rw [hx] at HX
  rw [hy] at HY
  clear hx hy
  go_enter Tryz.func51, Tryz.ntmps51
  go_wp2
  obtain ⟨W, hW⟩ : ∃ W, W = (w.alloc (.cells #[.int .i64 a1, .int .i64 a2] 85)).alloc (.cells #[.int .i64 b1, .int .i64 b2] 85) := ⟨_, rfl⟩
  have c1 : W.cell? ⟨w.heap.size, 0, none⟩ = some (.int .i64 a1) := by rw [hW, World.cell?_alloc_lt _ _ _ (by simp), World.cell?_alloc_at _ _ _ _ rfl]; rfl
  have c2 : W.cell? ⟨w.heap.size, 1, none⟩ = some (.int .i64 a2) := by rw [hW, World.cell?_alloc_lt _ _ _ (by simp), World.cell?_alloc_at _ _ _ _ rfl]; rfl
  have c3 : W.cell? ⟨w.heap.size + 1, 0, none⟩ = some (.int .i64 b1) := by rw [hW, World.cell?_alloc_at _ _ _ _ (by simp)]; rfl
  have c4 : W.cell? ⟨w.heap.size + 1, 1, none⟩ = some (.int .i64 b2) := by rw [hW, World.cell?_alloc_at _ _ _ _ (by simp)]; rfl
  have HB : Hid (Below w.heap.size w W) := by
    show Below _ _ _
    rw [hW]; exact ((Below.refl _ _).alloc (Nat.le_refl _) _).alloc (by simp) _
  rw [← hW]
  clear hW
  refine wp_region_still_tail 10 (by kernel_rfl) (by kernel_rfl) ?_
  simp only [List.take_succ_cons, List.take_zero, List.drop_succ_cons, List.drop_zero]
  repeat still_step
  still_call (HX.out _)
  repeat still_step
  still_call (HY.out _)
  repeat still_step
  refine wpStill_nil ?_
  obtain ⟨W2, hW2⟩ : ∃ W2 : World, W2 = { heap := W.heap, tape := W.tape, drawn := W.drawn + 1, os := W.os, output := W.output } := ⟨_, rfl⟩
  have HB2 : Hid (Below w.heap.size w W2) := by
    show Below _ _ _
    rw [hW2]; exact HB.out.drew
  rw [← hW2]
  clear hW2 c1 c2 c3 c4 HB
  go_wp2_with (go_at_call 80; refine (HO.out _ _ (by rw [World.cell?_alloc_at _ _ _ _ rfl]; rfl) (by rw [World.cell?_alloc_at _ _ _ _ rfl]; rfl)).mono ?_; rintro e w' ⟨rfl, rfl⟩)
  go_ret
  exact ⟨rfl, HB2.out.alloc HB2.out.size _⟩
end Go.Proofs.YteefncohknclcaaGreatDoor
