/- Graphs of names: plainly. Conditions: none. -/
import Derived.Test.YtlhhcgiifgkngaaDoorOf
import Derived.Test.YtlhhcgiifgkngaaDoorReach
namespace Go.Proofs.YtlhhcgiifgkngaaDoor
abbrev E2 := Int × Int
/-- an edge ahead of another one -/
def elt (a b : E2) : Prop := a.1 < b.1 ∨ (a.1 = b.1 ∧ a.2 < b.2)
instance (a b : E2) : Decidable (elt a b) := inferInstanceAs (Decidable (_ ∨ _))
def EIn (n : Nat) (x : E2) : Prop := 0 ≤ x.1 ∧ x.1 < n ∧ 0 ≤ x.2 ∧ x.2 < n
def ERise (es : List E2) : Prop := ∀ i, i + 1 < es.length → elt (es.getD i (0, 0)) (es.getD (i + 1) (0, 0))
/-- a row with an edge more -/
def put1 (s : B) (a : Nat) (x : E2) : B := if x.1 = (a : Int) then s ||| (1#64 <<< x.2.toNat) else s
def rowE (es : List E2) (a : Nat) : B := es.foldl (fun s x => put1 s a x) 0#64
def rowsE (n : Nat) (es : List E2) : List B := (List.range n).map (rowE es)
theorem rowE_snoc (es : List E2) (x : E2) (a : Nat) : rowE (es ++ [x]) a = put1 (rowE es a) a x := by
  unfold rowE; rw [List.foldl_append]; rfl
theorem rowE_nil (a : Nat) : rowE [] a = 0#64 := rfl
theorem rowsE_len (n : Nat) (es : List E2) : (rowsE n es).length = n := by unfold rowsE; simp
theorem rowsE_get {n a : Nat} (es : List E2) (h : a < n) : (rowsE n es).getD a 0#64 = rowE es a := by
  unfold rowsE
  rw [List.getD_eq_getElem?_getD, List.getElem?_map, List.getElem?_range h]; rfl
theorem rowsE_at {n i : Nat} (es : List E2) (h : i < (rowsE n es).length) : (rowsE n es)[i] = rowE es i := by
  have hn : i < n := by rw [rowsE_len] at h; exact h
  have := rowsE_get es hn
  rw [List.getD_eq_getElem?_getD, List.getElem?_eq_getElem h] at this
  exact this
theorem rowsE_nil (n : Nat) : rowsE n [] = List.replicate n 0#64 := by
  apply List.ext_getElem
  · rw [rowsE_len]; simp
  · intro i h1 h2
    rw [List.getElem_replicate, rowsE_at]
    rfl
theorem rowsE_snoc {n a b : Nat} (es : List E2) (h : a < n) : rowsE n (es ++ [((a : Int), (b : Int))]) = (rowsE n es).set a ((rowsE n es).getD a 0#64 ||| (1#64 <<< b)) := by
  apply List.ext_getElem
  · rw [List.length_set, rowsE_len, rowsE_len]
  · intro i h1 h2
    have h1' : i < n := by rw [rowsE_len] at h1; exact h1
    rw [List.getElem_set, rowsE_at, rowE_snoc]
    unfold put1
    by_cases hi : a = i
    · subst hi
      rw [if_pos rfl, if_pos rfl, rowsE_get es h]; simp
    · rw [if_neg (show ¬ ((a : Int) = (i : Int)) by omega), if_neg hi, rowsE_at]
theorem has_put1 {s : B} {a b : Nat} {x : E2} (hx : 0 ≤ x.2 ∧ x.2 < 64) (hb : b < 64) : has (put1 s a x) b = (has s b || decide (x = ((a : Int), (b : Int)))) := by
  obtain ⟨x1, x2⟩ := x
  unfold put1
  simp only at hx ⊢
  obtain ⟨k, rfl⟩ := Int.eq_ofNat_of_zero_le hx.1
  by_cases h : x1 = (a : Int)
  · subst h
    rw [if_pos rfl, has_or, Int.toNat_natCast, has_one _ _ hb]
    congr 1
    rw [decide_eq_decide]
    constructor
    · rintro rfl; rfl
    · intro e; injection e with _ e; omega
  · rw [if_neg h, decide_eq_false (fun e => h (by injection e)), Bool.or_false]
theorem has_fold {a b : Nat} (hb : b < 64) : ∀ (es : List E2) (s : B), (∀ x ∈ es, 0 ≤ x.2 ∧ x.2 < 64) → has (es.foldl (fun s x => put1 s a x) s) b = (has s b || decide (((a : Int), (b : Int)) ∈ es))
  | [], s, _ => by simp
  | x :: es, s, h => by
    rw [List.foldl_cons, has_fold hb es _ (fun y hy => h y (List.mem_cons_of_mem _ hy)), has_put1 (h x List.mem_cons_self) hb, Bool.or_assoc]
    congr 1
    rw [Bool.eq_iff_iff, Bool.or_eq_true, decide_eq_true_iff, decide_eq_true_iff, decide_eq_true_iff, List.mem_cons]
    exact or_congr eq_comm Iff.rfl
theorem has_rowE {es : List E2} {a b : Nat} (hb : b < 64) (h : ∀ x ∈ es, 0 ≤ x.2 ∧ x.2 < 64) : has (rowE es a) b = decide (((a : Int), (b : Int)) ∈ es) := by
  unfold rowE
  rw [has_fold hb es _ h, has_zero, Bool.false_or]
end Go.Proofs.YtlhhcgiifgkngaaDoor
