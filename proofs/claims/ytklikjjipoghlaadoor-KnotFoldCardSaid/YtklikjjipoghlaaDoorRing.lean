/- A trail through those that are left, and the ring that it closes. Conditions: none. -/
import Derived.Test.YtklikjjipoghlaaDoorKahn
namespace Go.Proofs.YtklikjjipoghlaaDoor
structure Trail (r : List B) (left : B) (t : List Nat) (i : Nat) : Prop where
  nodup : t.Nodup
  mem : ∀ x ∈ t, has left x = true
  cur : has left i = true
  link : ∀ j, j < t.length → has (row r (t.getD j 0)) ((t ++ [i]).getD (j + 1) 0) = true
theorem trail_nil {r : List B} {left : B} {i : Nat} (h : has left i = true) : Trail r left [] i :=
  ⟨List.nodup_nil, (fun x hx => by cases hx), h, (fun j hj => absurd hj (by simp))⟩
theorem trail_len {r : List B} {left : B} {t : List Nat} {i : Nat} (h : Trail r left t i) : t.length ≤ 64 := by
  have h1 : t.length ≤ (List.range 64).length := List.Nodup.length_le_of_subset h.nodup (fun n hn => List.mem_range.2 (has_lt (h.mem n hn)))
  simpa using h1
theorem trail_next {r : List B} {left : B} {t : List Nat} {i k : Nat} (h : Trail r left t i) (hi : i ∉ t) (hk : has (row r i &&& left) k = true) : Trail r left (t ++ [i]) k := by
  rw [has_and, Bool.and_eq_true] at hk
  refine ⟨?_, ?_, hk.2, ?_⟩
  · rw [List.nodup_append]
    refine ⟨h.nodup, by simp, fun a ha b hb => ?_⟩
    have : b = i := by simpa using hb
    subst this
    intro e; subst e; exact hi ha
  · intro x hx
    rcases List.mem_append.1 hx with hx | hx
    · exact h.mem x hx
    · have : x = i := by simpa using hx
      subst this; exact h.cur
  · intro j hj
    rw [List.length_append] at hj
    rcases Nat.lt_or_ge j t.length with h1 | h1
    · have := h.link j h1
      have e1 : (t ++ [i]).getD j 0 = t.getD j 0 := by simp [List.getD_eq_getElem?_getD, List.getElem?_append_left h1]
      have e2 : ((t ++ [i]) ++ [k]).getD (j + 1) 0 = (t ++ [i]).getD (j + 1) 0 := by
        rw [List.getD_eq_getElem?_getD, List.getD_eq_getElem?_getD, List.getElem?_append_left (by simp; omega)]
      rw [e1, e2]; exact this
    · have hjt : j = t.length := by simp at hj; omega
      subst hjt
      have e1 : (t ++ [i]).getD t.length 0 = i := by simp [List.getD_eq_getElem?_getD]
      have e2 : ((t ++ [i]) ++ [k]).getD (t.length + 1) 0 = k := by
        rw [List.getD_eq_getElem?_getD, List.getElem?_append_right (by simp)]; simp
      rw [e1, e2]; exact hk.1
/-- each needs the next one, the last one the first one -/
structure RingIs (r : List B) (l : List Nat) : Prop where
  ne : 0 < l.length
  nodup : l.Nodup
  link : ∀ j, j < l.length → has (row r (l.getD j 0)) (l.getD ((j + 1) % l.length) 0) = true
theorem trail_ring {r : List B} {left : B} {t : List Nat} {i k : Nat} (h : Trail r left t i) (hk : k < t.length) (hi : t.getD k 0 = i) : RingIs r (t.drop k) := by
  refine ⟨by simp; omega, h.nodup.sublist (List.drop_sublist k t), fun j hj => ?_⟩
  rw [List.length_drop] at hj ⊢
  have hl := h.link (k + j) (by omega)
  have e1 : (t.drop k).getD j 0 = t.getD (k + j) 0 := by simp [List.getD_eq_getElem?_getD]
  rw [e1]
  rcases Nat.lt_or_ge (j + 1) (t.length - k) with h1 | h1
  · rw [Nat.mod_eq_of_lt h1]
    have e2 : (t.drop k).getD (j + 1) 0 = (t ++ [i]).getD (k + j + 1) 0 := by
      rw [List.getD_eq_getElem?_getD, List.getD_eq_getElem?_getD, List.getElem?_append_left (by omega), List.getElem?_drop]; rfl
    rw [e2]; exact hl
  · have e0 : j + 1 = t.length - k := by omega
    rw [e0, Nat.mod_self]
    have e2 : (t.drop k).getD 0 0 = i := by rw [← hi]; simp [List.getD_eq_getElem?_getD]
    have e3 : (t ++ [i]).getD (k + j + 1) 0 = i := by
      have : k + j + 1 = t.length := by omega
      rw [this]; simp [List.getD_eq_getElem?_getD]
    rw [e2]; rw [e3] at hl; exact hl
end Go.Proofs.YtklikjjipoghlaaDoor
