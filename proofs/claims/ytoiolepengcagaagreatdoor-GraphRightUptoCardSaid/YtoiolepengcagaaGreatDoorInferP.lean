/- Inferences, plainly: when a list of them is right; the first that applies; a list cut in two. Conditions: none. -/
import Derived.Test.YtoiolepengcagaaGreatDoorNameW
import Derived.Lib.SlicesS
import Derived.Lib.IndexAny
namespace Go.Proofs.YtoiolepengcagaaGreatDoor
abbrev Inf := ByteArray × ByteArray
def sufB (s : ByteArray) : Bool := decide (2 ≤ s.size) && decide (s.size ≤ 10) && (s.data.toList.head? == some 46) && (nameE s == 0) && !Lib.containsAny (s.data.toList.drop 1) [46, 47]
def inf0 : Inf := (ByteArray.empty, ByteArray.empty)
def hasI (l : List Inf) (x : Inf) : Bool := l.any fun y => decide (y = x)
theorem hasI_iff {l : List Inf} {x : Inf} : hasI l x = true ↔ x ∈ l := by
  unfold hasI
  rw [List.any_eq_true]
  constructor
  · rintro ⟨y, hy, e⟩
    have := of_decide_eq_true e
    subst this
    exact hy
  · intro h
    exact ⟨x, h, decide_eq_true rfl⟩
def infAt (l : List Inf) (k : Nat) : Int :=
  if (sufB (l.getD k inf0).1 && sufB (l.getD k inf0).2) = false then 3 else if (l.getD k inf0).1 = (l.getD k inf0).2 ∨ hasI (l.take k) (l.getD k inf0) = true then 6 else 0
def infGo (l : List Inf) : Nat → Nat → Int
  | _, 0 => 0
  | k, f + 1 => if infAt l k = 0 then infGo l (k + 1) f else infAt l k
def infE (l : List Inf) : Int := if 20 < l.length then 2 else infGo l 0 l.length
theorem infGo_zero (l : List Inf) : ∀ f k, infGo l k f = 0 ↔ ∀ j, k ≤ j → j < k + f → infAt l j = 0 := by
  intro f
  induction f with
  | zero => intro k; simp only [infGo, true_iff]; intro j h1 h2; omega
  | succ f ih =>
    intro k
    unfold infGo
    split
    · rename_i h
      rw [ih]
      constructor
      · intro g j h1 h2
        rcases Nat.eq_or_lt_of_le h1 with rfl | h1
        · exact h
        · exact g j h1 (by omega)
      · intro g j h1 h2
        exact g j (by omega) (by omega)
    · rename_i h
      constructor
      · intro g; exact absurd g h
      · intro g; exact absurd (g k (Nat.le_refl k) (by omega)) h
theorem infE_zero (l : List Inf) : infE l = 0 ↔ l.length ≤ 20 ∧ ∀ j, j < l.length → infAt l j = 0 := by
  unfold infE
  split
  · rename_i h
    constructor
    · intro g; cases g
    · rintro ⟨g, _⟩; omega
  · rename_i h
    rw [infGo_zero]
    constructor
    · intro g; exact ⟨by omega, fun j hj => g j (Nat.zero_le j) (by omega)⟩
    · rintro ⟨_, g⟩ j _ hj; exact g j (by omega)
theorem infAt_zero {l : List Inf} {k : Nat} : infAt l k = 0 ↔ sufB (l.getD k inf0).1 = true ∧ sufB (l.getD k inf0).2 = true ∧ (l.getD k inf0).1 ≠ (l.getD k inf0).2 ∧ l.getD k inf0 ∉ l.take k := by
  unfold infAt
  constructor
  · intro h
    split at h
    · cases h
    · rename_i h1
      split at h
      · cases h
      · rename_i h2
        rw [Bool.not_eq_false, Bool.and_eq_true] at h1
        rw [not_or, hasI_iff] at h2
        exact ⟨h1.1, h1.2, h2.1, h2.2⟩
  · rintro ⟨h1, h2, h3, h4⟩
    rw [h1, h2, if_neg (by decide), if_neg (by rw [not_or, hasI_iff]; exact ⟨h3, h4⟩)]
theorem infE_take {l : List Inf} (h : infE l = 0) {k : Nat} (hk : k ≤ l.length) : infE (l.take k) = 0 := by
  rw [infE_zero] at h ⊢
  have hl : (l.take k).length = k := by rw [List.length_take]; omega
  refine ⟨by omega, fun j hj => ?_⟩
  have := infAt_zero.1 (h.2 j (by omega))
  have e : (l.take k).getD j inf0 = l.getD j inf0 := by
    rw [List.getD_eq_getElem?_getD, List.getD_eq_getElem?_getD, List.getElem?_take_of_lt (by omega)]
  rw [infAt_zero, e]
  refine ⟨this.1, this.2.1, this.2.2.1, fun hm => this.2.2.2 ?_⟩
  rw [List.take_take] at hm
  rwa [show min j k = j by omega] at hm
theorem infE_drop {l : List Inf} (h : infE l = 0) {k : Nat} (hk : k ≤ l.length) : infE (l.drop k) = 0 := by
  rw [infE_zero] at h ⊢
  have hl : (l.drop k).length = l.length - k := List.length_drop ..
  refine ⟨by omega, fun j hj => ?_⟩
  have := infAt_zero.1 (h.2 (k + j) (by omega))
  have e : (l.drop k).getD j inf0 = l.getD (k + j) inf0 := by
    rw [List.getD_eq_getElem?_getD, List.getD_eq_getElem?_getD, List.getElem?_drop]
  rw [infAt_zero, e]
  refine ⟨this.1, this.2.1, this.2.2.1, fun hm => this.2.2.2 ?_⟩
  have : l.take (k + j) = l.take k ++ (l.drop k).take j := List.take_add ..
  rw [this]
  exact List.mem_append_right _ hm
/-- the first that applies -/
def infOf (l : List Inf) (there : List ByteArray) (stem en : ByteArray) : Option ByteArray :=
  l.findSome? fun x => if x.2 = en ∧ Lib.containsS there (stem ++ x.1) = true then some (stem ++ x.1) else none
theorem infOf_cut (l : List Inf) (k : Nat) (there : List ByteArray) (stem en : ByteArray) : infOf l there stem en = (infOf (l.take k) there stem en).or (infOf (l.drop k) there stem en) := by
  unfold infOf
  rw [← List.findSome?_append, List.take_append_drop]
theorem infOf_next {l : List Inf} {k : Nat} (hk : k < l.length) (there : List ByteArray) (stem en : ByteArray) :
    infOf (l.drop k) there stem en = if (l.getD k inf0).2 = en ∧ Lib.containsS there (stem ++ (l.getD k inf0).1) = true then some (stem ++ (l.getD k inf0).1) else infOf (l.drop (k + 1)) there stem en := by
  unfold infOf
  rw [List.drop_eq_getElem_cons hk, List.findSome?_cons]
  have e : l.getD k inf0 = l[k] := by rw [List.getD_eq_getElem?_getD, List.getElem?_eq_getElem hk]; rfl
  rw [e]
  split
  · rename_i h; split at h
    · rename_i h2; rw [if_pos h2]; exact h.symm
    · cases h
  · rename_i h; split at h
    · cases h
    · rename_i h2; rw [if_neg h2]
end Go.Proofs.YtoiolepengcagaaGreatDoor
