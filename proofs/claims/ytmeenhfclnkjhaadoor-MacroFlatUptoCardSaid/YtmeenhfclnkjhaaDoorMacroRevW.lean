/- slices.Reverse at macros of the call's own. Conditions: none. -/
import Derived.Test.YtmeenhfclnkjhaaDoorMacroCW
import Derived.RegionTactic
namespace Go.Proofs.YtmeenhfclnkjhaaDoor
open Go.RowKit Go.Shelf Go.Maps
theorem own_set {w : World} {base size n c g j : Nat} {e : TypeId} {xs : List Value} {u : Value} (h : w.ownsRow base e size (.slice (some ⟨g, 0, none⟩) n c) n xs) :
    (w.setCell ⟨g, j, none⟩ u).ownsRow base e size (.slice (some ⟨g, 0, none⟩) n c) n (xs.set j u) := by
  obtain ⟨h1, h2⟩ := h
  refine ⟨by rw [List.length_set]; exact h1, ?_⟩
  rcases h2 with ⟨h2, _⟩ | ⟨g', cap, cur, e1, hb, hg, hnc, hcm, hcs, htake⟩
  · cases h2
  · injection e1 with e2 e3 e4
    obtain rfl : g = g' := by simpa using e2
    subst e4
    refine .inr ⟨g, c, cur.setIfInBounds j u, rfl, hb, heap_setCell_same w g j cur e u hg, hnc, hcm, by simp [hcs], ?_⟩
    rw [Array.toList_setIfInBounds, List.take_set, htake]
theorem own_ice {w : World} {base size n c g j : Nat} {e : TypeId} {xs : List Value} (h : w.ownsRow base e size (.slice (some ⟨g, 0, none⟩) n c) n xs) : w.frozen? ⟨g, j, none⟩ = false := by
  rcases h.2 with ⟨h2, _⟩ | ⟨g', cap, cur, e1, hb, hg, _⟩
  · cases h2
  · injection e1 with e2 e3 e4
    obtain rfl : g = g' := by simpa using e2
    simp [World.frozen?, hg]
theorem cells2_set {l : List Mac} {k : Nat} (hk : k < l.length) (m : Mac) : ((cells2 mF mG l).set (k * 2) (mF m)).set (k * 2 + 1) (mG m) = cells2 mF mG (l.set k m) := by
  induction l generalizing k with
  | nil => cases hk
  | cons x l ih =>
    cases k with
    | zero => rfl
    | succ k =>
      have e := ih (k := k) (by simpa using hk)
      show ((mF x :: mG x :: cells2 mF mG l).set ((k + 1) * 2) (mF m)).set ((k + 1) * 2 + 1) (mG m) = mF x :: mG x :: cells2 mF mG (l.set k m)
      rw [← e, show (k + 1) * 2 = k * 2 + 1 + 1 from by omega]
      rfl
/-- after k exchanges -/
def RevK (l L : List Mac) (k : Nat) : Prop := L.length = l.length ∧ ∀ t, t < l.length → L[t]? = if t < k ∨ l.length - k ≤ t then l[l.length - 1 - t]? else l[t]?
theorem RevK.start (l : List Mac) : RevK l l 0 := ⟨rfl, fun t ht => by rw [if_neg (by omega)]⟩
theorem RevK.done {l L : List Mac} {k : Nat} (h : RevK l L k) (hk : l.length ≤ 2 * k + 1) : L = l.reverse := by
  refine List.ext_getElem? fun t => ?_
  by_cases ht : t < l.length
  · rw [h.2 t ht, List.getElem?_reverse ht]
    split
    · rfl
    · have : t = l.length - 1 - t := by omega
      rw [← this]
  · rw [List.getElem?_eq_none (by rw [h.1]; omega), List.getElem?_eq_none (by rw [List.length_reverse]; omega)]
theorem RevK.step {l L : List Mac} {k : Nat} (h : RevK l L k) (hk : 2 * k + 1 < l.length) {x y : Mac} (hx : L[k]? = some x) (hy : L[l.length - 1 - k]? = some y) : RevK l ((L.set k y).set (l.length - 1 - k) x) (k + 1) := by
  refine ⟨by rw [List.length_set, List.length_set]; exact h.1, fun t ht => ?_⟩
  have e1 := h.2 k (by omega)
  rw [if_neg (by omega), hx] at e1
  have e2 := h.2 (l.length - 1 - k) (by omega)
  rw [if_neg (by omega), hy] at e2
  rw [List.getElem?_set, List.getElem?_set]
  by_cases h1 : l.length - 1 - k = t
  · rw [if_pos h1, if_pos (by rw [List.length_set, h.1]; omega), if_pos (by omega), ← h1, show l.length - 1 - (l.length - 1 - k) = k from by omega, ← e1]
  · rw [if_neg h1]
    by_cases h2 : k = t
    · rw [if_pos h2, if_pos (by rw [h.1]; omega), if_pos (by omega), ← h2, ← e2]
    · rw [if_neg h2, h.2 t ht]
      by_cases h3 : t < k ∨ l.length - k ≤ t
      · rw [if_pos h3, if_pos (by omega)]
      · rw [if_neg h3, if_neg (by omega)]
end Go.Proofs.YtmeenhfclnkjhaaDoor
