/- Values quoted, and what is flat is short, plainly. Conditions: none. -/
import Derived.Test.YtmeenhfclnkjhaaDoorMacroFlW
import Derived.Test.YtmeenhfclnkjhaaDoorLineP
namespace Go.Proofs.YtmeenhfclnkjhaaDoor
open Go.RowKit Go.Shelf
theorem repl_dbl (v : Bs) : Lib.replaceAll v [36] [36, 36] = dbl v := by
  induction v with
  | nil => exact repl_nil _ _ (by decide)
  | cons c v ih =>
    rw [repl_cons [36] [36, 36] (by decide) (by decide)]
    by_cases h : c = 36
    · subst h
      rw [if_pos (by simp [List.isPrefixOf])]
      show [36, 36] ++ Lib.replaceAll v [36] [36, 36] = _
      rw [ih]
      rfl
    · rw [if_neg (by simp [List.isPrefixOf]; exact fun e => h e.symm), ih]
      unfold dbl
      rw [List.flatMap_cons, if_neg h]
      rfl
theorem dbl_len (v : Bs) : (dbl v).length ≤ 2 * v.length := by
  induction v with
  | nil => simp [dbl]
  | cons c v ih =>
    unfold dbl at ih ⊢
    rw [List.flatMap_cons, List.length_append, List.length_cons]
    split
    · rw [show ([36, 36] : Bs).length = 2 from rfl]; omega
    · rw [show ([c] : Bs).length = 1 from rfl]; omega
theorem flatF_short {l : List Mac} {n v : Bs} (h : flatF okM l n = some v) : v.length ≤ 2000 := by
  unfold flatF at h
  split at h
  · rename_i hex
    have hs := Classical.choose_spec hex
    rw [h] at hs
    exact hs.short
  · cases h
theorem flatL_short {l : List Mac} {x : Mac} (h : x ∈ flatL okM l) : x.2.length ≤ 2000 ∧ ∃ m ∈ l, x.1 = m.1 := by
  obtain ⟨m, hm, rfl⟩ := List.mem_map.1 h
  refine ⟨?_, m, hm, rfl⟩
  show ((flatF okM l m.1).getD []).length ≤ 2000
  cases e : flatF okM l m.1 with
  | none => simp
  | some v => exact flatF_short e
/-- the first k values quoted -/
def QK (l L : List Mac) (k : Nat) : Prop := L.length = l.length ∧ ∀ t, L[t]? = if t < k then (l[t]?).map (fun m => (m.1, dbl m.2)) else l[t]?
theorem QK.start (l : List Mac) : QK l l 0 := ⟨rfl, fun t => by rw [if_neg (by omega)]⟩
theorem QK.done {l L : List Mac} (h : QK l L l.length) : L = quoteL l := by
  refine List.ext_getElem? fun t => ?_
  rw [h.2 t]
  unfold quoteL
  rw [List.getElem?_map]
  split
  · rfl
  · rw [List.getElem?_eq_none (by omega)]; rfl
theorem QK.step {l L : List Mac} {k : Nat} (h : QK l L k) {m : Mac} (hm : L[k]? = some m) : QK l (L.set k (m.1, dbl m.2)) (k + 1) := by
  have hk : k < L.length := (List.getElem?_eq_some_iff.1 hm).1
  have e1 := h.2 k
  rw [if_neg (by omega), hm] at e1
  refine ⟨by rw [List.length_set]; exact h.1, fun t => ?_⟩
  rw [List.getElem?_set]
  by_cases h1 : k = t
  · subst h1
    rw [if_pos rfl, if_pos hk, if_pos (by omega), ← e1]; rfl
  · rw [if_neg h1, h.2 t]
    by_cases h2 : t < k
    · rw [if_pos h2, if_pos (by omega)]
    · rw [if_neg h2, if_neg (by omega)]
theorem cells2_set1 {l : List Mac} {k : Nat} {m : Mac} (hk : l[k]? = some m) (v : Bs) : (cells2 mF mG l).set (k * 2 + 1) (mG (m.1, v)) = cells2 mF mG (l.set k (m.1, v)) := by
  induction l generalizing k with
  | nil => cases hk
  | cons x l ih =>
    cases k with
    | zero =>
      simp at hk
      subst hk
      rfl
    | succ k =>
      have e := ih (k := k) (by simpa using hk)
      show (mF x :: mG x :: cells2 mF mG l).set ((k + 1) * 2 + 1) (mG (m.1, v)) = mF x :: mG x :: cells2 mF mG (l.set k (m.1, v))
      rw [← e, show (k + 1) * 2 + 1 = k * 2 + 1 + 1 + 1 from by omega]
      rfl
end Go.Proofs.YtmeenhfclnkjhaaDoor
