/- Names sorted, each once: plainly. Conditions: none. -/
import Derived.Test.YtlhhcgiifgkngaaDoorNameSortW
namespace Go.Proofs.YtlhhcgiifgkngaaDoor
theorem le_tot (a b : List UInt8) : (decide (a ≤ b) || decide (b ≤ a)) = true := by
  rw [Bool.or_eq_true, decide_eq_true_iff, decide_eq_true_iff]
  exact List.le_total a b
theorem le_tr (a b c : List UInt8) : decide (a ≤ b) = true → decide (b ≤ c) = true → decide (a ≤ c) = true := by
  rw [decide_eq_true_iff, decide_eq_true_iff, decide_eq_true_iff]
  exact fun h1 h2 => List.le_trans h1 h2
theorem lt_le {a b x : List UInt8} (h1 : a < b) (h2 : b ≤ x) : a < x := by
  by_cases h : a < x
  · exact h
  · exact absurd h1 (List.not_lt.2 (List.le_trans h2 (List.not_lt.1 h)))
/-- what Compact keeps of the first m places of a sorted row -/
theorem compact_inv (d : Array (List UInt8)) (hs : ∀ i j, i ≤ j → j < d.size → d[i]! ≤ d[j]!) (m : Nat) (hm : m ≤ d.size) :
    (Lib.compactUpTo d m).Pairwise (· < ·) ∧ (∀ x, x ∈ Lib.compactUpTo d m ↔ ∃ j, j < m ∧ d[j]! = x) := by
  induction m with
  | zero => exact ⟨by simp [Lib.compactUpTo], fun x => by simp [Lib.compactUpTo]⟩
  | succ m ih =>
    obtain ⟨h1, h2⟩ := ih (by omega)
    rw [Lib.compactUpTo_succ]
    cases hk : Lib.keeps d m
    · have hk' : ¬ (m = 0 ∨ d[m]! ≠ d[m - 1]!) := by unfold Lib.keeps at hk; exact of_decide_eq_false hk
      have h0 : 0 < m := by omega
      have he : d[m]! = d[m - 1]! := by
        by_cases h : d[m]! = d[m - 1]!
        · exact h
        · exact absurd (.inr h) hk'
      simp only [Bool.false_eq_true, if_false, List.append_nil]
      refine ⟨h1, fun x => ?_⟩
      rw [h2]
      constructor
      · rintro ⟨j, hj, rfl⟩; exact ⟨j, by omega, rfl⟩
      · rintro ⟨j, hj, rfl⟩
        rcases Nat.lt_or_ge j m with h | h
        · exact ⟨j, h, rfl⟩
        · exact ⟨m - 1, by omega, by rw [← he, show j = m from by omega]⟩
    · have hk' : m = 0 ∨ d[m]! ≠ d[m - 1]! := by unfold Lib.keeps at hk; exact of_decide_eq_true hk
      simp only [if_true]
      refine ⟨?_, fun x => ?_⟩
      · rw [List.pairwise_append]
        refine ⟨h1, by simp, fun x hx y hy => ?_⟩
        obtain ⟨j, hj, rfl⟩ := (h2 x).1 hx
        rw [List.mem_singleton.1 hy]
        rcases hk' with h | h
        · omega
        · have a1 := hs j (m - 1) (by omega) (by omega)
          have a2 := hs (m - 1) m (by omega) (by omega)
          by_cases h3 : d[j]! < d[m]!
          · exact h3
          · have h4 := List.le_trans (List.not_lt.1 h3) a1
            exact absurd (List.le_antisymm h4 a2) h
      · rw [List.mem_append, h2, List.mem_singleton]
        constructor
        · rintro (⟨j, hj, rfl⟩ | rfl)
          · exact ⟨j, by omega, rfl⟩
          · exact ⟨m, by omega, rfl⟩
        · rintro ⟨j, hj, rfl⟩
          rcases Nat.lt_or_ge j m with h | h
          · exact .inl ⟨j, h, rfl⟩
          · exact .inr (by rw [show j = m from by omega])
theorem sorted_get {l : List (List UInt8)} (h : l.Pairwise (· ≤ ·)) : ∀ i j, i ≤ j → j < l.toArray.size → l.toArray[i]! ≤ l.toArray[j]! := by
  intro i j hij hj
  have hj' : j < l.length := by simpa using hj
  rw [getElem!_pos l.toArray i (by simp; omega), getElem!_pos l.toArray j hj]
  simp only [List.getElem_toArray]
  rcases Nat.lt_or_ge i j with h1 | h1
  · exact List.pairwise_iff_getElem.1 h i j (by omega) hj' h1
  · have : i = j := by omega
    subst this; exact List.le_refl _
theorem merge_sorted (bs : List (List UInt8)) : (bs.mergeSort fun x y => decide (x ≤ y)).Pairwise (· ≤ ·) :=
  (List.pairwise_mergeSort le_tr le_tot bs).imp fun h => of_decide_eq_true h
theorem sortN_strict (zs : List ByteArray) : (sortN zs).Pairwise (· < ·) := by
  unfold sortN Lib.compact
  exact (compact_inv _ (sorted_get (merge_sorted _)) _ (by simp)).1
theorem sortN_mem (zs : List ByteArray) (x : List UInt8) : x ∈ sortN zs ↔ x ∈ byt zs := by
  unfold sortN Lib.compact
  rw [(compact_inv _ (sorted_get (merge_sorted _)) _ (by simp)).2 x, ← List.mem_mergeSort (le := fun x y => decide (x ≤ y)) (l := byt zs)]
  constructor
  · rintro ⟨j, hj, rfl⟩
    rw [getElem!_pos _ _ (by simpa using hj)]
    simp
  · intro h
    obtain ⟨j, hj, e⟩ := List.mem_iff_getElem.1 h
    exact ⟨j, hj, by rw [getElem!_pos _ _ (by simpa using hj)]; simpa using e⟩
theorem lt_irr {a : List UInt8} (h : a < a) : False := List.lt_irrefl a h
theorem lt_asym {a b : List UInt8} (h : a < b) (h2 : b < a) : False := List.not_lt.2 (List.le_of_lt h) h2
/-- rising lists with the same members are one -/
theorem strict_ext {l m : List (List UInt8)} (hl : l.Pairwise (· < ·)) (hm : m.Pairwise (· < ·)) (h : ∀ x, x ∈ l ↔ x ∈ m) : l = m := by
  induction l generalizing m with
  | nil =>
    cases m with
    | nil => rfl
    | cons b m => have := (h b).2 List.mem_cons_self; cases this
  | cons a l ih =>
    cases m with
    | nil => have := (h a).1 List.mem_cons_self; cases this
    | cons b m =>
      rw [List.pairwise_cons] at hl hm
      have hab : a = b := by
        rcases List.mem_cons.1 ((h a).1 List.mem_cons_self) with e | e
        · exact e
        · rcases List.mem_cons.1 ((h b).2 List.mem_cons_self) with e2 | e2
          · exact e2.symm
          · exact absurd (hl.1 b e2) (fun h3 => lt_asym h3 (hm.1 a e))
      subst hab
      congr 1
      refine ih hl.2 hm.2 fun x => ⟨fun hx => ?_, fun hx => ?_⟩
      · rcases List.mem_cons.1 ((h x).1 (List.mem_cons_of_mem _ hx)) with e | e
        · subst e; exact absurd (hl.1 x hx) lt_irr
        · exact e
      · rcases List.mem_cons.1 ((h x).2 (List.mem_cons_of_mem _ hx)) with e | e
        · subst e; exact absurd (hm.1 x hx) lt_irr
        · exact e
end Go.Proofs.YtlhhcgiifgkngaaDoor
