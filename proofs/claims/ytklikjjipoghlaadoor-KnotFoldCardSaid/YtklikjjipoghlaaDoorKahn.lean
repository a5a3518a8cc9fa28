/- The order that takes, again and again, the least number that needs none of those left. Conditions: none. -/
import Derived.Test.YtklikjjipoghlaaDoorRch
namespace Go.Proofs.YtklikjjipoghlaaDoor
/-- the order as far as it has gone -/
structure KOrd (r : List B) (o : List Nat) (left : B) : Prop where
  nodup : o.Nodup
  lt : ∀ n ∈ o, n < r.length
  left_iff : ∀ k, has left k = true ↔ k < r.length ∧ k ∉ o
  needs : ∀ i (h : i < o.length) k, has (row r o[i]) k = true → k ∈ o.take i
/-- nobody of those left can be next -/
def Stuck (r : List B) (left : B) : Prop := ∀ n, has left n = true → ∃ k, has (row r n) k = true ∧ has left k = true
theorem kord_nil {r : List B} (h : r.length ≤ 64) : KOrd r [] (belowB r.length) :=
  ⟨List.nodup_nil, (fun n h => by cases h), (fun k => by
    rcases Nat.lt_or_ge k 64 with h1 | h1
    · rw [has_below _ _ h1]; simp
    · rw [has_ge h1]; simp; omega), (fun i h => by cases h)⟩
theorem kord_snoc {r : List B} (hv : Valid r) {o : List Nat} {left : B} (h : KOrd r o left) {n : Nat} (hn : has left n = true) (h0 : row r n &&& left = 0#64) : KOrd r (o ++ [n]) (left &&& ~~~(1#64 <<< n)) := by
  obtain ⟨hl, ho⟩ := (h.left_iff n).1 hn
  refine ⟨?_, ?_, ?_, ?_⟩
  · rw [List.nodup_append]
    refine ⟨h.nodup, by simp, fun a ha b hb => ?_⟩
    have : b = n := by simpa using hb
    subst this
    intro e; subst e; exact ho ha
  · intro m hm
    rcases List.mem_append.1 hm with hm | hm
    · exact h.lt m hm
    · have : m = n := by simpa using hm
      subst this; exact hl
  · intro k
    rw [has_and, Bool.and_eq_true]
    rcases Nat.lt_or_ge k 64 with h1 | h1
    · rw [has_not _ _ h1, has_one n k h1, h.left_iff k, List.mem_append]
      simp only [Bool.not_eq_true', decide_eq_false_iff_not, List.mem_singleton, not_or]
      exact ⟨fun ⟨⟨a, b⟩, c⟩ => ⟨a, b, c⟩, fun ⟨a, b, c⟩ => ⟨⟨a, b⟩, c⟩⟩
    · rw [has_ge h1]
      constructor
      · rintro ⟨h2, _⟩; cases h2
      · rintro ⟨h2, _⟩; have := hv.1; omega
  · intro i hi k hk
    rw [List.length_append] at hi
    rcases Nat.lt_or_ge i o.length with h1 | h1
    · rw [List.getElem_append_left h1] at hk
      rw [List.take_append_of_le_length (by omega)]
      exact h.needs i h1 k hk
    · have hie : i = o.length := by simp at hi; omega
      subst hie
      have hk' : has (row r n) k = true := by simpa using hk
      have hnl : has left k ≠ true := fun hc => by
        have := eq_zero_iff.1 h0 k
        rw [has_and, hk', hc] at this; cases this
      have hko : k ∈ o := by
        by_cases hc : k ∈ o
        · exact hc
        · exact absurd ((h.left_iff k).2 ⟨hv.2 n k hk', hc⟩) hnl
      rw [List.take_left]; exact hko
theorem clear_lt {l : B} {n : Nat} (h : has l n = true) : un (l &&& ~~~(1#64 <<< n)) < un l := by
  have h1 : un (l &&& ~~~(1#64 <<< n)) ≤ un l := by unfold un; rw [BitVec.toNat_and]; exact Nat.and_le_left
  rcases Nat.lt_or_ge (un (l &&& ~~~(1#64 <<< n))) (un l) with h2 | h2
  · exact h2
  · have h3 : l &&& ~~~(1#64 <<< n) = l := un_inj (by omega)
    have h4 : has (l &&& ~~~(1#64 <<< n)) n = has l n := by rw [h3]
    rw [has_and, has_not _ _ (has_lt h), has_one n n (has_lt h), h] at h4
    simp at h4
/-- a set in which each needs another one of it is never touched -/
theorem kord_keeps {r : List B} {o : List Nat} {left : B} (h : KOrd r o left) {X : Nat → Prop} (hX : ∀ n, X n → ∃ k, X k ∧ has (row r n) k = true) {n : Nat} (hn : X n) : n ∉ o := by
  have key : ∀ i, ∀ j, j ≤ i → ∀ (hj : j < o.length), ¬ X o[j] := by
    intro i
    induction i with
    | zero =>
      intro j hj hjl hx
      obtain ⟨k, _, hk⟩ := hX _ hx
      have := h.needs j hjl k hk
      have hj0 : j = 0 := by omega
      subst hj0
      simp at this
    | succ i ih =>
      intro j hj hjl hx
      obtain ⟨k, hxk, hk⟩ := hX _ hx
      have hm := h.needs j hjl k hk
      obtain ⟨m, hm1, hm2⟩ := List.mem_iff_getElem.1 hm
      rw [List.length_take] at hm1
      rw [List.getElem_take] at hm2
      exact ih m (by omega) (by omega) (by rw [hm2]; exact hxk)
  intro hmem
  obtain ⟨j, hj, he⟩ := List.mem_iff_getElem.1 hmem
  exact key j j (Nat.le_refl _) hj (by rw [he]; exact hn)
theorem stuck_sub {r : List B} {o : List Nat} {l l2 : B} (h : KOrd r o l) (hs : Stuck r l2) {n : Nat} (hn : has l2 n = true) : has l n = true := by
  obtain ⟨k, hk, _⟩ := hs n hn
  refine (h.left_iff n).2 ⟨row_lt hk, kord_keeps h (X := fun m => has l2 m = true) (fun m hm => ?_) hn⟩
  obtain ⟨q, h1, h2⟩ := hs m hm
  exact ⟨q, h2, h1⟩
theorem stuck_zero_iff {r : List B} {o o2 : List Nat} {l l2 : B} (h : KOrd r o l) (hs : Stuck r l) (h2 : KOrd r o2 l2) (hs2 : Stuck r l2) : l = 0#64 ↔ l2 = 0#64 := by
  constructor
  · intro h0
    rw [eq_zero_iff] at h0 ⊢
    intro n
    by_cases hn : has l2 n = true
    · have := stuck_sub h hs2 hn
      rw [h0] at this; cases this
    · simpa using hn
  · intro h0
    rw [eq_zero_iff] at h0 ⊢
    intro n
    by_cases hn : has l n = true
    · have := stuck_sub h2 hs hn
      rw [h0] at this; cases this
    · simpa using hn
theorem kord_len {r : List B} (hv : Valid r) {o : List Nat} {l : B} (h : KOrd r o l) : o.length ≤ 64 := by
  have h1 : o.length ≤ (List.range r.length).length := List.Nodup.length_le_of_subset h.nodup (fun n hn => List.mem_range.2 (h.lt n hn))
  have := hv.1
  simp at h1; omega
theorem kord_all {r : List B} {o : List Nat} (h : KOrd r o 0#64) : o.length = r.length := by
  have h1 : o.length ≤ (List.range r.length).length := List.Nodup.length_le_of_subset h.nodup (fun n hn => List.mem_range.2 (h.lt n hn))
  have h2 : (List.range r.length).length ≤ o.length := List.Nodup.length_le_of_subset List.nodup_range (fun n hn => by
    by_cases hc : n ∈ o
    · exact hc
    · have := (h.left_iff n).2 ⟨List.mem_range.1 hn, hc⟩
      rw [has_zero] at this; cases this)
  simp at h1 h2; omega
end Go.Proofs.YtklikjjipoghlaaDoor
