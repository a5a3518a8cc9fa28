/- Two pairings that cannot be made greater are of one size: plainly. Conditions: none. -/
import Derived.Test.YtklikjjipoghlaaDoorPairC
namespace Go.Proofs.YtklikjjipoghlaaDoor
/-- those that have one behind them; those that have one ahead of them -/
def mls (nx : List Int) (n : Nat) : List Nat := (List.range n).filter fun i => !decide (vl nx i = -1)
theorem mem_mls {nx : List Int} {n i : Nat} : i ∈ mls nx n ↔ i < n ∧ vl nx i ≠ -1 := by
  unfold mls
  rw [List.mem_filter, List.mem_range]
  simp
theorem mls_nodup (nx : List Int) (n : Nat) : (mls nx n).Nodup := List.nodup_range.filter _
theorem tops_mls (ah : List Int) (n : Nat) : (topsL ah n).length + (mls ah n).length = n := by
  have := filter_len (l := List.range n) fun i => decide (vl ah i = -1)
  rw [List.length_range] at this
  exact this
section
variable {R : List B} {nx ah nx' ah' : List Int}
theorem mls_both (hp : Pr R nx ah (-1)) : (mls nx R.length).length = (mls ah R.length).length := by
  apply Nat.le_antisymm
  · have hn : ((mls nx R.length).map fun j => (vl nx j).toNat).Nodup := by
      refine nodup_map (mls_nodup _ _) fun a ha b hb he => ?_
      rw [mem_mls] at ha hb
      rcases int_cases (hp.gn a) with h1 | ⟨k, h1⟩
      · exact (ha.2 h1).elim
      rcases int_cases (hp.gn b) with h2 | ⟨k2, h2⟩
      · exact (hb.2 h2).elim
      have : k = k2 := by simp only [h1, h2, Int.toNat_natCast] at he; exact he
      subst this
      have e1 := (hp.fw a k h1).1
      have e2 := (hp.fw b k h2).1
      omega
    have := hn.length_le_of_subset (l₂ := mls ah R.length) fun k hk => by
      obtain ⟨j, hj, rfl⟩ := List.mem_map.1 hk
      rw [mem_mls] at hj
      rcases int_cases (hp.gn j) with h1 | ⟨m, h1⟩
      · exact (hj.2 h1).elim
      have e1 := (hp.fw j m h1).1
      have e2 := pr_lt hp h1
      rw [mem_mls]
      simp only [h1, Int.toNat_natCast]
      exact ⟨e2, by omega⟩
    rwa [List.length_map] at this
  · have hn : ((mls ah R.length).map fun k => (vl ah k).toNat).Nodup := by
      refine nodup_map (mls_nodup _ _) fun a ha b hb he => ?_
      rw [mem_mls] at ha hb
      rcases int_cases (hp.ga a) with h1 | ⟨k, h1⟩
      · exact (ha.2 h1).elim
      rcases int_cases (hp.ga b) with h2 | ⟨k2, h2⟩
      · exact (hb.2 h2).elim
      have : k = k2 := by simp only [h1, h2, Int.toNat_natCast] at he; exact he
      subst this
      have e1 := hp.bw a k (by omega) h1
      have e2 := hp.bw b k (by omega) h2
      omega
    have := hn.length_le_of_subset (l₂ := mls nx R.length) fun k hk => by
      obtain ⟨j, hj, rfl⟩ := List.mem_map.1 hk
      rw [mem_mls] at hj
      rcases int_cases (hp.ga j) with h1 | ⟨m, h1⟩
      · exact (hj.2 h1).elim
      have e1 := hp.bw j m (by omega) h1
      have e2 := hp.lt j m h1
      rw [mem_mls]
      simp only [h1, Int.toNat_natCast]
      exact ⟨e2, by omega⟩
    rwa [List.length_map] at this
theorem mls_le (h : Paired R nx ah) (hp' : Pr R nx' ah' (-1)) : (mls nx' R.length).length ≤ (mls nx R.length).length := by
  obtain ⟨hp, X, hX, hX2⟩ := h
  have hform : ∀ j, j ∈ mls nx' R.length → ∃ k : Nat, vl nx' j = k ∧ ((has X k = true ∧ ∃ i : Nat, vl ah k = i ∧ vl nx i = k) ∨ (has X k = false ∧ ∃ m : Nat, vl nx j = m ∧ has X m = false)) := by
    intro j hj
    rw [mem_mls] at hj
    rcases int_cases (hp'.gn j) with h1 | ⟨k, h1⟩
    · exact (hj.2 h1).elim
    refine ⟨k, h1, ?_⟩
    have hjk := (hp'.fw j k h1).2
    cases hk : has X k with
    | true =>
      obtain ⟨i, hi, _⟩ := hX k hk
      exact .inl ⟨rfl, i, hi, hp.bw k i (by omega) hi⟩
    | false =>
      refine .inr ⟨rfl, ?_⟩
      rcases int_cases (hp.gn j) with h2 | ⟨m, h2⟩
      · have := hX2 j hj.1 h2 k hjk
        rw [hk] at this; cases this
      · refine ⟨m, h2, ?_⟩
        cases hm : has X m with
        | false => rfl
        | true =>
          obtain ⟨i, hi, hsub⟩ := hX m hm
          have e1 := (hp.fw j m h2).1
          have : i = j := by omega
          subst this
          have := hsub k hjk
          rw [hk] at this; cases this
  have hn : ((mls nx' R.length).map fun j => if has X (vl nx' j).toNat = true then (vl ah (vl nx' j).toNat).toNat else j).Nodup := by
    refine nodup_map (mls_nodup _ _) fun a ha b hb he => ?_
    obtain ⟨k, hk, hk2⟩ := hform a ha
    obtain ⟨q, hq, hq2⟩ := hform b hb
    simp only [hk, hq, Int.toNat_natCast] at he
    rcases hk2 with ⟨h1, i, h2, h3⟩ | ⟨h1, m, h2, h3⟩ <;> rcases hq2 with ⟨g1, i', g2, g3⟩ | ⟨g1, m', g2, g3⟩
    · rw [if_pos h1, if_pos g1, h2, g2, Int.toNat_natCast, Int.toNat_natCast] at he
      subst he
      have : k = q := by omega
      subst this
      have e1 := (hp'.fw a k hk).1
      have e2 := (hp'.fw b k hq).1
      omega
    · rw [if_pos h1, if_neg (by rw [g1]; decide), h2, Int.toNat_natCast] at he
      subst he
      have : m' = k := by omega
      subst this
      rw [h1] at g3; cases g3
    · rw [if_neg (by rw [h1]; decide), if_pos g1, g2, Int.toNat_natCast] at he
      subst he
      have : m = q := by omega
      subst this
      rw [g1] at h3; cases h3
    · rw [if_neg (by rw [h1]; decide), if_neg (by rw [g1]; decide)] at he
      exact he
  have := hn.length_le_of_subset (l₂ := mls nx R.length) fun x hx => by
    obtain ⟨j, hj, rfl⟩ := List.mem_map.1 hx
    obtain ⟨k, hk, hk2⟩ := hform j hj
    rw [mem_mls]
    simp only [hk, Int.toNat_natCast]
    rcases hk2 with ⟨h1, i, h2, h3⟩ | ⟨h1, m, h2, h3⟩
    · rw [if_pos h1, h2, Int.toNat_natCast]
      exact ⟨hp.lt k i h2, by omega⟩
    · rw [if_neg (by rw [h1]; decide)]
      exact ⟨(mem_mls.1 hj).1, by omega⟩
  rwa [List.length_map] at this
/-- as many chains, whichever pairing -/
theorem tops_same (h : Paired R nx ah) (h' : Paired R nx' ah') : (topsL ah R.length).length = (topsL ah' R.length).length := by
  have a1 := mls_le h h'.1
  have a2 := mls_le h' h.1
  have b1 := mls_both h.1
  have b2 := mls_both h'.1
  have c1 := tops_mls ah R.length
  have c2 := tops_mls ah' R.length
  omega
end
end Go.Proofs.YtklikjjipoghlaaDoor
