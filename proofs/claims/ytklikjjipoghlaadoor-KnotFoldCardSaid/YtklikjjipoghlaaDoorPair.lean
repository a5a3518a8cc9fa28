/- Numbers paired with those below, by ways there and back: plainly. Conditions: none. -/
import Derived.Test.YtklikjjipoghlaaDoorLevel
namespace Go.Proofs.YtklikjjipoghlaaDoor
/-- the item at a place, -1 if there is none -/
def vl (l : List Int) (i : Nat) : Int := l.getD i (-1)
theorem vl_set (l : List Int) (i : Nat) (x : Int) (m : Nat) (hi : i < l.length) : vl (l.set i x) m = if i = m then x else vl l m := by
  unfold vl
  rw [List.getD_eq_getElem?_getD, List.getElem?_set]
  by_cases h : i = m
  · subst h; simp [hi]
  · simp [h]
theorem vl_out {l : List Int} {i : Nat} (h : l.length ≤ i) : vl l i = -1 := by unfold vl; simp [h]
theorem vl_at {l : List Int} {i : Nat} (h : i < l.length) : vl l i = l[i] := by unfold vl; simp [h]
theorem vl_rep (n i : Nat) : vl (List.replicate n (-1)) i = -1 := by
  unfold vl
  rw [List.getD_eq_getElem?_getD, List.getElem?_replicate]
  by_cases h : i < n <;> simp [h]
/-- all of s are of t -/
def sub (s t : B) : Prop := ∀ k, has s k = true → has t k = true
theorem sub_trans {s t u : B} (h : sub s t) (h2 : sub t u) : sub s u := fun k hk => h2 k (h k hk)
/-- a pairing; the number h stands in no pair that can be told from its other end -/
structure Pr (R : List B) (nx ah : List Int) (h : Int) : Prop where
  ln : nx.length = R.length
  la : ah.length = R.length
  fw : ∀ j k : Nat, vl nx j = k → vl ah k = j ∧ has (row R j) k = true
  bw : ∀ k j : Nat, (k : Int) ≠ h → vl ah k = j → vl nx j = k
  lt : ∀ k j : Nat, vl ah k = j → j < R.length
  gn : ∀ j, -1 ≤ vl nx j
  ga : ∀ k, -1 ≤ vl ah k
/-- a set whose numbers all have one ahead of them that needs none but of the set -/
def Clos (R : List B) (ah : List Int) (X : B) : Prop := ∀ k, has X k = true → ∃ j : Nat, vl ah k = j ∧ sub (row R j) X
/-- one more is paired -/
structure Won (R : List B) (nx ah : List Int) (seen : B) (i : Nat) (nx' ah' : List Int) (seen' : B) : Prop where
  pr : Pr R nx' ah' (vl nx i)
  got : ∃ k : Nat, vl nx' i = k ∧ has seen k = false
  sb : sub seen seen'
  keep : ∀ k, has seen k = true → vl ah' k = vl ah k
  frame : ∀ j, j ≠ i → (vl nx j = -1 ∨ ∃ k : Nat, vl nx j = k ∧ has seen k = true) → vl nx' j = vl nx j
  clos : ∀ X, Clos R ah X → (∃ k, has (row R i) k = true ∧ has X k = false) ∧ ∀ k, has X k = true → vl ah' k = vl ah k
  nn : ∀ j, 0 ≤ vl nx j → 0 ≤ vl nx' j
/-- none was found so far, of those seen -/
def Seen1 (R : List B) (ah : List Int) (seen s : B) : Prop := sub seen s ∧ ∀ k, has s k = true → has seen k = true ∨ ∃ j : Nat, vl ah k = j ∧ sub (row R j) s
/-- none was found -/
def Lost (R : List B) (ah : List Int) (seen : B) (i : Nat) (s : B) : Prop := Seen1 R ah seen s ∧ sub (row R i) s
/-- what a number that is looked at meets -/
def Bare (nx : List Int) (seen : B) (i : Nat) : Prop := vl nx i = -1 ∨ ∃ k : Nat, vl nx i = k ∧ has seen k = true
theorem seen1_refl (R : List B) (ah : List Int) (s : B) : Seen1 R ah s s := ⟨fun _ h => h, fun _ h => .inl h⟩
theorem int_cases {z : Int} (h : -1 ≤ z) : z = -1 ∨ ∃ k : Nat, z = k := by
  rcases Int.lt_or_le z 0 with h1 | h1
  · exact .inl (by omega)
  · exact .inr ⟨z.toNat, by omega⟩
theorem has_bit_or {s : B} {k m : Nat} (hk : k < 64) : has (s ||| 1#64 <<< k) m = true ↔ has s m = true ∨ m = k := by
  rw [has_or, Bool.or_eq_true]
  have h1 : has (1#64 <<< k) m = true ↔ m = k := by
    rcases Nat.lt_or_ge m 64 with h | h
    · rw [has_one k m h]; simp
    · rw [has_ge h]; simp; omega
  rw [h1]
theorem cnt_bit_or {s : B} {k : Nat} (hk : k < 64) (h : has s k = false) : cnt s < cnt (s ||| 1#64 <<< k) :=
  cnt_lt_of (fun _ hm => (has_bit_or hk).2 (.inl hm)) ((has_bit_or hk).2 (.inr rfl)) h
section
variable {R : List B} {nx ah : List Int} {seen s : B} {i k : Nat}
theorem Won.of {nx' ah' : List Int} {s' : B} (hs : sub seen s) (h : Won R nx ah s i nx' ah' s') : Won R nx ah seen i nx' ah' s' := by
  obtain ⟨k, hk, hf⟩ := h.got
  refine ⟨h.pr, ⟨k, hk, ?_⟩, fun m hm => h.sb m (hs m hm), fun m hm => h.keep m (hs m hm), fun j hj hc => h.frame j hj ?_, h.clos, h.nn⟩
  · cases hh : has seen k with
    | false => rfl
    | true => rw [hs k hh] at hf; cases hf
  · rcases hc with h1 | ⟨m, h1, h2⟩
    · exact .inl h1
    · exact .inr ⟨m, h1, hs m h2⟩
/-- a number that is free below -/
theorem won_free (hp : Pr R nx ah (-1)) (hk : has (row R i) k = true) (hs : has s k = false) (hkn : k < R.length) (hf : vl ah k < 0) :
    Won R nx ah s i (nx.set i (k : Int)) (ah.set k (i : Int)) (s ||| 1#64 <<< k) := by
  have hi : i < R.length := row_lt hk
  have hk64 := has_lt hk
  have e1 := fun m => vl_set nx i (k : Int) m (by rw [hp.ln]; exact hi)
  have e2 := fun m => vl_set ah k (i : Int) m (by rw [hp.la]; exact hkn)
  refine ⟨⟨by simp [hp.ln], by simp [hp.la], ?_, ?_, ?_, ?_, ?_⟩, ⟨k, by rw [e1, if_pos rfl], hs⟩, fun m hm => (has_bit_or hk64).2 (.inl hm), ?_, ?_, ?_, ?_⟩
  · intro j m hj
    rw [e1] at hj
    rw [e2]
    by_cases h1 : i = j
    · subst h1
      rw [if_pos rfl] at hj
      have : k = m := by omega
      subst this
      exact ⟨by rw [if_pos rfl], hk⟩
    · rw [if_neg h1] at hj
      obtain ⟨h2, h3⟩ := hp.fw j m hj
      have : k ≠ m := by rintro rfl; omega
      rw [if_neg this]
      exact ⟨h2, h3⟩
  · intro m j hm hj
    rw [e2] at hj
    rw [e1]
    by_cases h1 : k = m
    · subst h1
      rw [if_pos rfl] at hj
      have : i = j := by omega
      rw [if_pos this]
    · rw [if_neg h1] at hj
      have h2 := hp.bw m j (by omega) hj
      have : i ≠ j := by rintro rfl; exact hm h2.symm
      rw [if_neg this]; exact h2
  · intro m j hj
    rw [e2] at hj
    by_cases h1 : k = m
    · rw [if_pos h1] at hj; omega
    · rw [if_neg h1] at hj; exact hp.lt m j hj
  · intro j; rw [e1]; have := hp.gn j; split <;> omega
  · intro j; rw [e2]; have := hp.ga j; split <;> omega
  · intro m hm
    rw [e2]
    have : k ≠ m := by rintro rfl; rw [hs] at hm; cases hm
    rw [if_neg this]
  · intro j hj _
    rw [e1, if_neg (fun h => hj h.symm)]
  · intro X hX
    have hkX : has X k = false := by
      cases hh : has X k with
      | false => rfl
      | true => obtain ⟨j, hj, _⟩ := hX k hh; omega
    refine ⟨⟨k, hk, hkX⟩, fun m hm => ?_⟩
    rw [e2]
    have : k ≠ m := by rintro rfl; rw [hkX] at hm; cases hm
    rw [if_neg this]
  · intro j hj; rw [e1]; split <;> omega
/-- a number below whose own one ahead of it finds another -/
theorem won_next {nx1 ah1 : List Int} {s2 : B} {j : Nat} (hp : Pr R nx ah (-1)) (hb : Bare nx s i) (hk : has (row R i) k = true) (hs : has s k = false) (hkn : k < R.length) (hj : vl ah k = j)
    (h : Won R nx ah (s ||| 1#64 <<< k) j nx1 ah1 s2) : Won R nx ah s i (nx1.set i (k : Int)) (ah1.set k (i : Int)) s2 := by
  have hi : i < R.length := row_lt hk
  have hk64 := has_lt hk
  have hnj : vl nx j = k := hp.bw k j (by omega) hj
  have hij : i ≠ j := by
    rintro rfl
    rcases hb with h1 | ⟨m, h1, h2⟩
    · omega
    · have : k = m := by omega
      subst this; rw [hs] at h2; cases h2
  have e1 := fun m => vl_set nx1 i (k : Int) m (by rw [h.pr.ln]; exact hi)
  have e2 := fun m => vl_set ah1 k (i : Int) m (by rw [h.pr.la]; exact hkn)
  have hks : has (s ||| 1#64 <<< k) k = true := (has_bit_or hk64).2 (.inr rfl)
  have hak : vl ah1 k = j := by rw [h.keep k hks]; exact hj
  have hni : vl nx1 i = vl nx i := h.frame i hij (by
    rcases hb with h1 | ⟨m, h1, h2⟩
    · exact .inl h1
    · exact .inr ⟨m, h1, (has_bit_or hk64).2 (.inl h2)⟩)
  obtain ⟨k2, hk2, hk2s⟩ := h.got
  have hkk2 : k2 ≠ k := by rintro rfl; rw [hks] at hk2s; cases hk2s
  have hpr := h.pr
  rw [hnj] at hpr
  refine ⟨⟨by simp [hpr.ln], by simp [hpr.la], ?_, ?_, ?_, ?_, ?_⟩, ⟨k, by rw [e1, if_pos rfl], hs⟩, fun m hm => h.sb m ((has_bit_or hk64).2 (.inl hm)), ?_, ?_, ?_, ?_⟩
  · intro a m ha
    rw [e1] at ha
    rw [e2]
    by_cases h1 : i = a
    · subst h1
      rw [if_pos rfl] at ha
      have : k = m := by omega
      subst this
      exact ⟨by rw [if_pos rfl], hk⟩
    · rw [if_neg h1] at ha
      obtain ⟨h2, h3⟩ := hpr.fw a m ha
      have : k ≠ m := by
        rintro rfl
        have : a = j := by omega
        subst this
        omega
      rw [if_neg this]
      exact ⟨h2, h3⟩
  · intro m a hm ha
    rw [e2] at ha
    rw [e1]
    by_cases h1 : k = m
    · subst h1
      rw [if_pos rfl] at ha
      have : i = a := by omega
      rw [if_pos this]
    · rw [if_neg h1] at ha
      have h2 := hpr.bw m a (by omega) ha
      have : i ≠ a := by rintro rfl; rw [hni] at h2; exact hm h2.symm
      rw [if_neg this]; exact h2
  · intro m a ha
    rw [e2] at ha
    by_cases h1 : k = m
    · rw [if_pos h1] at ha; omega
    · rw [if_neg h1] at ha; exact hpr.lt m a ha
  · intro a; rw [e1]; have := hpr.gn a; split <;> omega
  · intro a; rw [e2]; have := hpr.ga a; split <;> omega
  · intro m hm
    rw [e2]
    have : k ≠ m := by rintro rfl; rw [hs] at hm; cases hm
    rw [if_neg this]
    exact h.keep m ((has_bit_or hk64).2 (.inl hm))
  · intro a ha hc
    rw [e1, if_neg (fun h => ha h.symm)]
    refine h.frame a ?_ ?_
    · rintro rfl
      rcases hc with h1 | ⟨m, h1, h2⟩
      · omega
      · have : k = m := by omega
        subst this; rw [hs] at h2; cases h2
    · rcases hc with h1 | ⟨m, h1, h2⟩
      · exact .inl h1
      · exact .inr ⟨m, h1, (has_bit_or hk64).2 (.inl h2)⟩
  · intro X hX
    obtain ⟨⟨q, hq1, hq2⟩, hkeep⟩ := h.clos X hX
    have hkX : has X k = false := by
      cases hh : has X k with
      | false => rfl
      | true =>
        obtain ⟨a, ha, hsub⟩ := hX k hh
        have : a = j := by omega
        subst this
        rw [hsub q hq1] at hq2; cases hq2
    refine ⟨⟨k, hk, hkX⟩, fun m hm => ?_⟩
    rw [e2]
    have : k ≠ m := by rintro rfl; rw [hkX] at hm; cases hm
    rw [if_neg this]
    exact hkeep m hm
  · intro a ha; rw [e1]; have := h.nn a ha; split <;> omega
/-- a number below whose own one ahead of it finds none -/
theorem seen1_next {s2 : B} {j : Nat} (hk64 : k < 64) (hj : vl ah k = j) (h : Seen1 R ah seen s) (h2 : Lost R ah (s ||| 1#64 <<< k) j s2) : Seen1 R ah seen s2 := by
  have hs2 : sub s s2 := fun m hm => h2.1.1 m ((has_bit_or hk64).2 (.inl hm))
  refine ⟨sub_trans h.1 hs2, fun m hm => ?_⟩
  rcases h2.1.2 m hm with h3 | h3
  · rcases (has_bit_or hk64).1 h3 with h4 | rfl
    · rcases h.2 m h4 with h5 | ⟨a, ha, hsub⟩
      · exact .inl h5
      · exact .inr ⟨a, ha, sub_trans hsub hs2⟩
    · exact .inr ⟨j, hj, h2.2⟩
  · exact .inr h3
theorem bare_next {j : Nat} (hp : Pr R nx ah (-1)) (hk64 : k < 64) (hj : vl ah k = j) : Bare nx (s ||| 1#64 <<< k) j :=
  .inr ⟨k, hp.bw k j (by omega) hj, (has_bit_or hk64).2 (.inr rfl)⟩
end
/-- how all stand when the first i were looked at -/
structure PInvP (R : List B) (nx ah : List Int) (i : Nat) : Prop where
  pr : Pr R nx ah (-1)
  rest : ∀ j, i ≤ j → vl nx j = -1
  clos : ∃ X, Clos R ah X ∧ ∀ j, j < i → vl nx j = -1 → sub (row R j) X
theorem pinv_start (R : List B) : PInvP R (List.replicate R.length (-1)) (List.replicate R.length (-1)) 0 := by
  refine ⟨⟨by simp, by simp, ?_, ?_, ?_, ?_, ?_⟩, fun j _ => vl_rep _ j, 0#64, ?_, fun j hj => by omega⟩
  · intro j k h; rw [vl_rep] at h; omega
  · intro k j _ h; rw [vl_rep] at h; omega
  · intro k j h; rw [vl_rep] at h; omega
  · intro j; rw [vl_rep]; omega
  · intro j; rw [vl_rep]; omega
  · intro k hk; rw [has_zero] at hk; cases hk
theorem pinv_won {R : List B} {nx ah nx' ah' : List Int} {i : Nat} {s : B} (h : PInvP R nx ah i) (hw : Won R nx ah 0#64 i nx' ah' s) : PInvP R nx' ah' (i + 1) := by
  obtain ⟨X, hX, hX2⟩ := h.clos
  have hi := h.rest i (Nat.le_refl _)
  have hp := hw.pr
  rw [hi] at hp
  obtain ⟨k, hk, _⟩ := hw.got
  refine ⟨hp, fun j hj => ?_, X, ?_, ?_⟩
  · have := h.rest j (by omega)
    rw [hw.frame j (by omega) (.inl this), this]
  · intro m hm
    rw [(hw.clos X hX).2 m hm]
    exact hX m hm
  · intro j hj hv
    have hji : j ≠ i := by rintro rfl; omega
    refine hX2 j (by omega) ?_
    rcases int_cases (h.pr.gn j) with h1 | ⟨m, h1⟩
    · exact h1
    · have := hw.nn j (by omega); omega
theorem pinv_lost {R : List B} {nx ah : List Int} {i : Nat} {s : B} (h : PInvP R nx ah i) (hl : Lost R ah 0#64 i s) : PInvP R nx ah (i + 1) := by
  obtain ⟨X, hX, hX2⟩ := h.clos
  refine ⟨h.pr, fun j hj => h.rest j (by omega), X ||| s, ?_, ?_⟩
  · intro m hm
    rw [has_or, Bool.or_eq_true] at hm
    rcases hm with hm | hm
    · obtain ⟨j, h1, h2⟩ := hX m hm
      exact ⟨j, h1, fun q hq => by rw [has_or, h2 q hq]; rfl⟩
    · rcases hl.1.2 m hm with h1 | ⟨j, h1, h2⟩
      · rw [has_zero] at h1; cases h1
      · exact ⟨j, h1, fun q hq => by rw [has_or, h2 q hq]; simp⟩
  · intro j hj hv q hq
    rw [has_or]
    rcases Nat.lt_or_ge j i with h1 | h1
    · rw [hX2 j h1 hv q hq]; rfl
    · have : j = i := by omega
      subst this
      rw [hl.2 q hq]; simp
/-- a pairing that cannot be made greater -/
def Paired (R : List B) (nx ah : List Int) : Prop := Pr R nx ah (-1) ∧ ∃ X, Clos R ah X ∧ ∀ j, j < R.length → vl nx j = -1 → sub (row R j) X
theorem pinv_done {R : List B} {nx ah : List Int} (h : PInvP R nx ah R.length) : Paired R nx ah := ⟨h.pr, h.clos⟩
end Go.Proofs.YtklikjjipoghlaaDoor
