/- The way that takes longest, plainly: it follows what is needed, and its durations add up to the greatest time. Conditions: none. -/
import Derived.Test.YtlhomgbibhacoaaDoorCost
namespace Go.Proofs.YtlhomgbibhacoaaDoor
/-- the way so far, from its end: s is where the next one is taken from -/
structure CW (r : List B) (T o : List Nat) (L : List Nat) (s : B) : Prop where
  lt : ∀ i, i < L.length → L.getD i 0 < r.length
  edge : ∀ i, i + 1 < L.length → has (row r (L.getD i 0)) (L.getD (i + 1) 0) = true
  best : ∀ i, i + 1 < L.length → ∀ k, has (row r (L.getD i 0)) k = true → T.getD k 0 ≤ T.getD (L.getD (i + 1) 0) 0
  first : 0 < L.length → ∀ k, k < r.length → T.getD k 0 ≤ T.getD (L.getD 0 0) 0
  now : (L.length = 0 ∧ s = belowB r.length) ∨ (0 < L.length ∧ s = row r (L.getD (L.length - 1) 0))
  pos : L.length = 0 ∨ L.length + o.idxOf (L.getD (L.length - 1) 0) ≤ o.length
theorem cw_nil (r : List B) (T o : List Nat) : CW r T o [] (belowB r.length) :=
  ⟨(fun i h => by simp at h), (fun i h => by simp at h), (fun i h => by simp at h), (fun h => by simp at h), .inl ⟨rfl, rfl⟩, .inl rfl⟩
theorem snoc_getD (L : List Nat) (b i : Nat) : (L ++ [b]).getD i 0 = if i < L.length then L.getD i 0 else if i = L.length then b else 0 := by
  rw [List.getD_eq_getElem?_getD, List.getElem?_append]
  split
  · rw [List.getD_eq_getElem?_getD]
  · split
    · rename_i h1 h2; rw [h2]; simp
    · rename_i h1 h2
      rw [List.getElem?_eq_none (by simp; omega)]; rfl
theorem idx_need {r : List B} {o : List Nat} (hO : KOrd r o 0#64) {n k : Nat} (h : has (row r n) k = true) : o.idxOf k < o.idxOf n := by
  have hn : n ∈ o := mem_order hO (row_lt h)
  have hi : o.idxOf n < o.length := List.idxOf_lt_length_of_mem hn
  have he : o[o.idxOf n] = n := List.getElem_idxOf hi
  have hk := hO.needs (o.idxOf n) hi k (by rw [he]; exact h)
  obtain ⟨q, hq, hqe⟩ := List.mem_iff_getElem.1 hk
  rw [List.length_take] at hq
  rw [List.getElem_take] at hqe
  have hko : k ∈ o := by rw [← hqe]; exact List.getElem_mem _
  have hik : o.idxOf k < o.length := List.idxOf_lt_length_of_mem hko
  have h2 : o[o.idxOf k] = o[q] := by rw [List.getElem_idxOf hik, hqe]
  have := (List.getElem_inj (xs := o) (h₀ := hik) (h₁ := by omega) hO.nodup).1 h2
  omega
theorem cw_next {r : List B} {T o L : List Nat} {s : B} {b : Nat} (hv : Valid r) (hO : KOrd r o 0#64) (h : CW r T o L s) (hb : has s b = true) (hm : ∀ k, has s k = true → T.getD k 0 ≤ T.getD b 0) : CW r T o (L ++ [b]) (row r b) := by
  have hbr : b < r.length := by
    rcases h.now with ⟨_, hs⟩ | ⟨_, hs⟩
    · have hb64 := has_lt hb
      rw [hs, has_below _ _ hb64] at hb; simpa using hb
    · rw [hs] at hb; exact hv.2 _ _ hb
  have hlen : (L ++ [b]).length = L.length + 1 := by simp
  refine ⟨fun i hi => ?_, fun i hi => ?_, fun i hi k hk => ?_, fun _ k hk => ?_, .inr ⟨by omega, ?_⟩, .inr ?_⟩
  · rw [hlen] at hi
    rw [snoc_getD]
    split
    · exact h.lt i (by assumption)
    · rw [if_pos (by omega)]; exact hbr
  · rw [hlen] at hi
    rw [snoc_getD, snoc_getD, if_pos (by omega)]
    split
    · exact h.edge i (by assumption)
    · rw [if_pos (by omega)]
      rcases h.now with ⟨h1, _⟩ | ⟨_, hs⟩
      · omega
      · rw [hs, show L.length - 1 = i from by omega] at hb; exact hb
  · rw [hlen] at hi
    rw [snoc_getD, if_pos (by omega)] at hk
    rw [snoc_getD]
    split
    · exact h.best i (by assumption) k hk
    · rw [if_pos (by omega)]
      rcases h.now with ⟨h1, _⟩ | ⟨_, hs⟩
      · omega
      · refine hm k ?_
        rw [hs, show L.length - 1 = i from by omega]; exact hk
  · rw [snoc_getD]
    split
    · exact h.first (by assumption) k hk
    · rw [if_pos (by omega)]
      rcases h.now with ⟨_, hs⟩ | ⟨h1, _⟩
      · refine hm k ?_
        rw [hs, has_below _ _ (by have := hv.1; omega)]; simpa using hk
      · omega
  · rw [hlen, snoc_getD, if_neg (by omega), if_pos (by omega)]
  · rw [hlen, snoc_getD, if_neg (by omega), if_pos (by omega)]
    have hbo : o.idxOf b < o.length := List.idxOf_lt_length_of_mem (mem_order hO hbr)
    rcases h.pos with h1 | h1
    · omega
    · rcases h.now with ⟨h2, _⟩ | ⟨_, hs⟩
      · omega
      · rw [hs] at hb
        have := idx_need hO hb
        omega
theorem cw_len {r : List B} {T o L : List Nat} {s : B} (hv : Valid r) (hO : KOrd r o 0#64) (h : CW r T o L s) : L.length ≤ 64 := by
  have := kord_len hv hO
  rcases h.pos with h1 | h1 <;> omega
/-- what the way answers -/
structure CWay (r : List B) (D T : List Nat) (W : List Nat) : Prop where
  lt : ∀ i, i < W.length → W.getD i 0 < r.length
  edge : ∀ i, 0 < i → i < W.length → has (row r (W.getD i 0)) (W.getD (i - 1) 0) = true
  sum0 : 0 < W.length → T.getD (W.getD 0 0) 0 = D.getD (W.getD 0 0) 0
  sum : ∀ i, 0 < i → i < W.length → T.getD (W.getD i 0) 0 = plus (T.getD (W.getD (i - 1) 0) 0) (D.getD (W.getD i 0) 0)
  top : 0 < W.length → ∀ k, k < r.length → T.getD k 0 ≤ T.getD (W.getD (W.length - 1) 0) 0
  empty : W.length = 0 ↔ r.length = 0
theorem rev_getD (L : List Nat) (i : Nat) (h : i < L.length) : L.reverse.getD i 0 = L.getD (L.length - 1 - i) 0 := by
  rw [List.getD_eq_getElem?_getD, List.getD_eq_getElem?_getD, List.getElem?_reverse h]
theorem cw_done {r : List B} {D T o L : List Nat} (hS : Sol r D T) (hD : ∀ n, D.getD n 0 ≤ INF) (h : CW r T o L 0#64) : CWay r D T L.reverse := by
  have hl : L.reverse.length = L.length := List.length_reverse
  refine ⟨fun i hi => ?_, fun i h0 hi => ?_, fun h0 => ?_, fun i h0 hi => ?_, fun h0 k hk => ?_, ?_⟩
  · rw [hl] at hi; rw [rev_getD _ _ hi]; exact h.lt _ (by omega)
  · rw [hl] at hi
    rw [rev_getD _ _ hi, rev_getD _ _ (by omega)]
    have := h.edge (L.length - 1 - i) (by omega)
    rwa [show L.length - 1 - i + 1 = L.length - 1 - (i - 1) from by omega] at this
  · rw [hl] at h0
    rw [rev_getD _ _ h0, Nat.sub_zero]
    have hlt := h.lt (L.length - 1) (by omega)
    rw [hS.eq _ hlt]
    rcases h.now with ⟨h1, _⟩ | ⟨_, hs⟩
    · omega
    · rw [← hs, lst_zero, mxk_nil, zero_plus (hD _)]
  · rw [hl] at hi
    rw [rev_getD _ _ hi, rev_getD _ _ (by omega)]
    have hlt := h.lt (L.length - 1 - i) (by omega)
    rw [hS.eq _ hlt]
    congr 1
    have he := h.edge (L.length - 1 - i) (by omega)
    have hb := h.best (L.length - 1 - i) (by omega)
    rw [show L.length - 1 - i + 1 = L.length - 1 - (i - 1) from by omega] at he hb
    exact Nat.le_antisymm (mxk_le fun k hk => hb k (mem_lst.1 hk)) (mxk_ge (mem_lst.2 he))
  · rw [hl] at h0 ⊢
    rw [rev_getD _ _ (by omega), show L.length - 1 - (L.length - 1) = 0 from by omega]
    exact h.first h0 k hk
  · rw [hl]
    rcases h.now with ⟨h1, hs⟩ | ⟨h1, hs⟩
    · refine ⟨fun _ => ?_, fun _ => h1⟩
      rcases Nat.eq_zero_or_pos r.length with h2 | h2
      · exact h2
      · have := eq_zero_iff.1 hs.symm 0
        rw [has_below _ _ (by omega), decide_eq_false_iff_not] at this
        omega
    · refine ⟨fun h2 => by omega, fun h2 => ?_⟩
      have := h.lt 0 h1
      omega
end Go.Proofs.YtlhomgbibhacoaaDoor
