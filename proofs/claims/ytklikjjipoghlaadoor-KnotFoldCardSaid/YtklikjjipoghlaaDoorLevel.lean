/- Levels: each one stands one higher than the highest of those that it needs. Conditions: none. -/
import Derived.Test.YtklikjjipoghlaaDoorKahn
namespace Go.Proofs.YtklikjjipoghlaaDoor
/-- one more than the highest level of a list of numbers, 0 of none -/
def topOf (L : List Nat) (xs : List Nat) : Nat := xs.foldl (fun m k => max m (L.getD k 0 + 1)) 0
theorem topOf_take (L xs : List Nat) {j : Nat} (h : j < xs.length) : topOf L (xs.take (j + 1)) = max (topOf L (xs.take j)) (L.getD (xs.getD j 0) 0 + 1) := by
  unfold topOf
  rw [List.take_succ_eq_append_getElem h, List.foldl_append]
  simp [h]
theorem topOf_congr {L L' : List Nat} {xs : List Nat} (h : ∀ k ∈ xs, L.getD k 0 = L'.getD k 0) : topOf L xs = topOf L' xs := by
  have key : ∀ a : Nat, xs.foldl (fun m k => max m (L.getD k 0 + 1)) a = xs.foldl (fun m k => max m (L'.getD k 0 + 1)) a := by
    induction xs with
    | nil => intro a; rfl
    | cons x xs ih =>
      intro a
      rw [List.foldl_cons, List.foldl_cons, h x List.mem_cons_self]
      exact ih (fun k hk => h k (List.mem_cons_of_mem _ hk)) _
  exact key 0
theorem foldl_ge (L : List Nat) (xs : List Nat) (a : Nat) : a ≤ xs.foldl (fun m k => max m (L.getD k 0 + 1)) a := by
  induction xs generalizing a with
  | nil => exact Nat.le_refl _
  | cons x xs ih => rw [List.foldl_cons]; exact Nat.le_trans (Nat.le_max_left _ _) (ih _)
theorem topOf_gt {L xs : List Nat} {k : Nat} (h : k ∈ xs) : L.getD k 0 < topOf L xs := by
  have key : ∀ a : Nat, L.getD k 0 < xs.foldl (fun m k => max m (L.getD k 0 + 1)) a := by
    induction xs with
    | nil => cases h
    | cons x xs ih =>
      intro a
      rw [List.foldl_cons]
      rcases List.mem_cons.1 h with rfl | h
      · exact Nat.lt_of_lt_of_le (by omega) (foldl_ge L xs _)
      · exact ih h _
  exact key 0
theorem getD_at {l : List Nat} {j : Nat} (h : j < l.length) : l.getD j 0 = l[j] := by
  rw [List.getD_eq_getElem?_getD, List.getElem?_eq_getElem h]; rfl
theorem getD_mem {l : List Nat} {j : Nat} (h : j < l.length) : l.getD j 0 ∈ l := by
  rw [getD_at h]; exact List.getElem_mem h
theorem topOf_le {L xs : List Nat} {b : Nat} (h : ∀ k, L.getD k 0 ≤ b) : topOf L xs ≤ b + 1 := by
  unfold topOf
  have : ∀ a, a ≤ b + 1 → xs.foldl (fun m k => max m (L.getD k 0 + 1)) a ≤ b + 1 := by
    intro a
    induction xs generalizing a with
    | nil => intro h; exact h
    | cons x xs ih =>
      intro ha
      rw [List.foldl_cons]
      exact ih _ (by have := h x; omega)
  exact this 0 (by omega)
/-- the levels of those that the order has come to -/
structure LevInv (r : List B) (o L : List Nat) (i : Nat) : Prop where
  len : L.length = r.length
  done : ∀ n ∈ o.take i, L.getD n 0 = topOf L (lst (row r n))
  rest : ∀ n, n ∉ o.take i → L.getD n 0 = 0
  le : ∀ n, L.getD n 0 ≤ i
theorem lev_start (r : List B) (o : List Nat) : LevInv r o (List.replicate r.length 0) 0 := by
  have h : ∀ n, (List.replicate r.length 0).getD n 0 = 0 := by
    intro n
    rw [List.getD_eq_getElem?_getD, List.getElem?_replicate]
    split <;> rfl
  exact ⟨by simp, fun n hn => by simp at hn, fun n _ => h n, fun n => by rw [h]; exact Nat.le_refl _⟩
theorem getD_set (L : List Nat) (n x m : Nat) (hn : n < L.length) : (L.set n x).getD m 0 = if n = m then x else L.getD m 0 := by
  rw [List.getD_eq_getElem?_getD, List.getElem?_set]
  by_cases h : n = m
  · subst h; simp [hn]
  · simp [h]
theorem kord_fresh {r : List B} {o : List Nat} {left : B} (h : KOrd r o left) {i : Nat} (hi : i < o.length) : o.getD i 0 ∉ o.take i := by
  have e : o.getD i 0 = o[i] := by simp [hi]
  rw [e]
  intro hm
  obtain ⟨j, hj, he⟩ := List.mem_iff_getElem.1 hm
  rw [List.length_take] at hj
  rw [List.getElem_take] at he
  exact List.pairwise_iff_getElem.1 (List.nodup_iff_pairwise_ne.1 h.nodup) j i (by omega) hi (by omega) he
theorem kord_needs {r : List B} {o : List Nat} {left : B} (h : KOrd r o left) {i k : Nat} (hi : i < o.length) (hk : has (row r (o.getD i 0)) k = true) : k ∈ o.take i := by
  have e : o.getD i 0 = o[i] := by simp [hi]
  rw [e] at hk
  exact h.needs i hi k hk
/-- one row's numbers, the first j of them -/
theorem lev_in {r : List B} (hv : Valid r) {o L : List Nat} {left : B} {i j : Nat} (h : KOrd r o left) (hi : i < o.length) (hL : LevInv r o L i) (hj : j < (lst (row r (o.getD i 0))).length) :
    let n := o.getD i 0
    let k := (lst (row r n)).getD j 0
    let c := L.set n (topOf L ((lst (row r n)).take j))
    k < r.length ∧ c.getD k 0 ≤ 64 ∧ c.getD n 0 ≤ 65 ∧ c.set n (max (c.getD n 0) (c.getD k 0 + 1)) = L.set n (topOf L ((lst (row r n)).take (j + 1))) := by
  intro n k c
  have hnl : n < r.length := h.lt n (getD_mem hi)
  have hn : n < L.length := by rw [hL.len]; exact hnl
  have hkm : k ∈ lst (row r n) := getD_mem hj
  have hko := kord_needs h hi (mem_lst.1 hkm)
  have hkl : k < r.length := h.lt k (List.mem_of_mem_take hko)
  have hne : n ≠ k := fun e => kord_fresh h hi (by show n ∈ _; rw [e]; exact hko)
  have hck : c.getD k 0 = L.getD k 0 := by show (L.set n _).getD k 0 = _; rw [getD_set _ _ _ _ hn, if_neg hne]
  have hcn : c.getD n 0 = topOf L ((lst (row r n)).take j) := by show (L.set n _).getD n 0 = _; rw [getD_set _ _ _ _ hn, if_pos rfl]
  have hi64 : i ≤ 64 := by have := kord_len hv h; omega
  refine ⟨hkl, by rw [hck]; have := hL.le k; omega, by rw [hcn]; have := topOf_le (xs := (lst (row r n)).take j) hL.le; omega, ?_⟩
  rw [hck, hcn, topOf_take _ _ hj]
  show (L.set n _).set n _ = _
  rw [List.set_set]
theorem lev_in' {r : List B} (hv : Valid r) {o L cu : List Nat} {left x : B} {i j n q : Nat} (h : KOrd r o left) (hi : i < o.length) (hL : LevInv r o L i) (hn : n = o.getD i 0) (hx : x = row r n) (hq : q = (lst x).getD j 0) (hc : cu = L.set n (topOf L ((lst x).take j))) (hj : j < (lst x).length) :
    q < r.length ∧ cu.getD q 0 ≤ 64 ∧ cu.getD n 0 ≤ 65 ∧ cu.set n (max (cu.getD n 0) (cu.getD q 0 + 1)) = L.set n (topOf L ((lst x).take (j + 1))) := by
  subst hn hx hq hc
  exact lev_in hv h hi hL hj
theorem lev_zero {r : List B} {o L : List Nat} {left : B} {i : Nat} (h : KOrd r o left) (hi : i < o.length) (hL : LevInv r o L i) :
    L.set (o.getD i 0) (topOf L ((lst (row r (o.getD i 0))).take 0)) = L := by
  have h0 := hL.rest _ (kord_fresh h hi)
  apply List.ext_getElem (by simp)
  intro m h1 h2
  rw [List.getElem_set]
  split
  · rename_i e
    subst e
    have : L.getD (o.getD i 0) 0 = L[o.getD i 0] := getD_at h2
    rw [← this, h0]; rfl
  · rfl
theorem lev_next {r : List B} {o L : List Nat} {left : B} {i : Nat} (h : KOrd r o left) (hi : i < o.length) (hL : LevInv r o L i) :
    LevInv r o (L.set (o.getD i 0) (topOf L (lst (row r (o.getD i 0))))) (i + 1) := by
  have hnl : o.getD i 0 < r.length := h.lt _ (getD_mem hi)
  have hn : o.getD i 0 < L.length := by rw [hL.len]; exact hnl
  have hf := kord_fresh h hi
  have htk : o.take (i + 1) = o.take i ++ [o.getD i 0] := by rw [List.take_succ_eq_append_getElem hi]; simp [hi]
  have hsame : ∀ m ∈ o.take i, (L.set (o.getD i 0) (topOf L (lst (row r (o.getD i 0))))).getD m 0 = L.getD m 0 := by
    intro m hm
    rw [getD_set _ _ _ _ hn, if_neg]
    intro e; rw [e] at hf; exact hf hm
  have hneed : ∀ m ∈ o.take i, ∀ k, has (row r m) k = true → k ∈ o.take i := by
    intro m hm k hk
    obtain ⟨j, hj, he⟩ := List.mem_iff_getElem.1 hm
    rw [List.length_take] at hj
    rw [List.getElem_take] at he
    have := h.needs j (by omega) k (by rw [he]; exact hk)
    exact List.take_subset_take_left o (by omega) this
  refine ⟨by rw [List.length_set]; exact hL.len, fun m hm => ?_, fun m hm => ?_, fun m => ?_⟩
  · rw [htk, List.mem_append] at hm
    rcases hm with hm | hm
    · rw [hsame m hm, hL.done m hm]
      exact topOf_congr fun k hk => (hsame k (hneed m hm k (mem_lst.1 hk))).symm
    · have : m = o.getD i 0 := by simpa using hm
      subst this
      rw [getD_set _ _ _ _ hn, if_pos rfl]
      exact topOf_congr fun k hk => (hsame k (kord_needs h hi (mem_lst.1 hk))).symm
  · rw [htk, List.mem_append, not_or] at hm
    rw [getD_set _ _ _ _ hn, if_neg]
    · exact hL.rest m hm.1
    · intro e; exact hm.2 (List.mem_singleton.2 e.symm)
  · rw [getD_set _ _ _ _ hn]
    split
    · exact topOf_le hL.le
    · have := hL.le m; omega
/-- each one stands one higher than the highest of those that it needs -/
def Levels (r : List B) (L : List Nat) : Prop := L.length = r.length ∧ (∀ n, n < r.length → L.getD n 0 = topOf L (lst (row r n))) ∧ ∀ n, L.getD n 0 ≤ 64
theorem lev_done {r : List B} (hv : Valid r) {o L : List Nat} (h : KOrd r o 0#64) (hL : LevInv r o L o.length) : Levels r L := by
  refine ⟨hL.len, fun n hn => hL.done n ?_, fun n => Nat.le_trans (hL.le n) (kord_len hv h)⟩
  rw [List.take_length]
  by_cases hc : n ∈ o
  · exact hc
  · have := (h.left_iff n).2 ⟨hn, hc⟩
    rw [has_zero] at this; cases this
theorem lev_edge {r : List B} {L : List Nat} (h : Levels r L) {a b : Nat} (hb : has (row r a) b = true) : L.getD b 0 < L.getD a 0 := by
  rw [h.2.1 a (row_lt hb)]
  exact topOf_gt (mem_lst.2 hb)
theorem lev_rch {r : List B} {L : List Nat} (h : Levels r L) {a b : Nat} (hr : Rch r a b) : L.getD b 0 ≤ L.getD a 0 := by
  induction hr with
  | refl => exact Nat.le_refl _
  | tail _ e ih => have := lev_edge h e; omega
/-- rows of all that each one comes to -/
def clr (r : List B) : List B := r.map (cls r)
theorem clr_len (r : List B) : (clr r).length = r.length := by simp [clr]
theorem row_clr {r : List B} {a : Nat} (h : a < r.length) : row (clr r) a = cls r (row r a) := by unfold row clr; simp [h]
theorem has_clr {r : List B} {a b : Nat} (h : a < r.length) : has (row (clr r) a) b = true ↔ ∃ x, has (row r a) x = true ∧ Rch r x b := by
  rw [row_clr h, has_cls]
theorem lev_clr {r : List B} {L : List Nat} (h : Levels r L) {a b : Nat} (ha : a < r.length) (hb : has (row (clr r) a) b = true) : L.getD b 0 < L.getD a 0 := by
  obtain ⟨x, hx, hr⟩ := (has_clr ha).1 hb
  have := lev_edge h hx
  have := lev_rch h hr
  omega
end Go.Proofs.YtklikjjipoghlaaDoor
