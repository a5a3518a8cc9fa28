/- Completion times of an acyclic graph, plainly: they are determined, grow with the durations, and bound every walk's sum. Conditions: none. -/
import Derived.Test.YtlhomgbibhacoaaDoorKahn
import Derived.Test.YtlhomgbibhacoaaDoorFloat
namespace Go.Proofs.YtlhomgbibhacoaaDoor
def mxk (T : List Nat) (l : List Nat) : Nat := l.foldl (fun b k => max b (T.getD k 0)) 0
def TM (r : List B) (D T : List Nat) (n : Nat) : Prop := T.getD n 0 = plus (mxk T (lst (row r n))) (D.getD n 0)
structure Sol (r : List B) (D T : List Nat) : Prop where
  len : T.length = r.length
  eq : ∀ n, n < r.length → TM r D T n
  le : ∀ n, T.getD n 0 ≤ INF
structure Stage (r : List B) (D : List Nat) (o : List Nat) (j : Nat) (T : List Nat) : Prop where
  len : T.length = r.length
  eq : ∀ n, n ∈ o.take j → TM r D T n
  le : ∀ n, T.getD n 0 ≤ INF
theorem mxk_gen (T : List Nat) (l : List Nat) (s : Nat) : s ≤ l.foldl (fun b k => max b (T.getD k 0)) s ∧ (∀ k ∈ l, T.getD k 0 ≤ l.foldl (fun b k => max b (T.getD k 0)) s) ∧ (l.foldl (fun b k => max b (T.getD k 0)) s = s ∨ ∃ k ∈ l, l.foldl (fun b k => max b (T.getD k 0)) s = T.getD k 0) := by
  induction l generalizing s with
  | nil => exact ⟨Nat.le_refl _, (fun k hk => by cases hk), .inl rfl⟩
  | cons a l ih =>
    obtain ⟨h1, h2, h3⟩ := ih (max s (T.getD a 0))
    rw [List.foldl_cons]
    refine ⟨by omega, fun k hk => ?_, ?_⟩
    · rcases List.mem_cons.1 hk with rfl | hk
      · omega
      · exact h2 k hk
    · rcases h3 with h3 | ⟨k, hk, h3⟩
      · rcases Nat.le_total s (T.getD a 0) with h4 | h4
        · exact .inr ⟨a, List.mem_cons_self, by rw [h3]; omega⟩
        · exact .inl (by rw [h3]; omega)
      · exact .inr ⟨k, List.mem_cons_of_mem _ hk, h3⟩
theorem mxk_ge {T l : List Nat} {k : Nat} (h : k ∈ l) : T.getD k 0 ≤ mxk T l := (mxk_gen T l 0).2.1 k h
theorem mxk_le {T l : List Nat} {m : Nat} (h : ∀ k ∈ l, T.getD k 0 ≤ m) : mxk T l ≤ m := by
  rcases (mxk_gen T l 0).2.2 with h1 | ⟨k, hk, h1⟩
  · unfold mxk; rw [h1]; exact Nat.zero_le _
  · unfold mxk; rw [h1]; exact h k hk
theorem mxk_mono {T T' l : List Nat} (h : ∀ k ∈ l, T.getD k 0 ≤ T'.getD k 0) : mxk T l ≤ mxk T' l :=
  mxk_le fun k hk => Nat.le_trans (h k hk) (mxk_ge hk)
theorem mxk_congr {T T' l : List Nat} (h : ∀ k ∈ l, T.getD k 0 = T'.getD k 0) : mxk T l = mxk T' l :=
  Nat.le_antisymm (mxk_mono fun k hk => Nat.le_of_eq (h k hk)) (mxk_mono fun k hk => Nat.le_of_eq (h k hk).symm)
theorem mxk_inf {T l : List Nat} (h : ∀ n, T.getD n 0 ≤ INF) : mxk T l ≤ INF := mxk_le fun k _ => h k
theorem mxk_nil (T : List Nat) : mxk T [] = 0 := rfl
theorem mxk_snoc (T l : List Nat) (k : Nat) : mxk T (l ++ [k]) = max (mxk T l) (T.getD k 0) := by
  unfold mxk; rw [List.foldl_append, List.foldl_cons, List.foldl_nil]
theorem getD_set (T : List Nat) (n v m : Nat) (hn : n < T.length) : (T.set n v).getD m 0 = if m = n then v else T.getD m 0 := by
  rw [List.getD_eq_getElem?_getD, List.getD_eq_getElem?_getD, List.getElem?_set]
  by_cases h : n = m
  · subst h; simp [hn]
  · have h2 : ¬ m = n := fun e => h e.symm
    simp [h, h2]
theorem stage_zero (r : List B) (D o : List Nat) : Stage r D o 0 (List.replicate r.length 0) := by
  refine ⟨by simp, (fun n h => by simp at h), fun n => ?_⟩
  rw [List.getD_eq_getElem?_getD, List.getElem?_replicate]
  split <;> exact Nat.zero_le _
theorem stage_step {r : List B} {D o T : List Nat} {left : B} {j : Nat} (hO : KOrd r o left) (h : Stage r D o j T) (hj : j < o.length) :
    Stage r D o (j + 1) (T.set o[j] (plus (mxk T (lst (row r o[j]))) (D.getD o[j] 0))) := by
  have hn : o[j] < T.length := by rw [h.len]; exact hO.lt _ (List.getElem_mem hj)
  have hfresh : ∀ i, i ≤ j → ∀ k ∈ o.take i, k ≠ o[j] := by
    intro i hi k hk e
    obtain ⟨q, hq, hqe⟩ := List.mem_iff_getElem.1 hk
    have hq' : q < i := by rw [List.length_take] at hq; omega
    rw [List.getElem_take] at hqe
    have := (List.getElem_inj (xs := o) (h₀ := by omega) (h₁ := hj) hO.nodup).1 (hqe.trans e)
    omega
  generalize hv : plus (mxk T (lst (row r o[j]))) (D.getD o[j] 0) = v
  refine ⟨by rw [List.length_set]; exact h.len, fun n hm => ?_, fun n => ?_⟩
  · rw [List.take_succ_eq_append_getElem hj, List.mem_append] at hm
    unfold TM
    rcases hm with hm | hm
    · have hne : n ≠ o[j] := hfresh j (Nat.le_refl _) n hm
      rw [getD_set _ _ _ _ hn, if_neg hne]
      obtain ⟨i, hi, rfl⟩ := List.mem_iff_getElem.1 hm
      have hi' : i < j := by rw [List.length_take] at hi; omega
      have hc : mxk (T.set o[j] v) (lst (row r (o.take j)[i])) = mxk T (lst (row r (o.take j)[i])) := mxk_congr fun k hk => by
        rw [getD_set _ _ _ _ hn, if_neg]
        rw [List.getElem_take, mem_lst] at hk
        exact hfresh i (by omega) k (hO.needs i (by omega) k hk)
      rw [hc]; exact h.eq _ (List.getElem_mem hi)
    · have hne : n = o[j] := by simpa using hm
      subst hne
      rw [getD_set _ _ _ _ hn, if_pos rfl]
      have hc : mxk (T.set o[j] v) (lst (row r o[j])) = mxk T (lst (row r o[j])) := mxk_congr fun k hk => by
        rw [getD_set _ _ _ _ hn, if_neg]
        rw [mem_lst] at hk
        exact hfresh j (Nat.le_refl _) k (hO.needs j hj k hk)
      rw [hc, hv]
  · rw [getD_set _ _ _ _ hn]
    split
    · rw [← hv]; exact plus_le _ _
    · exact h.le n
theorem mem_order {r : List B} {o : List Nat} (hO : KOrd r o 0#64) {n : Nat} (hn : n < r.length) : n ∈ o := by
  by_cases hc : n ∈ o
  · exact hc
  · have := (hO.left_iff n).2 ⟨hn, hc⟩
    rw [has_zero] at this; cases this
theorem stage_sol {r : List B} {D o T : List Nat} (hO : KOrd r o 0#64) (h : Stage r D o o.length T) : Sol r D T :=
  ⟨h.len, fun n hn => h.eq n (by rw [List.take_length]; exact mem_order hO hn), h.le⟩
/-- by the order: what holds of a number wherever it holds of those that it needs -/
theorem order_ind {r : List B} {o : List Nat} (hO : KOrd r o 0#64) {P : Nat → Prop} (h : ∀ n, n < r.length → (∀ k, has (row r n) k = true → P k) → P n) : ∀ n, n < r.length → P n := by
  have key : ∀ i (hi : i < o.length), P o[i] := by
    intro i
    induction i using Nat.strongRecOn with
    | _ i ih =>
      intro hi
      refine h _ (hO.lt _ (List.getElem_mem hi)) fun k hk => ?_
      have hm := hO.needs i hi k hk
      obtain ⟨q, hq, hqe⟩ := List.mem_iff_getElem.1 hm
      have hq' : q < i := by rw [List.length_take] at hq; omega
      rw [List.getElem_take] at hqe
      rw [← hqe]; exact ih q hq' (by omega)
  intro n hn
  obtain ⟨i, hi, rfl⟩ := List.mem_iff_getElem.1 (mem_order hO hn)
  exact key i hi
theorem sol_mono {r : List B} {o D D' T T' : List Nat} (hO : KOrd r o 0#64) (h : Sol r D T) (h' : Sol r D' T') (hD : ∀ n, D.getD n 0 ≤ D'.getD n 0) (hI : ∀ n, D'.getD n 0 ≤ INF) : ∀ n, n < r.length → T.getD n 0 ≤ T'.getD n 0 :=
  order_ind hO fun n hn ih => by
    rw [h.eq n hn, h'.eq n hn]
    exact plus_mono (mxk_mono fun k hk => ih k (mem_lst.1 hk)) (hD n) (mxk_inf h'.le) (hI n)
theorem sol_zero {r : List B} {o D T : List Nat} (hO : KOrd r o 0#64) (h : Sol r D T) (hD : ∀ n, D.getD n 0 = 0) : ∀ n, n < r.length → T.getD n 0 = 0 :=
  order_ind hO fun n hn ih => by
    rw [h.eq n hn, hD]
    have : mxk T (lst (row r n)) = 0 := Nat.le_zero.1 (mxk_le fun k hk => Nat.le_of_eq (ih k (mem_lst.1 hk)))
    rw [this, plus_zero (Nat.zero_le _)]
theorem sol_own {r : List B} {D T : List Nat} (h : Sol r D T) {n : Nat} (hn : n < r.length) (hI : D.getD n 0 ≤ INF) : D.getD n 0 ≤ T.getD n 0 := by
  rw [h.eq n hn]; exact le_plus_right _ hI
theorem sol_need {r : List B} {D T : List Nat} (h : Sol r D T) {n k : Nat} (hk : has (row r n) k = true) : T.getD k 0 ≤ T.getD n 0 := by
  rw [h.eq n (row_lt hk)]
  exact Nat.le_trans (mxk_ge (mem_lst.2 hk)) (le_plus _ (mxk_inf h.le))
/-- the sum along a walk so far is no more than the time of the number that it has come to -/
theorem sol_walk {r : List B} {D T : List Nat} (h : Sol r D T) {n k s : Nat} (hk : has (row r n) k = true) (hI : D.getD n 0 ≤ INF) (hs : s ≤ T.getD k 0) : plus s (D.getD n 0) ≤ T.getD n 0 := by
  rw [h.eq n (row_lt hk)]
  exact plus_mono (Nat.le_trans hs (mxk_ge (mem_lst.2 hk))) (Nat.le_refl _) (mxk_inf h.le) hI
/-- rows and durations that are right -/
def GoodC (r : List B) (D : List Nat) : Prop := chkR r = 0 ∧ D.length = r.length ∧ (∀ x ∈ D, x ≤ INF) ∧ ∃ o, KOrd r o 0#64
theorem good_getD {D : List Nat} (h : ∀ x ∈ D, x ≤ INF) (n : Nat) : D.getD n 0 ≤ INF := by
  rw [List.getD_eq_getElem?_getD]
  rcases Nat.lt_or_ge n D.length with h1 | h1
  · rw [List.getElem?_eq_getElem h1]; exact h _ (List.getElem_mem h1)
  · rw [List.getElem?_eq_none h1]; exact Nat.zero_le _
theorem not_stuck {r : List B} {o o2 : List Nat} {left : B} (h : KOrd r o 0#64) (h2 : KOrd r o2 left) (hs : Stuck r left) : left = 0#64 :=
  (stuck_zero_iff h (fun n hn => by rw [has_zero] at hn; cases hn) h2 hs).1 rfl
attribute [irreducible] mxk
end Go.Proofs.YtlhomgbibhacoaaDoor
