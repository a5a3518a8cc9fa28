/- Those that rule one stand in a row, each ruled by those ahead of it. Conditions: none. -/
import Derived.Test.YtklikjjipoghlaaDoorDom
namespace Go.Proofs.YtklikjjipoghlaaDoor
theorem av_both {r : List B} {root a b n : Nat} (hab : a ≠ b) (h1 : Av r root a b) (h2 : Av r root b a) (h : Rch r root n) : Av r root a n ∨ Av r root b n := by
  induction h with
  | refl =>
    by_cases ha : root = a
    · refine .inr (.root ?_)
      rw [ha]; exact hab
    · exact .inl (.root ha)
  | tail _ e ih =>
    rename_i n _
    rcases ih with ih | ih
    · by_cases hn : n = a
      · subst hn; exact .inr h2
      · exact .inl (.step ih e hn)
    · by_cases hn : n = b
      · subst hn; exact .inl h1
      · exact .inr (.step ih e hn)
theorem rules_self {r : List B} {root n : Nat} (h : Rch r root n) : Rules r root n n := ⟨h, fun h => h.ne rfl⟩
theorem rules_root {r : List B} {root n : Nat} (h : Rch r root n) : Rules r root root n :=
  ⟨h, fun h => by
    have : ∀ m, Av r root root m → False := by
      intro m h
      induction h with
      | root h => exact h rfl
      | step _ _ _ ih => exact ih
    exact this _ h⟩
theorem rules_rch {r : List B} {root a n : Nat} (h : Rules r root a n) : Rch r root a := by
  rcases Classical.em (Rch r root a) with hc | hc
  · exact hc
  · exfalso
    apply h.2
    have hno : ∀ m, Rch r root m → m ≠ a := fun m hm e => hc (by rw [← e]; exact hm)
    have key : ∀ m, Rch r root m → Av r root a m := by
      intro m hm
      induction hm with
      | refl => exact .root (hno _ (.refl _))
      | tail h e ih => exact .step ih e (hno _ (.tail h e))
    exact key _ h.1
theorem rules_chain {r : List B} {root a b n : Nat} (h1 : Rules r root a n) (h2 : Rules r root b n) : Rules r root a b ∨ Rules r root b a := by
  by_cases hab : a = b
  · subst hab; exact .inl (rules_self (rules_rch h1))
  · rcases Classical.em (Av r root a b) with ha | ha
    · rcases Classical.em (Av r root b a) with hb | hb
      · rcases av_both hab ha hb h1.1 with h | h
        · exact absurd h h1.2
        · exact absurd h h2.2
      · exact .inr ⟨rules_rch h1, hb⟩
    · exact .inl ⟨rules_rch h2, ha⟩
section
variable {r D : List B} {root : Nat}
theorem cnt_rules (hv : Valid r) (hr : root < r.length) (h : DomDone r root D) {a b : Nat} (hab : Rules r root a b) (hne : a ≠ b) : cnt (row D a) < cnt (row D b) := by
  refine cnt_lt_of (x := b) (fun k hk => ?_) ?_ ?_
  · rw [has_dom hv hr h] at hk ⊢
    exact rules_trans hk hab
  · rw [has_dom hv hr h]; exact rules_self hab.1
  · by_cases hc : has (row D a) b = true
    · rw [has_dom hv hr h] at hc
      exact absurd (rules_anti hab hc) hne
    · simpa using hc
/-- those of a row, by how many rule them -/
structure SortD (D : List B) (n : Nat) (xs : List Nat) : Prop where
  perm : xs.Perm (lst (row D n))
  sorted : xs.Pairwise (fun a b => cnt (row D a) ≤ cnt (row D b))
theorem SortD.nodup {n : Nat} {xs : List Nat} (h : SortD D n xs) : xs.Nodup := by
  refine h.perm.nodup_iff.2 ?_
  exact (lst_sorted _).imp (fun hab e => by omega)
theorem SortD.mem {n : Nat} {xs : List Nat} (s : SortD D n xs) (hv : Valid r) (hr : root < r.length) (h : DomDone r root D) {y : Nat} : y ∈ xs ↔ Rules r root y n := by
  rw [s.perm.mem_iff, mem_lst, has_dom hv hr h]; rfl
theorem SortD.rules {n : Nat} {xs : List Nat} (s : SortD D n xs) (hv : Valid r) (hr : root < r.length) (h : DomDone r root D) {i j : Nat} (hij : i < j) (hj : j < xs.length) : Rules r root xs[i] xs[j] ∧ xs[i] ≠ xs[j] := by
  have hi : i < xs.length := by omega
  have hne : xs[i] ≠ xs[j] := List.pairwise_iff_getElem.1 (List.nodup_iff_pairwise_ne.1 s.nodup) i j hi hj hij
  have hle := List.pairwise_iff_getElem.1 s.sorted i j hi hj hij
  have h1 := (s.mem hv hr h).1 (List.getElem_mem hi)
  have h2 := (s.mem hv hr h).1 (List.getElem_mem hj)
  rcases rules_chain h1 h2 with h3 | h3
  · exact ⟨h3, hne⟩
  · have := cnt_rules hv hr h h3 (fun e => hne e.symm)
    omega
theorem SortD.take {n : Nat} {xs : List Nat} (s : SortD D n xs) (hv : Valid r) (hr : root < r.length) (h : DomDone r root D) {i : Nat} (hi : i < xs.length) : SortD D xs[i] (xs.take (i + 1)) := by
  refine ⟨?_, s.sorted.sublist (List.take_sublist _ _)⟩
  refine (List.perm_ext_iff_of_nodup (s.nodup.sublist (List.take_sublist _ _)) ((lst_sorted _).imp (fun hab e => by omega))).2 fun y => ?_
  rw [mem_lst, has_dom hv hr h]
  show _ ↔ Rules r root y xs[i]
  constructor
  · intro hy
    obtain ⟨j, hj, he⟩ := List.mem_iff_getElem.1 hy
    rw [List.length_take] at hj
    rw [List.getElem_take] at he
    rcases Nat.lt_or_ge j i with h1 | h1
    · rw [← he]; exact (s.rules hv hr h h1 hi).1
    · have : j = i := by omega
      subst this
      rw [← he]; exact rules_self (rules_rch ((s.mem hv hr h).1 (List.getElem_mem hi)))
  · intro hy
    have hyn : y ∈ xs := (s.mem hv hr h).2 (rules_trans hy ((s.mem hv hr h).1 (List.getElem_mem hi)))
    obtain ⟨j, hj, he⟩ := List.mem_iff_getElem.1 hyn
    rcases Nat.lt_or_ge i j with h1 | h1
    · obtain ⟨h2, h3⟩ := s.rules hv hr h h1 hj
      rw [he] at h2 h3
      exact absurd (rules_anti h2 hy) h3
    · rw [← he]
      exact List.mem_iff_getElem.2 ⟨j, by rw [List.length_take]; omega, by rw [List.getElem_take]⟩
theorem SortD.len {n : Nat} {xs : List Nat} (s : SortD D n xs) : xs.length = cnt (row D n) := by
  rw [cnt_lst]; exact s.perm.length_eq
theorem SortD.at_ {n : Nat} {xs : List Nat} (s : SortD D n xs) (hv : Valid r) (hr : root < r.length) (h : DomDone r root D) {i : Nat} (hi : i < xs.length) : cnt (row D xs[i]) = i + 1 := by
  have := (s.take hv hr h hi).len
  rw [List.length_take] at this
  omega
theorem SortD.uniq {n : Nat} {xs ys : List Nat} (s : SortD D n xs) (t : SortD D n ys) (hv : Valid r) (hr : root < r.length) (h : DomDone r root D) : xs = ys := by
  have hl : xs.length = ys.length := by rw [s.len, t.len]
  apply List.ext_getElem hl
  intro i h1 h2
  have hm : xs[i] ∈ ys := (t.mem hv hr h).2 ((s.mem hv hr h).1 (List.getElem_mem h1))
  obtain ⟨j, hj, he⟩ := List.mem_iff_getElem.1 hm
  have e1 := s.at_ hv hr h h1
  have e2 := t.at_ hv hr h hj
  rw [he, e1] at e2
  have : j = i := by omega
  subst this
  exact he.symm
theorem SortD.last {n : Nat} {xs : List Nat} (s : SortD D n xs) (hv : Valid r) (hr : root < r.length) (h : DomDone r root D) (hn : Rch r root n) : 0 < xs.length ∧ xs.getD (xs.length - 1) 0 = n := by
  have hm : n ∈ xs := (s.mem hv hr h).2 (rules_self hn)
  obtain ⟨j, hj, he⟩ := List.mem_iff_getElem.1 hm
  have e1 := s.at_ hv hr h hj
  rw [he, ← s.len] at e1
  refine ⟨by omega, ?_⟩
  have : xs.length - 1 = j := by omega
  rw [this, List.getD_eq_getElem?_getD, List.getElem?_eq_getElem hj]
  exact he
theorem SortD.first {n : Nat} {xs : List Nat} (s : SortD D n xs) (hv : Valid r) (hr : root < r.length) (h : DomDone r root D) (hn : Rch r root n) : xs.getD 0 0 = root := by
  have h64 : root < 64 := by have := hv.1; omega
  have hm : root ∈ xs := (s.mem hv hr h).2 (rules_root hn)
  obtain ⟨j, hj, he⟩ := List.mem_iff_getElem.1 hm
  have hj0 : j = 0 := by
    rcases Nat.eq_zero_or_pos j with h0 | h0
    · exact h0
    · obtain ⟨h1, h2⟩ := s.rules hv hr h h0 hj
      rw [he] at h1 h2
      exact absurd (rules_anti h1 (rules_root (rules_rch h1))) h2
  subst hj0
  rw [List.getD_eq_getElem?_getD, List.getElem?_eq_getElem hj]
  exact he
theorem SortD.none_ {n : Nat} {xs : List Nat} (s : SortD D n xs) (hv : Valid r) (hr : root < r.length) (h : DomDone r root D) (hn : ¬ Rch r root n) : xs = [] := by
  cases xs with
  | nil => rfl
  | cons x xs => exact absurd ((s.mem hv hr h).1 List.mem_cons_self).1 hn
end
/-- the one that rules it next, or -1 -/
def idomOf (xs : List Nat) : Int := if 1 < xs.length then (xs.getD (xs.length - 2) 0 : Int) else -1
/-- the answers of Doms -/
def DomsL (r D : List B) (ds : List Int) : Prop := ds.length = r.length ∧ ∀ n, n < r.length → ∃ xs, SortD D n xs ∧ ds.getD n 0 = idomOf xs
section
variable {r D : List B} {root : Nat} {ds : List Int}
theorem doms_root (hv : Valid r) (hr : root < r.length) (h : DomDone r root D) (hd : DomsL r D ds) : ds.getD root 0 = -1 := by
  obtain ⟨xs, s, e⟩ := hd.2 root hr
  rw [e]
  have h1 := s.first hv hr h (.refl root)
  obtain ⟨h2, h3⟩ := s.last hv hr h (.refl root)
  unfold idomOf
  rw [if_neg]
  intro hl
  have hne := List.pairwise_iff_getElem.1 (List.nodup_iff_pairwise_ne.1 s.nodup) 0 (xs.length - 1) (by omega) (by omega) (by omega)
  apply hne
  rw [List.getD_eq_getElem?_getD, List.getElem?_eq_getElem (by omega)] at h1 h3
  exact h1.trans h3.symm
theorem doms_none (hv : Valid r) (hr : root < r.length) (h : DomDone r root D) (hd : DomsL r D ds) {n : Nat} (hn : n < r.length) (hnr : ¬ Rch r root n) : ds.getD n 0 = -1 := by
  obtain ⟨xs, s, e⟩ := hd.2 n hn
  rw [e, s.none_ hv hr h hnr]; rfl
theorem doms_up (hv : Valid r) (hr : root < r.length) (h : DomDone r root D) (hd : DomsL r D ds) {n : Nat} {xs : List Nat} (s : SortD D n xs) {i : Nat} (hi : i < xs.length) :
    xs.getD i 0 < r.length ∧ ds.getD (xs.getD i 0) 0 = if 0 < i then (xs.getD (i - 1) 0 : Int) else -1 := by
  have hg : xs.getD i 0 = xs[i] := by rw [List.getD_eq_getElem?_getD, List.getElem?_eq_getElem hi]; rfl
  rw [hg]
  have hrl := (s.mem hv hr h).1 (List.getElem_mem hi)
  have hlt : xs[i] < r.length := by
    have h64 : root < 64 := by have := hv.1; omega
    have := (has_cls_one h64).2 (rules_rch hrl)
    exact ball_in hv (s := 1#64 <<< root) (fun k hk => by rw [has_one' h64] at hk; omega) 64 _ this
  refine ⟨hlt, ?_⟩
  obtain ⟨ys, t, e⟩ := hd.2 _ hlt
  have hu := t.uniq (s.take hv hr h hi) hv hr h
  rw [e, hu]
  unfold idomOf
  have hl : (xs.take (i + 1)).length = i + 1 := by rw [List.length_take]; omega
  rw [hl]
  by_cases h0 : 0 < i
  · rw [if_pos (by omega), if_pos h0]
    congr 1
    rw [List.getD_eq_getElem?_getD, List.getD_eq_getElem?_getD, List.getElem?_take_of_lt (by omega)]
    rfl
  · rw [if_neg (by omega), if_neg h0]
end
end Go.Proofs.YtklikjjipoghlaaDoor
