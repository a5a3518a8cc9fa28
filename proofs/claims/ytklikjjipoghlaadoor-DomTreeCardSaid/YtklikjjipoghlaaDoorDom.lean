/- Who is passed by all walks from a root: the greatest sets that are closed under the rows the other way. Conditions: none. -/
import Derived.Test.YtklikjjipoghlaaDoorRch
namespace Go.Proofs.YtklikjjipoghlaaDoor
/-- from the root one comes to n by a walk that passes by a -/
inductive Av (r : List B) (root a : Nat) : Nat → Prop
  | root (h : root ≠ a) : Av r root a root
  | step {p n : Nat} (h : Av r root a p) (e : has (row r p) n = true) (hn : n ≠ a) : Av r root a n
theorem Av.rch {r : List B} {root a n : Nat} (h : Av r root a n) : Rch r root n := by
  induction h with
  | root => exact .refl _
  | step _ e _ ih => exact .tail ih e
theorem Av.ne {r : List B} {root a n : Nat} (h : Av r root a n) : n ≠ a := by
  cases h with
  | root h => exact h
  | step _ _ hn => exact hn
/-- the rows of those that rule: of those that are come to, all others zero -/
def preds (r : List B) (come : B) (n : Nat) : B := row (bk r) n &&& come
/-- what the next row of n is to be -/
def nxt (r : List B) (come : B) (D : List B) (n : Nat) : B := ((lst (preds r come n)).foldl (fun s p => s &&& row D p) come) ||| 1#64 <<< n
theorem has_foldl_and (D : List B) (xs : List Nat) (a : B) (k : Nat) : has (xs.foldl (fun s p => s &&& row D p) a) k = true ↔ has a k = true ∧ ∀ p ∈ xs, has (row D p) k = true := by
  induction xs generalizing a with
  | nil => simp
  | cons x xs ih =>
    rw [List.foldl_cons, ih, has_and, Bool.and_eq_true]
    simp only [List.mem_cons, forall_eq_or_imp]
    exact ⟨fun ⟨⟨h1, h2⟩, h3⟩ => ⟨h1, h2, h3⟩, fun ⟨h1, h2, h3⟩ => ⟨⟨h1, h2⟩, h3⟩⟩
theorem has_nxt {r : List B} (hv : Valid r) {come : B} {D : List B} {n : Nat} (hn : n < 64) {k : Nat} :
    has (nxt r come D n) k = true ↔ (has come k = true ∧ ∀ p, has (row r p) n = true → has come p = true → has (row D p) k = true) ∨ k = n := by
  unfold nxt
  rw [has_or, Bool.or_eq_true, has_foldl_and]
  have h1 : has (1#64 <<< n) k = true ↔ k = n := by
    rcases Nat.lt_or_ge k 64 with h | h
    · rw [has_one n k h]; simp
    · rw [has_ge h]; simp; omega
  rw [h1]
  have h2 : (∀ p ∈ lst (preds r come n), has (row D p) k = true) ↔ ∀ p, has (row r p) n = true → has come p = true → has (row D p) k = true := by
    constructor
    · intro h p hp hc
      exact h p (mem_lst.2 (by unfold preds; rw [has_and, (edge_bk hv).2 hp, hc]; rfl))
    · intro h p hp
      have := mem_lst.1 hp
      unfold preds at this
      rw [has_and, Bool.and_eq_true] at this
      exact h p ((edge_bk hv).1 this.1) this.2
  rw [h2]
/-- the state of the search for the sets of those that rule -/
structure DomInv (r : List B) (root : Nat) (D : List B) : Prop where
  len : D.length = r.length
  root_ : row D root = 1#64 <<< root
  out : ∀ n, has (cls r (1#64 <<< root)) n = false → row D n = 0#64
  keep : ∀ n a, has (cls r (1#64 <<< root)) n = true → ¬ Av r root a n → has (row D n) a = true
  shrink : ∀ n k, has (cls r (1#64 <<< root)) n = true → n ≠ root → has (nxt r (cls r (1#64 <<< root)) D n) k = true → has (row D n) k = true
  inside : ∀ n k, has (row D n) k = true → has (cls r (1#64 <<< root)) k = true
theorem has_one' {x n : Nat} (hx : x < 64) : has (1#64 <<< x) n = true ↔ n = x := by
  rcases Nat.lt_or_ge n 64 with h | h
  · rw [has_one x n h]; simp
  · rw [has_ge h]; simp; omega
/-- the first rows -/
def dom0 (r : List B) (root : Nat) : List B := ((List.range r.length).map fun n => if has (cls r (1#64 <<< root)) n = true then cls r (1#64 <<< root) else 0#64).set root (1#64 <<< root)
theorem row_set (D : List B) (n m : Nat) (x : B) (hn : n < D.length) : row (D.set n x) m = if n = m then x else row D m := by
  unfold row
  rw [List.getD_eq_getElem?_getD, List.getElem?_set]
  by_cases h : n = m
  · subst h; simp [hn]
  · simp [h]
theorem row_dom0 {r : List B} {root n : Nat} (hr : root < r.length) (hv : Valid r) : row (dom0 r root) n = if n = root then 1#64 <<< root else if has (cls r (1#64 <<< root)) n = true then cls r (1#64 <<< root) else 0#64 := by
  unfold dom0
  rw [row_set _ _ _ _ (by simpa using hr)]
  by_cases h : root = n
  · simp [h]
  · rw [if_neg h, if_neg (fun e => h e.symm)]
    unfold row
    rcases Nat.lt_or_ge n r.length with h1 | h1
    · simp [h1]
    · rw [List.getD_eq_getElem?_getD, List.getElem?_eq_none (by simpa using h1)]
      have : has (cls r (1#64 <<< root)) n = false := by
        by_cases hc : has (cls r (1#64 <<< root)) n = true
        · have := ball_in hv (s := 1#64 <<< root) (fun k hk => by rw [has_one' (by have := hv.1; omega)] at hk; omega) 64 n hc
          omega
        · simpa using hc
      simp [this]
theorem come_root {r : List B} {root : Nat} (h : root < 64) : has (cls r (1#64 <<< root)) root = true := cls_self ((has_one' h).2 rfl)
theorem come_of_not_av {r : List B} {root a n : Nat} (hr : root < 64) (hn : has (cls r (1#64 <<< root)) n = true) (ha : ¬ Av r root a n) : has (cls r (1#64 <<< root)) a = true := by
  by_cases hc : has (cls r (1#64 <<< root)) a = true
  · exact hc
  · exfalso
    apply ha
    have hrch := (has_cls_one hr).1 hn
    have hno : ∀ m, Rch r root m → m ≠ a := fun m hm e => hc (by rw [← e]; exact (has_cls_one hr).2 hm)
    clear ha hn
    induction hrch with
    | refl => exact .root (hno _ (.refl _))
    | tail h e ih => exact .step ih e (hno _ (.tail h e))
theorem dom_start {r : List B} (hv : Valid r) {root : Nat} (hr : root < r.length) : DomInv r root (dom0 r root) := by
  have h64 : root < 64 := by have := hv.1; omega
  refine ⟨by simp [dom0], by rw [row_dom0 hr hv]; simp, fun n hn => ?_, fun n a hn ha => ?_, fun n k hn hne hk => ?_, fun n k hk => ?_⟩
  · rw [row_dom0 hr hv]
    have hne : n ≠ root := fun e => by rw [e, come_root h64] at hn; cases hn
    simp [hne, hn]
  · rw [row_dom0 hr hv]
    by_cases h : n = root
    · rw [if_pos h, has_one' h64]
      subst h
      by_cases hc : n = a
      · exact hc.symm
      · exact absurd (.root hc) ha
    · rw [if_neg h, if_pos hn]
      exact come_of_not_av h64 hn ha
  · rw [row_dom0 hr hv, if_neg hne, if_pos hn]
    rcases (has_nxt hv (has_lt hn)).1 hk with h | h
    · exact h.1
    · rw [h]; exact hn
  · rw [row_dom0 hr hv] at hk
    split at hk
    · rw [has_one' h64] at hk; rw [hk]; exact come_root h64
    · split at hk
      · exact hk
      · rw [has_zero] at hk; cases hk
theorem nxt_mono {r : List B} (hv : Valid r) {come : B} {D D' : List B} (h : ∀ n k, has (row D' n) k = true → has (row D n) k = true) {n : Nat} (hn : n < 64) {k : Nat} (hk : has (nxt r come D' n) k = true) : has (nxt r come D n) k = true := by
  rw [has_nxt hv hn] at hk ⊢
  rcases hk with ⟨h1, h2⟩ | h1
  · exact .inl ⟨h1, fun p hp hc => h p k (h2 p hp hc)⟩
  · exact .inr h1
theorem dom_next {r : List B} (hv : Valid r) {root : Nat} (hr : root < r.length) {D : List B} (h : DomInv r root D) {n : Nat} (hn : has (cls r (1#64 <<< root)) n = true) (hne : n ≠ root) :
    DomInv r root (D.set n (nxt r (cls r (1#64 <<< root)) D n)) := by
  have h64 : root < 64 := by have := hv.1; omega
  have hnl : n < D.length := by
    rw [h.len]
    exact ball_in hv (s := 1#64 <<< root) (fun k hk => by rw [has_one' h64] at hk; omega) 64 n hn
  have hless : ∀ m k, has (row (D.set n (nxt r (cls r (1#64 <<< root)) D n)) m) k = true → has (row D m) k = true := by
    intro m k hk
    rw [row_set _ _ _ _ hnl] at hk
    split at hk
    · rename_i e; subst e; exact h.shrink _ _ hn hne hk
    · exact hk
  refine ⟨by rw [List.length_set]; exact h.len, ?_, fun m hm => ?_, fun m a hm ha => ?_, fun m k hm hmr hk => ?_, fun m k hk => h.inside m k (hless m k hk)⟩
  · rw [row_set _ _ _ _ hnl, if_neg hne]; exact h.root_
  · rw [row_set _ _ _ _ hnl, if_neg]
    · exact h.out m hm
    · intro e; rw [e, hm] at hn; cases hn
  · rw [row_set _ _ _ _ hnl]
    split
    · rename_i e
      subst e
      rw [has_nxt hv (has_lt hm)]
      by_cases hna : a = n
      · exact .inr hna
      · refine .inl ⟨come_of_not_av h64 hm ha, fun p hp hc => h.keep p a hc (fun hav => ha (.step hav hp (fun e => hna e.symm)))⟩
    · exact h.keep m a hm ha
  · have hk2 := nxt_mono hv hless (has_lt hm) hk
    rw [row_set _ _ _ _ hnl]
    split
    · rename_i e; subst e; exact hk2
    · exact h.shrink m k hm hmr hk2
/-- the sum of what the rows hold -/
def domSum (D : List B) : Nat := (D.map cnt).sum
theorem domSum_set {D : List B} {n : Nat} {x : B} (hn : n < D.length) : domSum (D.set n x) + cnt (row D n) = domSum D + cnt x := by
  unfold domSum
  induction D generalizing n with
  | nil => simp at hn
  | cons d D ih =>
    cases n with
    | zero => simp [row]; omega
    | succ n =>
      have := ih (n := n) (by simpa using hn)
      simp only [List.set_cons_succ, List.map_cons, List.sum_cons]
      have e : row (d :: D) (n + 1) = row D n := by unfold row; simp
      rw [e]; omega
theorem dom_less {r : List B} (hv : Valid r) {root : Nat} (hr : root < r.length) {D : List B} (h : DomInv r root D) {n : Nat} (hn : has (cls r (1#64 <<< root)) n = true) (hne : n ≠ root)
    (hx : nxt r (cls r (1#64 <<< root)) D n ≠ row D n) : domSum (D.set n (nxt r (cls r (1#64 <<< root)) D n)) < domSum D := by
  have h64 : root < 64 := by have := hv.1; omega
  have hnl : n < D.length := by
    rw [h.len]
    exact ball_in hv (s := 1#64 <<< root) (fun k hk => by rw [has_one' h64] at hk; omega) 64 n hn
  have hsub : ∀ k, has (nxt r (cls r (1#64 <<< root)) D n) k = true → has (row D n) k = true := fun k hk => h.shrink n k hn hne hk
  have hlt : cnt (nxt r (cls r (1#64 <<< root)) D n) < cnt (row D n) := by
    by_cases hc : ∀ k, has (row D n) k = true → has (nxt r (cls r (1#64 <<< root)) D n) k = true
    · exact absurd (eq_of_iff fun k => ⟨hsub k, hc k⟩) hx
    · simp only [Classical.not_forall] at hc
      obtain ⟨k, h1, h2⟩ := hc
      exact cnt_lt_of hsub h1 (by simpa using h2)
  have := domSum_set (x := nxt r (cls r (1#64 <<< root)) D n) hnl
  omega
/-- the rows are done: no row is to be changed -/
def DomDone (r : List B) (root : Nat) (D : List B) : Prop := DomInv r root D ∧ ∀ n, has (cls r (1#64 <<< root)) n = true → n ≠ root → nxt r (cls r (1#64 <<< root)) D n = row D n
theorem dom_av {r : List B} (hv : Valid r) {root : Nat} (hr : root < r.length) {D : List B} (h : DomDone r root D) {n a : Nat} (hav : Av r root a n) : has (row D n) a = false := by
  have h64 : root < 64 := by have := hv.1; omega
  induction hav with
  | root hne =>
    rw [h.1.root_]
    by_cases hc : has (1#64 <<< root) a = true
    · rw [has_one' h64] at hc; exact absurd hc.symm hne
    · simpa using hc
  | step hp e hna ih =>
    rename_i p n
    by_cases hnr : n = root
    · subst hnr
      rw [h.1.root_]
      by_cases hc : has (1#64 <<< n) a = true
      · rw [has_one' h64] at hc; exact absurd hc.symm hna
      · simpa using hc
    · have hcn : has (cls r (1#64 <<< root)) n = true := (has_cls_one h64).2 (.tail hp.rch e)
      have hcp : has (cls r (1#64 <<< root)) p = true := (has_cls_one h64).2 hp.rch
      rw [← h.2 n hcn hnr]
      by_cases hc : has (nxt r (cls r (1#64 <<< root)) D n) a = true
      · rcases (has_nxt hv (has_lt hcn)).1 hc with h1 | h1
        · have := h1.2 p e hcp
          rw [ih] at this; cases this
        · exact absurd h1.symm hna
      · simpa using hc
/-- who rules whom -/
theorem has_dom {r : List B} (hv : Valid r) {root : Nat} (hr : root < r.length) {D : List B} (h : DomDone r root D) {n a : Nat} : has (row D n) a = true ↔ Rch r root n ∧ ¬ Av r root a n := by
  have h64 : root < 64 := by have := hv.1; omega
  constructor
  · intro hk
    refine ⟨?_, fun hav => by rw [dom_av hv hr h hav] at hk; cases hk⟩
    by_cases hc : has (cls r (1#64 <<< root)) n = true
    · exact (has_cls_one h64).1 hc
    · rw [h.1.out n (by simpa using hc), has_zero] at hk; cases hk
  · rintro ⟨h1, h2⟩
    exact h.1.keep n a ((has_cls_one h64).2 h1) h2
theorem dom_uniq {r : List B} (hv : Valid r) {root : Nat} (hr : root < r.length) {D D' : List B} (h : DomDone r root D) (h' : DomDone r root D') (n : Nat) : row D n = row D' n :=
  eq_of_iff fun a => by rw [has_dom hv hr h, has_dom hv hr h']
theorem av_split {r : List B} {root a b c : Nat} (h : Av r root a c) : Av r root b c ∨ Av r root a b := by
  induction h with
  | root h =>
    by_cases hb : root = b
    · rw [← hb]; exact .inr (.root h)
    · exact .inl (.root hb)
  | step hp e hn ih =>
    rename_i p n
    rcases ih with ih | ih
    · by_cases hb : n = b
      · rw [← hb]; exact .inr (.step hp e hn)
      · exact .inl (.step ih e hb)
    · exact .inr ih
theorem av_one {r : List B} {root a b n : Nat} (hab : a ≠ b) (h : Rch r root n) : (Av r root a n ∧ Av r root b n) ∨ Av r root a b ∨ Av r root b a := by
  induction h with
  | refl =>
    by_cases ha : root = a
    · rw [← ha] at hab ⊢; exact .inr (.inr (.root hab))
    · by_cases hb : root = b
      · rw [← hb]; exact .inr (.inl (.root ha))
      · exact .inl ⟨.root ha, .root hb⟩
  | tail _ e ih =>
    rename_i n _
    rcases ih with ⟨h1, h2⟩ | ih
    · by_cases ha : n = a
      · subst ha; exact .inr (.inr (.step h2 e hab))
      · by_cases hb : n = b
        · subst hb; exact .inr (.inl (.step h1 e (fun e => hab e.symm)))
        · exact .inl ⟨.step h1 e ha, .step h2 e hb⟩
    · exact .inr ih
/-- to rule -/
def Rules (r : List B) (root a b : Nat) : Prop := Rch r root b ∧ ¬ Av r root a b
theorem rules_trans {r : List B} {root a b c : Nat} (h1 : Rules r root a b) (h2 : Rules r root b c) : Rules r root a c :=
  ⟨h2.1, fun h => by
    rcases av_split (b := b) h with h | h
    · exact h2.2 h
    · exact h1.2 h⟩
theorem rules_anti {r : List B} {root a b : Nat} (h1 : Rules r root a b) (h2 : Rules r root b a) : a = b := by
  by_cases hab : a = b
  · exact hab
  · rcases av_one hab h1.1 with ⟨_, h⟩ | h | h
    · exact absurd rfl h.ne
    · exact absurd h h1.2
    · exact absurd h h2.2
/-- the rows without one number -/
def without (r : List B) (a : Nat) : List B := (r.map fun x => x &&& ~~~(1#64 <<< a)).set a 0#64
theorem row_without {r : List B} {a i k : Nat} (ha : a < r.length) : has (row (without r a) i) k = true ↔ has (row r i) k = true ∧ i ≠ a ∧ k ≠ a := by
  unfold without
  rw [row_set _ _ _ _ (by simpa using ha)]
  by_cases hi : a = i
  · rw [if_pos hi, has_zero]; simp; intro _ h; exact absurd hi.symm h
  · rw [if_neg hi]
    have e : row (r.map fun x => x &&& ~~~(1#64 <<< a)) i = row r i &&& ~~~(1#64 <<< a) := by
      unfold row
      rcases Nat.lt_or_ge i r.length with h1 | h1
      · simp [h1]
      · rw [List.getD_eq_getElem?_getD, List.getD_eq_getElem?_getD, List.getElem?_eq_none (by simpa using h1), List.getElem?_eq_none h1]
        simp
    rw [e, has_and, Bool.and_eq_true]
    rcases Nat.lt_or_ge k 64 with h1 | h1
    · rw [has_not _ _ h1]
      have : (!has (1#64 <<< a) k) = true ↔ k ≠ a := by
        rw [has_one a k h1]; simp
      rw [this]
      exact ⟨fun ⟨h, h'⟩ => ⟨h, fun e => hi e.symm, h'⟩, fun ⟨h, _, h'⟩ => ⟨h, h'⟩⟩
    · rw [has_ge h1]; simp
theorem without_len (r : List B) (a : Nat) : (without r a).length = r.length := by simp [without]
theorem av_without {r : List B} {root a b : Nat} (ha : a < r.length) : Av r root a b ↔ Rch (without r a) root b ∧ a ≠ b ∧ a ≠ root := by
  constructor
  · intro h
    refine ⟨?_, fun e => h.ne e.symm, ?_⟩
    · induction h with
      | root h => exact .refl _
      | step hp e hn ih => exact .tail ih ((row_without ha).2 ⟨e, hp.ne, hn⟩)
    · intro e
      have : ∀ n, Av r root a n → False := by
        intro n h
        induction h with
        | root h => exact h e.symm
        | step _ _ _ ih => exact ih
      exact this b h
  · rintro ⟨h, hab, har⟩
    clear hab
    induction h with
    | refl => exact .root (fun e => har e.symm)
    | tail _ e ih =>
      have := (row_without ha).1 e
      exact .step ih this.1 this.2.2
end Go.Proofs.YtklikjjipoghlaaDoor
