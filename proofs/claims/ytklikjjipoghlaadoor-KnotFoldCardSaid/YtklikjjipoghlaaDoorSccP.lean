/- The parts in their order, and all folded to one number a part: plainly. Conditions: none. -/
import Derived.Test.YtklikjjipoghlaaDoorScc
namespace Go.Proofs.YtklikjjipoghlaaDoor
/-- the parts, the one with the least number ahead -/
def PartsIn (r : List B) (P : List B) : Prop := Parts r P ∧ P.Pairwise fun a b => low a < low b
theorem tied_ne {r : List B} {s : B} (h : Tied r s) : s ≠ 0#64 := fun e => by
  obtain ⟨x, hx⟩ := h.1
  rw [e, has_zero] at hx; cases hx
theorem apart_no {a b : B} (h : a &&& b = 0#64) {x : Nat} (ha : has a x = true) (hb : has b x = true) : False := by
  have := eq_zero_iff.1 h x
  rw [has_and, ha, hb] at this; cases this
theorem low_ne {r : List B} {a b : B} (ha : Tied r a) (hb : Tied r b) (h : a &&& b = 0#64) : low a ≠ low b := fun e => by
  have h1 := has_low (tied_ne ha)
  have h2 := has_low (tied_ne hb)
  rw [← e] at h2
  exact apart_no h h1 h2
theorem and_comm0 {a b : B} (h : a &&& b = 0#64) : b &&& a = 0#64 := by rw [BitVec.and_comm]; exact h
/-- sorted they are the same parts -/
theorem parts_perm {r : List B} {P Q : List B} (h : Parts r P) (hp : P.Perm Q) (hs : Q.Pairwise fun a b => low a ≤ low b) : PartsIn r Q := by
  have ha : Q.Pairwise fun a b => a &&& b = 0#64 := (hp.pairwise_iff (fun h => and_comm0 h)).1 h.apart
  have ht : ∀ s ∈ Q, Tied r s := fun s hs => h.tied s (hp.mem_iff.2 hs)
  refine ⟨⟨ht, ha, fun x => ?_⟩, ?_⟩
  · rw [h.all]
    exact ⟨fun ⟨s, h1, h2⟩ => ⟨s, hp.mem_iff.1 h1, h2⟩, fun ⟨s, h1, h2⟩ => ⟨s, hp.mem_iff.2 h1, h2⟩⟩
  · refine (hs.and ha).imp_of_mem fun {a b} h1 h2 h3 => ?_
    have := low_ne (ht a h1) (ht b h2) h3.2
    omega
/-- all of some sets -/
def uni (l : List B) : B := l.foldl (fun a s => a ||| s) 0#64
theorem has_uni {l : List B} {x : Nat} : has (uni l) x = true ↔ ∃ s ∈ l, has s x = true := by
  have : ∀ (l : List B) (a : B), has (l.foldl (fun a s => a ||| s) a) x = true ↔ has a x = true ∨ ∃ s ∈ l, has s x = true := by
    intro l
    induction l with
    | nil => intro a; simp
    | cons s l ih =>
      intro a
      rw [List.foldl_cons, ih, has_or, Bool.or_eq_true]
      simp only [List.mem_cons, exists_eq_or_imp]
      exact or_assoc
  unfold uni
  rw [this, has_zero]; simp
theorem row_at' {l : List B} {i : Nat} (h : i < l.length) : row l i = l[i] := by
  unfold row
  simp [h]
theorem uni_take {l : List B} {j : Nat} (h : j < l.length) : uni (l.take (j + 1)) = uni (l.take j) ||| row l j := by
  rw [row_at' h, List.take_succ_eq_append_getElem h]
  unfold uni
  rw [List.foldl_append, List.foldl_cons, List.foldl_nil]
section
variable {r : List B} {P : List B}
theorem row_mem {l : List B} {i : Nat} (h : i < l.length) : row l i ∈ l := by
  unfold row
  rw [List.getD_eq_getElem?_getD, List.getElem?_eq_getElem h]
  exact List.getElem_mem h
theorem parts_row (h : Parts r P) {i : Nat} (hi : i < P.length) : Tied r (row P i) := h.tied _ (row_mem hi)
theorem parts_ne (h : Parts r P) {i : Nat} (hi : i < P.length) : row P i ≠ 0#64 := tied_ne (parts_row h hi)
theorem row_at {l : List B} {i : Nat} (h : i < l.length) : row l i = l[i] := by
  unfold row
  simp [h]
theorem parts_one (h : Parts r P) {i k x : Nat} (hi : i < P.length) (hk : k < P.length) (h1 : has (row P i) x = true) (h2 : has (row P k) x = true) : i = k := by
  have ha := List.pairwise_iff_getElem.1 h.apart
  rw [row_at hi] at h1
  rw [row_at hk] at h2
  rcases Nat.lt_trichotomy i k with h3 | h3 | h3
  · exact (apart_no (ha i k hi hk h3) h1 h2).elim
  · exact h3
  · exact (apart_no (ha k i hk hi h3) h2 h1).elim
theorem parts_apart (h : Parts r P) {j : Nat} (hj : j < P.length) : uni (P.take j) &&& row P j = 0#64 := by
  refine eq_zero_iff.2 fun x => ?_
  rw [has_and]
  cases h1 : has (uni (P.take j)) x with
  | false => rfl
  | true =>
    cases h2 : has (row P j) x with
    | false => rfl
    | true =>
      obtain ⟨s, hs, hx⟩ := has_uni.1 h1
      obtain ⟨q, hq, rfl⟩ := List.mem_iff_getElem.1 hs
      rw [List.getElem_take] at hx
      rw [List.length_take] at hq
      have hq' : q < P.length := by omega
      have := parts_one h hq' hj (by rw [row_at hq']; exact hx) h2
      omega
theorem parts_lows (h : PartsIn r P) {i j : Nat} (hij : i < j) (hj : j < P.length) : low (row P i) < low (row P j) := by
  rw [row_at (show i < P.length by omega), row_at hj]
  exact List.pairwise_iff_getElem.1 h.2 i j (by omega) hj hij
theorem parts_uni (hv : Valid r) (h : Parts r P) : uni P = belowB r.length := eq_of_iff fun x => by
  rw [has_uni, ← h.all]
  rcases Nat.lt_or_ge x 64 with h1 | h1
  · rw [has_below _ _ h1, decide_eq_true_iff]
  · rw [has_ge h1]
    constructor
    · intro h2; have := hv.1; omega
    · intro h2; cases h2
theorem parts_find (h : Parts r P) {a : Nat} (ha : a < r.length) : ∃ i, i < P.length ∧ has (row P i) a = true := by
  obtain ⟨s, hs, hx⟩ := (h.all a).1 ha
  obtain ⟨i, hi, rfl⟩ := List.mem_iff_getElem.1 hs
  exact ⟨i, hi, by rw [row_at hi]; exact hx⟩
theorem parts_lt (h : Parts r P) {i a : Nat} (hi : i < P.length) (ha : has (row P i) a = true) : a < r.length := (h.all a).2 ⟨_, row_mem hi, ha⟩
theorem parts_both (h : Parts r P) {a b : Nat} (ha : a < r.length) : (∃ s ∈ P, has s a = true ∧ has s b = true) ↔ Rch r a b ∧ Rch r b a := by
  constructor
  · rintro ⟨s, hs, h1, h2⟩
    exact ((h.tied s hs).2 a b h1).1 h2
  · intro hr
    obtain ⟨s, hs, hx⟩ := (h.all a).1 ha
    exact ⟨s, hs, hx, ((h.tied s hs).2 a b hx).2 hr⟩
theorem parts_len (h : Parts r P) : P.length ≤ r.length := by
  have hn : ((List.range P.length).map fun i => low (row P i)).Nodup := by
    unfold List.Nodup
    rw [List.pairwise_map]
    refine List.Pairwise.imp_of_mem (fun {a b} ha hb hab he => ?_) List.nodup_range
    rw [List.mem_range] at ha hb
    have h1 := has_low (parts_ne h ha)
    have h2 := has_low (parts_ne h hb)
    rw [← he] at h2
    exact hab (parts_one h ha hb h1 h2)
  have := hn.length_le_of_subset (l₂ := List.range r.length) fun x hx => by
    obtain ⟨i, hi, rfl⟩ := List.mem_map.1 hx
    rw [List.mem_range] at hi
    exact List.mem_range.2 (parts_lt h hi (has_low (parts_ne h hi)))
  simpa using this
/-- the row of a part: the other parts that one of its numbers needs -/
def frow (r P : List B) (i n : Nat) : B := ofL ((List.range n).filter fun k => decide (k ≠ i) && decide (stp r (row P i) &&& row P k ≠ 0#64))
theorem frow_zero (r P : List B) (i : Nat) : frow r P i 0 = 0#64 := rfl
theorem frow_succ (r P : List B) (i n : Nat) : frow r P i (n + 1) = if n ≠ i ∧ stp r (row P i) &&& row P n ≠ 0#64 then frow r P i n ||| 1#64 <<< n else frow r P i n := by
  unfold frow
  rw [List.range_succ, List.filter_append]
  by_cases h1 : n = i
  · simp [h1]
  · by_cases h2 : stp r (row P i) &&& row P n = 0#64
    · simp [h2]
    · rw [if_pos ⟨h1, h2⟩, ← ofL_snoc]
      congr 2
      simp [h1, h2]
def fold (r P : List B) : List B := (List.range P.length).map fun i => frow r P i P.length
theorem fold_len (r P : List B) : (fold r P).length = P.length := by simp [fold]
theorem row_fold {i : Nat} (hi : i < P.length) : row (fold r P) i = frow r P i P.length := by
  unfold fold row
  simp [hi]
theorem fold_edge (hv : Valid r) (h : Parts r P) {i k : Nat} : has (row (fold r P) i) k = true ↔ i < P.length ∧ k < P.length ∧ k ≠ i ∧ ∃ x y, has (row P i) x = true ∧ has (row P k) y = true ∧ has (row r x) y = true := by
  have hl := parts_len h
  have h64 := hv.1
  constructor
  · intro hh
    have hi := row_lt hh
    rw [fold_len] at hi
    rw [row_fold hi] at hh
    unfold frow at hh
    rw [has_ofL _ _ (has_lt hh), decide_eq_true_iff, List.mem_filter, List.mem_range, Bool.and_eq_true, decide_eq_true_iff, decide_eq_true_iff] at hh
    obtain ⟨y, hy⟩ := exists_of_ne hh.2.2
    rw [has_and, Bool.and_eq_true, has_stp] at hy
    obtain ⟨⟨x, h1, h2⟩, h3⟩ := hy
    exact ⟨hi, hh.1, hh.2.1, x, y, h1, h3, h2⟩
  · rintro ⟨hi, hk, hne, x, y, h1, h2, h3⟩
    rw [row_fold hi]
    unfold frow
    rw [has_ofL _ _ (by omega), decide_eq_true_iff, List.mem_filter, List.mem_range, Bool.and_eq_true, decide_eq_true_iff, decide_eq_true_iff]
    refine ⟨hk, hne, fun e => ?_⟩
    have := eq_zero_iff.1 e y
    rw [has_and, has_stp.2 ⟨x, h1, h3⟩, h2] at this; cases this
theorem valid_fold (hv : Valid r) (h : Parts r P) : Valid (fold r P) := by
  refine ⟨by rw [fold_len]; have := parts_len h; have := hv.1; omega, fun i k hk => ?_⟩
  rw [fold_len]
  exact ((fold_edge hv h).1 hk).2.1
theorem rch_fold (hv : Valid r) (h : Parts r P) {i k a b : Nat} (hi : i < P.length) (hk : k < P.length) (ha : has (row P i) a = true) (hb : has (row P k) b = true) : Rch (fold r P) i k ↔ Rch r a b := by
  constructor
  · intro hr
    have : ∀ k, Rch (fold r P) i k → ∀ b, has (row P k) b = true → Rch r a b := by
      intro k hr
      induction hr with
      | refl => intro b hb; exact (((parts_row h hi).2 a b ha).1 hb).1
      | tail _ e ih =>
        intro b hb
        obtain ⟨h1, h2, _, x, y, h3, h4, h5⟩ := (fold_edge hv h).1 e
        have h6 := ih x h3
        have h7 := (((parts_row h h2).2 y b h4).1 hb).1
        exact (Rch.tail h6 h5).trans h7
    exact this k hr b hb
  · intro hr
    have : ∀ b, Rch r a b → ∀ k, k < P.length → has (row P k) b = true → Rch (fold r P) i k := by
      intro b hr
      induction hr with
      | refl =>
        intro k hk hb
        rw [parts_one h hi hk ha hb]
        exact .refl _
      | tail _ e ih =>
        rename_i x y _
        intro k hk hb
        have hx : x < r.length := row_lt e
        obtain ⟨j, hj, hxj⟩ := parts_find h hx
        have h1 := ih j hj hxj
        by_cases hjk : k = j
        · subst hjk; exact h1
        · exact .tail h1 ((fold_edge hv h).2 ⟨hj, hk, hjk, _, _, hxj, hb, e⟩)
    exact this b hr k hk hb
/-- what a part comes to -/
def reachP (r P : List B) (i : Nat) : Nat := cnt (cls r (row P i))
theorem fold_less (hv : Valid r) (h : Parts r P) {i k : Nat} (he : has (row (fold r P) i) k = true) : reachP r P k < reachP r P i := by
  obtain ⟨hi, hk, hne, x, y, h1, h2, h3⟩ := (fold_edge hv h).1 he
  refine cnt_lt_of (fun z hz => ?_) (x := x) (cls_self h1) ?_
  · obtain ⟨q, hq, hqz⟩ := has_cls.1 hz
    have := (((parts_row h hk).2 y q h2).1 hq).1
    exact has_cls.2 ⟨x, h1, .head h3 (this.trans hqz)⟩
  · cases hh : has (cls r (row P k)) x with
    | false => rfl
    | true =>
      obtain ⟨q, hq, hqx⟩ := has_cls.1 hh
      have h4 := (((parts_row h hk).2 y q h2).1 hq).1
      have h5 : Rch r y x := h4.trans hqx
      have h6 : has (row P i) y = true := ((parts_row h hi).2 x y h1).2 ⟨.tail (.refl _) h3, h5⟩
      exact (hne (parts_one h hk hi h2 h6)).elim
/-- folded there is an order -/
theorem fold_order (hv : Valid r) (h : Parts r P) {left : B} (hs : Stuck (fold r P) left) : left = 0#64 := by
  have : ∀ d i, reachP r P i ≤ d → has left i = true → False := by
    intro d
    induction d with
    | zero =>
      intro i hd hi
      obtain ⟨k, hk, _⟩ := hs i hi
      have := fold_less hv h hk; omega
    | succ d ih =>
      intro i hd hi
      obtain ⟨k, hk, hl⟩ := hs i hi
      have := fold_less hv h hk
      exact ih k (by omega) hl
  refine eq_zero_iff.2 fun i => ?_
  cases hh : has left i with
  | false => rfl
  | true => exact (this _ i (Nat.le_refl _) hh).elim
end
end Go.Proofs.YtklikjjipoghlaaDoor
