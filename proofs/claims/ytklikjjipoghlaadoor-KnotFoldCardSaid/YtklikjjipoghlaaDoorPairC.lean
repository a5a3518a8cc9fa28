/- Chains of a pairing, and those that stand apart: plainly. Conditions: none. -/
import Derived.Test.YtklikjjipoghlaaDoorPair
namespace Go.Proofs.YtklikjjipoghlaaDoor
/-- the rows are a strict order -/
def Str (R : List B) : Prop := (∀ a b c, has (row R a) b = true → has (row R b) c = true → has (row R a) c = true) ∧ ∀ a, has (row R a) a = false
theorem str_cnt {R : List B} (h : Str R) {a b : Nat} (hab : has (row R a) b = true) : cnt (row R b) < cnt (row R a) :=
  cnt_lt_of (fun c hc => h.1 a b c hab hc) hab (h.2 b)
theorem lev_exists {r : List B} (hv : Valid r) {o : List Nat} (h : KOrd r o 0#64) : ∃ L, Levels r L := by
  have : ∀ i, i ≤ o.length → ∃ L, LevInv r o L i := by
    intro i
    induction i with
    | zero => intro _; exact ⟨_, lev_start r o⟩
    | succ i ih =>
      intro hi
      obtain ⟨L, hL⟩ := ih (by omega)
      exact ⟨_, lev_next h (by omega) hL⟩
  obtain ⟨L, hL⟩ := this o.length (Nat.le_refl _)
  exact ⟨L, lev_done hv h hL⟩
theorem str_clr {r : List B} (hv : Valid r) {o : List Nat} (h : KOrd r o 0#64) : Str (clr r) := by
  obtain ⟨L, hL⟩ := lev_exists hv h
  have hlt : ∀ {a b}, has (row (clr r) a) b = true → a < r.length := fun hb => by have := row_lt hb; rwa [clr_len] at this
  constructor
  · intro a b c hab hbc
    have ha := hlt hab
    have hb := hlt hbc
    obtain ⟨x, h1, h2⟩ := (has_clr ha).1 hab
    obtain ⟨y, h3, h4⟩ := (has_clr hb).1 hbc
    exact (has_clr ha).2 ⟨x, h1, h2.trans (.head h3 h4)⟩
  · intro a
    cases hh : has (row (clr r) a) a with
    | false => rfl
    | true => have := lev_clr hL (hlt hh) hh; omega
/-- the number t places behind i -/
def pth (nx : List Int) (i : Nat) : Nat → Int
  | 0 => i
  | t + 1 => if pth nx i t < 0 then -1 else vl nx (pth nx i t).toNat
theorem pth_up {nx : List Int} {i t : Nat} (h : 0 ≤ pth nx i (t + 1)) : 0 ≤ pth nx i t := by
  unfold pth at h
  by_cases h1 : pth nx i t < 0
  · rw [if_pos h1] at h; omega
  · omega
theorem pth_le {nx : List Int} {i a b : Nat} (h : 0 ≤ pth nx i b) (hab : a ≤ b) : 0 ≤ pth nx i a := by
  induction b with
  | zero => have : a = 0 := by omega
            subst this; exact h
  | succ b ih =>
    rcases Nat.lt_or_ge a (b + 1) with h1 | h1
    · exact ih (pth_up h) (by omega)
    · have : a = b + 1 := by omega
      subst this; exact h
theorem pth_step {nx : List Int} {i t k : Nat} (h : pth nx i t = k) : pth nx i (t + 1) = vl nx k := by
  show (if pth nx i t < 0 then -1 else vl nx (pth nx i t).toNat) = _
  rw [h, if_neg (by omega), Int.toNat_natCast]
theorem pth_prev {nx : List Int} {i t k : Nat} (h : pth nx i (t + 1) = k) : ∃ j : Nat, pth nx i t = j ∧ vl nx j = k := by
  have h0 := pth_up (nx := nx) (i := i) (t := t) (by omega)
  refine ⟨(pth nx i t).toNat, by omega, ?_⟩
  rw [← h]
  exact (pth_step (by omega)).symm
/-- the numbers with none ahead of them -/
def topsL (ah : List Int) (n : Nat) : List Nat := (List.range n).filter fun i => decide (vl ah i = -1)
theorem mem_tops {ah : List Int} {n i : Nat} : i ∈ topsL ah n ↔ i < n ∧ vl ah i = -1 := by
  unfold topsL
  rw [List.mem_filter, List.mem_range, decide_eq_true_iff]
theorem tops_nodup (ah : List Int) (n : Nat) : (topsL ah n).Nodup := List.nodup_range.filter _
/-- the chain that begins with i -/
def chn (nx : List Int) (i : Nat) : List Nat := ((List.range 65).filter fun t => decide (0 ≤ pth nx i t)).map fun t => (pth nx i t).toNat
section
variable {R : List B} {nx ah : List Int}
theorem pr_lt (h : Pr R nx ah (-1)) {j k : Nat} (hk : vl nx j = k) : k < R.length := by
  rcases Nat.lt_or_ge k R.length with h1 | h1
  · exact h1
  · have := (h.fw j k hk).1
    rw [vl_out (by rw [h.la]; exact h1)] at this; omega
theorem pth_row (h : Pr R nx ah (-1)) (hs : Str R) {i a b k m : Nat} (hab : a < b) (hk : pth nx i a = k) (hm : pth nx i b = m) : has (row R k) m = true := by
  induction b generalizing m with
  | zero => omega
  | succ b ih =>
    obtain ⟨j, hj, hv⟩ := pth_prev hm
    have h1 := (h.fw j m hv).2
    rcases Nat.lt_or_ge a b with h2 | h2
    · exact hs.1 _ _ _ (ih h2 hj) h1
    · have : a = b := by omega
      subst this
      have : j = k := by omega
      subst this; exact h1
theorem pth_cnt (h : Pr R nx ah (-1)) (hs : Str R) {i t k : Nat} (hk : pth nx i t = k) : t + cnt (row R k) ≤ 64 := by
  induction t generalizing k with
  | zero => have := cnt_le (row R k); omega
  | succ t ih =>
    obtain ⟨j, hj, hv⟩ := pth_prev hk
    have := ih hj
    have := str_cnt hs (h.fw j k hv).2
    omega
theorem pth_one (h : Pr R nx ah (-1)) {i j a b : Nat} {k : Nat} (hi : vl ah i = -1) (hj : vl ah j = -1) (ha : pth nx i a = k) (hb : pth nx j b = k) : i = j ∧ a = b := by
  induction a generalizing b k with
  | zero =>
    have hik : i = k := by have : (i : Int) = k := ha; omega
    cases b with
    | zero => have : (j : Int) = k := hb; exact ⟨by omega, rfl⟩
    | succ b => obtain ⟨q, _, hv⟩ := pth_prev hb; have := (h.fw q k hv).1; subst hik; omega
  | succ a ih =>
    obtain ⟨p, hp, hpv⟩ := pth_prev ha
    have hp1 := (h.fw p k hpv).1
    cases b with
    | zero => have : (j : Int) = k := hb; have : j = k := by omega
              subst this; omega
    | succ b =>
      obtain ⟨q, hq, hqv⟩ := pth_prev hb
      have hq1 := (h.fw q k hqv).1
      have : p = q := by omega
      subst this
      obtain ⟨h1, h2⟩ := ih hp hq
      exact ⟨h1, by omega⟩
theorem pth_all (h : Pr R nx ah (-1)) (hs : Str R) {k : Nat} (hk : k < R.length) : ∃ i t, i ∈ topsL ah R.length ∧ pth nx i t = k := by
  have : ∀ d k, k < R.length → 64 - cnt (row R k) ≤ d → ∃ i t, i ∈ topsL ah R.length ∧ pth nx i t = k := by
    intro d
    induction d with
    | zero =>
      intro k hk hd
      have h1 := cnt_le (row R k)
      rcases int_cases (h.ga k) with h2 | ⟨j, h2⟩
      · exact ⟨k, 0, mem_tops.2 ⟨hk, h2⟩, rfl⟩
      · have h3 := h.bw k j (by omega) h2
        have := str_cnt hs (h.fw j k h3).2
        have := cnt_le (row R j)
        omega
    | succ d ih =>
      intro k hk hd
      rcases int_cases (h.ga k) with h2 | ⟨j, h2⟩
      · exact ⟨k, 0, mem_tops.2 ⟨hk, h2⟩, rfl⟩
      · have h3 := h.bw k j (by omega) h2
        have := str_cnt hs (h.fw j k h3).2
        have := cnt_le (row R j)
        obtain ⟨i, t, hi, ht⟩ := ih j (h.lt k j h2) (by omega)
        exact ⟨i, t + 1, hi, by rw [pth_step ht]; exact h3⟩
  exact this _ k hk (Nat.le_refl _)
theorem mem_chn (h : Pr R nx ah (-1)) (hs : Str R) {i k : Nat} : k ∈ chn nx i ↔ ∃ t, pth nx i t = k := by
  unfold chn
  rw [List.mem_map]
  constructor
  · rintro ⟨t, ht, rfl⟩
    rw [List.mem_filter, decide_eq_true_iff] at ht
    exact ⟨t, by omega⟩
  · rintro ⟨t, ht⟩
    have := pth_cnt h hs ht
    exact ⟨t, List.mem_filter.2 ⟨List.mem_range.2 (by omega), decide_eq_true (by omega)⟩, by omega⟩
/-- the first m of a chain -/
def pthL (nx : List Int) (i m : Nat) : List Nat := (List.range m).map fun t => (pth nx i t).toNat
theorem pthL_len (nx : List Int) (i m : Nat) : (pthL nx i m).length = m := by simp [pthL]
theorem pthL_succ {i m k : Nat} (hk : pth nx i m = k) : pthL nx i (m + 1) = pthL nx i m ++ [k] := by
  unfold pthL
  rw [List.range_succ, List.map_append]
  simp [hk]
theorem chn_end {i m : Nat} (h : ∀ t, t < m → 0 ≤ pth nx i t) (he : pth nx i m < 0) (hm : m ≤ 65) : chn nx i = pthL nx i m := by
  unfold chn pthL
  congr 1
  have : List.range 65 = List.range m ++ (List.range (65 - m)).map (m + ·) := by
    have := List.range_add (n := m) (m := 65 - m)
    rwa [show m + (65 - m) = 65 by omega] at this
  rw [this, List.filter_append, List.filter_eq_self.2 fun t ht => decide_eq_true (h t (List.mem_range.1 ht))]
  rw [List.filter_eq_nil_iff.2]
  · simp
  · intro t ht
    obtain ⟨q, hq, rfl⟩ := List.mem_map.1 ht
    rw [decide_eq_true_iff]
    intro h0
    have := pth_le h0 (Nat.le_add_right m q)
    omega
theorem pth_neg {i t : Nat} (hg : ∀ j, -1 ≤ vl nx j) : -1 ≤ pth nx i t := by
  cases t with
  | zero => show (-1 : Int) ≤ i; omega
  | succ t =>
    show (-1 : Int) ≤ (if pth nx i t < 0 then -1 else vl nx (pth nx i t).toNat)
    split
    · omega
    · exact hg _
/-- all chains -/
def chns (nx ah : List Int) (n : Nat) : List (List Nat) := (topsL ah n).map (chn nx)
theorem nodup_map {α β : Type} {f : α → β} {l : List α} (hl : l.Nodup) (h : ∀ a ∈ l, ∀ b ∈ l, f a = f b → a = b) : (l.map f).Nodup := by
  unfold List.Nodup
  rw [List.pairwise_map]
  refine List.Pairwise.imp_of_mem (fun {a b} ha hb hab => ?_) hl
  exact fun he => hab (h a ha b hb he)
theorem chn_nodup (h : Pr R nx ah (-1)) (hs : Str R) (i : Nat) : (chn nx i).Nodup := by
  unfold chn
  refine nodup_map (List.nodup_range.filter _) fun a ha b hb he => ?_
  rw [List.mem_filter, decide_eq_true_iff] at ha hb
  have h1 : pth nx i a = ((pth nx i a).toNat : Nat) := by omega
  have h2 : pth nx i b = ((pth nx i a).toNat : Nat) := by omega
  rcases Nat.lt_trichotomy a b with h3 | h3 | h3
  · have := pth_row h hs h3 h1 h2; rw [hs.2] at this; cases this
  · exact h3
  · have := pth_row h hs h3 h2 h1; rw [hs.2] at this; cases this
theorem nodup_flatten {α : Type} {l : List (List α)} (h1 : ∀ x ∈ l, x.Nodup) (h2 : l.Pairwise fun x y => ∀ a ∈ x, a ∉ y) : l.flatten.Nodup := by
  induction l with
  | nil => exact List.Pairwise.nil
  | cons x l ih =>
    rw [List.flatten_cons]
    rw [List.pairwise_cons] at h2
    refine List.nodup_append.2 ⟨h1 x (by simp), ih (fun y hy => h1 y (by simp [hy])) h2.2, fun a ha b hb he => ?_⟩
    subst he
    obtain ⟨y, hy, hay⟩ := List.mem_flatten.1 hb
    exact h2.1 y hy a ha hay
theorem chns_nodup (h : Pr R nx ah (-1)) (hs : Str R) : (chns nx ah R.length).flatten.Nodup := by
  refine nodup_flatten (fun x hx => ?_) ?_
  · obtain ⟨i, _, rfl⟩ := List.mem_map.1 hx
    exact chn_nodup h hs i
  · unfold chns
    rw [List.pairwise_map]
    refine List.Pairwise.imp_of_mem (fun {a b} ha hb hab k hk hk2 => ?_) (tops_nodup ah R.length)
    obtain ⟨t, ht⟩ := (mem_chn h hs).1 hk
    obtain ⟨t2, ht2⟩ := (mem_chn h hs).1 hk2
    exact hab (pth_one h (mem_tops.1 ha).2 (mem_tops.1 hb).2 ht ht2).1
theorem mem_chns (h : Pr R nx ah (-1)) (hs : Str R) {k : Nat} : k ∈ (chns nx ah R.length).flatten ↔ k < R.length := by
  rw [List.mem_flatten]
  constructor
  · rintro ⟨x, hx, hk⟩
    obtain ⟨i, hi, rfl⟩ := List.mem_map.1 hx
    obtain ⟨t, ht⟩ := (mem_chn h hs).1 hk
    cases t with
    | zero => have := (mem_tops.1 hi).1; have : (i : Int) = k := ht; omega
    | succ t => obtain ⟨j, _, hv⟩ := pth_prev ht; exact pr_lt h hv
  · intro hk
    obtain ⟨i, t, hi, ht⟩ := pth_all h hs hk
    exact ⟨chn nx i, List.mem_map.2 ⟨i, hi, rfl⟩, (mem_chn h hs).2 ⟨t, ht⟩⟩
/-- none of a set is below another one -/
def AP (R : List B) (s : B) : Prop := ∀ n, has s n = true → n < R.length ∧ row R n &&& s = 0#64
open Classical in
/-- the top of the chain of k -/
noncomputable def topC (nx ah : List Int) (n k : Nat) : Nat := if h : ∃ i, i ∈ topsL ah n ∧ ∃ t, pth nx i t = k then Classical.choose h else 0
theorem topC_spec (h : Pr R nx ah (-1)) (hs : Str R) {k : Nat} (hk : k < R.length) : topC nx ah R.length k ∈ topsL ah R.length ∧ ∃ t, pth nx (topC nx ah R.length k) t = k := by
  obtain ⟨i, t, hi, ht⟩ := pth_all h hs hk
  have he : ∃ i, i ∈ topsL ah R.length ∧ ∃ t, pth nx i t = k := ⟨i, hi, t, ht⟩
  unfold topC
  rw [dif_pos he]
  exact Classical.choose_spec he
theorem ap_le (h : Pr R nx ah (-1)) (hs : Str R) {x : B} (hx : AP R x) : cnt x ≤ (topsL ah R.length).length := by
  have hn : ((lst x).map (topC nx ah R.length)).Nodup := by
    refine nodup_map ((lst_sorted x).imp fun h => Nat.ne_of_lt h) fun a ha b hb he => ?_
    rw [mem_lst] at ha hb
    obtain ⟨_, t1, h1⟩ := topC_spec h hs (hx a ha).1
    obtain ⟨_, t2, h2⟩ := topC_spec h hs (hx b hb).1
    rw [← he] at h2
    have key : ∀ p q, has x p = true → has x q = true → has (row R p) q = true → False := by
      intro p q hp hq hpq
      have h0 := eq_zero_iff.1 (hx p hp).2 q
      rw [has_and, hpq, hq] at h0; cases h0
    rcases Nat.lt_trichotomy t1 t2 with h3 | h3 | h3
    · exact (key a b ha hb (pth_row h hs h3 h1 h2)).elim
    · subst h3; omega
    · exact (key b a hb ha (pth_row h hs h3 h2 h1)).elim
  have := hn.length_le_of_subset (l₂ := topsL ah R.length) fun i hi => by
    obtain ⟨k, hk, rfl⟩ := List.mem_map.1 hi
    exact (topC_spec h hs (hx k (mem_lst.1 hk)).1).1
  rw [List.length_map, ← cnt_lst] at this
  exact this
/-- the search from those that have none behind them -/
structure ApI (R : List B) (nx ah : List Int) (T L : B) : Prop where
  free : ∀ j, j < R.length → vl nx j = -1 → has T j = true
  from_ : ∀ j, has T j = true → j < R.length ∧ (vl nx j = -1 ∨ ∃ k, has L k = true ∧ vl ah k = j)
  back : ∀ k, has L k = true → ∃ j : Nat, vl ah k = j ∧ has T j = true
  in_ : ∃ X, Clos R ah X ∧ sub L X ∧ ∀ j, has T j = true → sub (row R j) X
def frees (nx : List Int) (n : Nat) : B := ofL ((List.range n).filter fun i => decide (vl nx i = -1))
theorem has_frees {nx : List Int} {n : Nat} (h : n ≤ 64) {j : Nat} : has (frees nx n) j = true ↔ j < n ∧ vl nx j = -1 := by
  unfold frees
  rcases Nat.lt_or_ge j 64 with h1 | h1
  · rw [has_ofL _ _ h1, decide_eq_true_iff, List.mem_filter, List.mem_range, decide_eq_true_iff]
  · rw [has_ge h1]; simp; omega
theorem api_start (h : Paired R nx ah) (h64 : R.length ≤ 64) : ApI R nx ah (frees nx R.length) 0#64 := by
  obtain ⟨hp, X, hX, hX2⟩ := h
  refine ⟨fun j h1 h2 => (has_frees h64).2 ⟨h1, h2⟩, fun j hj => ?_, fun k hk => ?_, X, hX, fun k hk => ?_, fun j hj => ?_⟩
  · have := (has_frees h64).1 hj; exact ⟨this.1, .inl this.2⟩
  · rw [has_zero] at hk; cases hk
  · rw [has_zero] at hk; cases hk
  · have := (has_frees h64).1 hj; exact hX2 j this.1 this.2
theorem api_step (hp : Pr R nx ah (-1)) (h64 : R.length ≤ 64) {T L : B} (h : ApI R nx ah T L) {i k : Nat} (hi : has T i = true) (hk : has (row R i) k = true) :
    ∃ j : Nat, vl ah k = j ∧ j < R.length ∧ ApI R nx ah (T ||| 1#64 <<< j) (L ||| 1#64 <<< k) := by
  obtain ⟨X, hX, hL, hT⟩ := h.in_
  have hk64 := has_lt hk
  have hkX := hT i hi k hk
  obtain ⟨j, hj, hsub⟩ := hX k hkX
  have hjn := hp.lt k j hj
  have hj64 : j < 64 := by omega
  refine ⟨j, hj, hjn, fun a h1 h2 => (has_bit_or hj64).2 (.inl (h.free a h1 h2)), fun a ha => ?_, fun a ha => ?_, X, hX, fun a ha => ?_, fun a ha => ?_⟩
  · rcases (has_bit_or hj64).1 ha with h1 | rfl
    · obtain ⟨h2, h3⟩ := h.from_ a h1
      refine ⟨h2, ?_⟩
      rcases h3 with h3 | ⟨q, h3, h4⟩
      · exact .inl h3
      · exact .inr ⟨q, (has_bit_or hk64).2 (.inl h3), h4⟩
    · exact ⟨hjn, .inr ⟨k, (has_bit_or hk64).2 (.inr rfl), hj⟩⟩
  · rcases (has_bit_or hk64).1 ha with h1 | rfl
    · obtain ⟨q, h2, h3⟩ := h.back a h1
      exact ⟨q, h2, (has_bit_or hj64).2 (.inl h3)⟩
    · exact ⟨j, hj, (has_bit_or hj64).2 (.inr rfl)⟩
  · rcases (has_bit_or hk64).1 ha with h1 | rfl
    · exact hL a h1
    · exact hkX
  · rcases (has_bit_or hj64).1 ha with h1 | rfl
    · exact hT a h1
    · exact hsub
/-- the search has come to its end -/
def ApEnd (R : List B) (nx ah : List Int) (T L : B) : Prop := ApI R nx ah T L ∧ ∀ i, has T i = true → sub (row R i) L
theorem apend_ap {T L : B} (h : ApEnd R nx ah T L) : AP R (T &&& ~~~L) := by
  intro n hn
  rw [has_and, Bool.and_eq_true] at hn
  refine ⟨(h.1.from_ n hn.1).1, eq_zero_iff.2 fun k => ?_⟩
  rw [has_and, has_and]
  cases h1 : has (row R n) k with
  | false => rfl
  | true =>
    have := h.2 n hn.1 k h1
    rw [has_not _ _ (has_lt h1), this]; simp
theorem filter_len {l : List Nat} (p : Nat → Bool) : (l.filter p).length + (l.filter fun x => !p x).length = l.length := by
  induction l with
  | nil => rfl
  | cons x l ih => simp only [List.filter_cons]; cases p x <;> simp <;> omega
theorem apend_ge (hp : Pr R nx ah (-1)) {T L : B} (h : ApEnd R nx ah T L) : (topsL ah R.length).length ≤ cnt (T &&& ~~~L) := by
  have hTs : (lst T).Nodup := (lst_sorted T).imp fun h => Nat.ne_of_lt h
  have h1 : cnt T ≤ cnt (T &&& ~~~L) + cnt L := by
    have := hTs.length_le_of_subset (l₂ := lst (T &&& ~~~L) ++ lst L) fun k hk => by
      rw [mem_lst] at hk
      rw [List.mem_append, mem_lst, mem_lst, has_and, hk, has_not _ _ (has_lt hk)]
      cases has L k <;> simp
    rw [List.length_append] at this
    simpa [cnt_lst] using this
  have h2 : ((List.range R.length).filter fun i => decide (vl nx i = -1)).length + cnt L ≤ cnt T := by
    have hn : (((List.range R.length).filter fun i => decide (vl nx i = -1)) ++ (lst L).map fun k => (vl ah k).toNat).Nodup := by
      refine List.nodup_append.2 ⟨List.nodup_range.filter _, ?_, ?_⟩
      · refine nodup_map ((lst_sorted L).imp fun h => Nat.ne_of_lt h) fun a ha b hb he => ?_
        rw [mem_lst] at ha hb
        obtain ⟨j, hj, _⟩ := h.1.back a ha
        obtain ⟨j2, hj2, _⟩ := h.1.back b hb
        have : j = j2 := by simp only [hj, hj2, Int.toNat_natCast] at he; exact he
        subst this
        have e1 := hp.bw a j (by omega) hj
        have e2 := hp.bw b j (by omega) hj2
        omega
      · intro a ha b hb he
        subst he
        rw [List.mem_filter, decide_eq_true_iff] at ha
        obtain ⟨k, hk, he⟩ := List.mem_map.1 hb
        rw [mem_lst] at hk
        obtain ⟨j, hj, _⟩ := h.1.back k hk
        have : j = a := by simp only [hj, Int.toNat_natCast] at he; exact he
        subst this
        have e1 := hp.bw k j (by omega) hj
        omega
    have := hn.length_le_of_subset (l₂ := lst T) fun k hk => by
      rw [List.mem_append] at hk
      rw [mem_lst]
      rcases hk with hk | hk
      · rw [List.mem_filter, List.mem_range, decide_eq_true_iff] at hk
        exact h.1.free k hk.1 hk.2
      · obtain ⟨q, hq, rfl⟩ := List.mem_map.1 hk
        rw [mem_lst] at hq
        obtain ⟨j, hj, hj2⟩ := h.1.back q hq
        simp only [hj, Int.toNat_natCast]; exact hj2
    rw [List.length_append, List.length_map] at this
    simpa [cnt_lst] using this
  have h3 : (topsL ah R.length).length ≤ ((List.range R.length).filter fun i => decide (vl nx i = -1)).length := by
    have e1 := filter_len (l := List.range R.length) fun i => decide (vl ah i = -1)
    have e2 := filter_len (l := List.range R.length) fun i => decide (vl nx i = -1)
    have hn : (((List.range R.length).filter fun i => !decide (vl nx i = -1)).map fun j => (vl nx j).toNat).Nodup := by
      refine nodup_map (List.nodup_range.filter _) fun a ha b hb he => ?_
      rw [List.mem_filter] at ha hb
      have ha2 := ha.2
      have hb2 := hb.2
      simp only [Bool.not_eq_true', decide_eq_false_iff_not] at ha2 hb2
      rcases int_cases (hp.gn a) with h1 | ⟨k, h1⟩
      · exact (ha2 h1).elim
      rcases int_cases (hp.gn b) with h2 | ⟨k2, h2⟩
      · exact (hb2 h2).elim
      have : k = k2 := by simp only [h1, h2, Int.toNat_natCast] at he; exact he
      subst this
      have e1 := (hp.fw a k h1).1
      have e2 := (hp.fw b k h2).1
      omega
    have := hn.length_le_of_subset (l₂ := (List.range R.length).filter fun i => !decide (vl ah i = -1)) fun k hk => by
      obtain ⟨j, hj, rfl⟩ := List.mem_map.1 hk
      rw [List.mem_filter] at hj
      have hj2 := hj.2
      simp only [Bool.not_eq_true', decide_eq_false_iff_not] at hj2
      rcases int_cases (hp.gn j) with h1 | ⟨m, h1⟩
      · exact (hj2 h1).elim
      have e1 := (hp.fw j m h1).1
      have e2 := pr_lt hp h1
      rw [List.mem_filter, List.mem_range]
      simp only [h1, Int.toNat_natCast, Bool.not_eq_true', decide_eq_false_iff_not]
      exact ⟨e2, by omega⟩
    rw [List.length_map] at this
    unfold topsL
    omega
  omega
theorem apend_cnt (hp : Pr R nx ah (-1)) (hs : Str R) {T L : B} (h : ApEnd R nx ah T L) : cnt (T &&& ~~~L) = (topsL ah R.length).length :=
  Nat.le_antisymm (ap_le hp hs (apend_ap h)) (apend_ge hp h)
end
end Go.Proofs.YtklikjjipoghlaaDoor
