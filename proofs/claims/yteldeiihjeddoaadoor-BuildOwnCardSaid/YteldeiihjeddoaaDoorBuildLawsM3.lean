/- Texts joined: StaleSetP, BuildP, BuildNowW, TurnP, SortK. Conditions: theirs. -/
import Derived.Test.YteldeiihjeddoaaDoorBuildLawsM2
import Derived.Test.YteldeiihjeddoaaDoorGraphP
import Derived.Test.YteldeiihjeddoaaDoorSortG
import Derived.Test.YteldeiihjeddoaaDoorPairs
import Derived.Shelf.SlSortCmp.WholeK
namespace Go.Proofs.YteldeiihjeddoaaDoor
/-- what the set holds when the first k of the order are through -/
structure SInv (g : GD) (x : SD) (o : List Nat) (k : Nat) (s : B) : Prop where
  only : ∀ n, has s n = true → n ∈ o.take k
  iff : ∀ n ∈ o.take k, has s n = true ↔ has (g.made ||| g.phony) n = true ∧ Why g x s n
theorem sinv_nil (g : GD) (x : SD) (o : List Nat) : SInv g x o 0 0#64 := ⟨fun n h => (by rw [has_zero] at h; cases h), fun n h => (by simp at h)⟩
theorem why_same {g : GD} {x : SD} {s t : B} {n : Nat} (h : ∀ k, has (row (rws g) n) k = true → (has s k = true ↔ has t k = true)) : Why g x s n ↔ Why g x t n := by
  unfold Why
  constructor
  · rintro (h1 | h1 | ⟨k, h1, h2⟩)
    · exact .inl h1
    · exact .inr (.inl h1)
    · exact .inr (.inr ⟨k, h1, by rw [← h k h1]; exact h2⟩)
  · rintro (h1 | h1 | ⟨k, h1, h2⟩)
    · exact .inl h1
    · exact .inr (.inl h1)
    · exact .inr (.inr ⟨k, h1, by rw [h k h1]; exact h2⟩)
theorem take_mono {l : List Nat} {i k x : Nat} (h : i ≤ k) (hx : x ∈ l.take i) : x ∈ l.take k := by
  have e : l.take i = (l.take k).take i := by rw [List.take_take, Nat.min_eq_left h]
  rw [e] at hx
  exact List.mem_of_mem_take hx
theorem sinv_step {g : GD} {x : SD} {o : List Nat} (ho : KOrd (rws g) o 0#64) {k : Nat} (hk : k < o.length) {s t : B} (h : SInv g x o k s)
    {C : Bool} (ht : t = if C = true then s ||| 1#64 <<< o[k] else s) (hc : C = true ↔ has (g.made ||| g.phony) o[k] = true ∧ Why g x s o[k]) (hn64 : o[k] < 64) : SInv g x o (k + 1) t := by
  have htk : o.take (k + 1) = o.take k ++ [o[k]] := List.take_succ_eq_append_getElem hk
  have hnot : o[k] ∉ o.take k := by
    intro hm
    obtain ⟨j, hj, e⟩ := List.mem_iff_getElem.1 hm
    rw [List.getElem_take] at e
    have hjl : j < k := by rw [List.length_take] at hj; omega
    exact List.pairwise_iff_getElem.1 ho.nodup j k (by omega) hk hjl e
  have hso : has s o[k] = false := by
    rw [Bool.eq_false_iff]; exact fun h1 => hnot (h.only _ h1)
  have hsame : ∀ j, j ≠ o[k] → has t j = has s j := by
    intro j hj
    rw [ht]
    split
    · rcases Nat.lt_or_ge j 64 with h64 | h64
      · rw [has_or, has_one _ _ h64, decide_eq_false hj, Bool.or_false]
      · rw [has_ge h64, has_ge h64]
    · rfl
  have hw : ∀ n ∈ o.take (k + 1), Why g x t n ↔ Why g x s n := by
    intro n hn
    refine (why_same fun j hj => ?_).symm
    have hjk : j ∈ o.take k := by
      obtain ⟨i, hi, e⟩ := List.mem_iff_getElem.1 hn
      rw [List.getElem_take] at e
      rw [List.length_take] at hi
      have := ho.needs i (by omega) j (by rw [e]; exact hj)
      exact take_mono (by omega) this
    rw [hsame j (fun e => hnot (by rw [← e]; exact hjk))]
  refine ⟨fun n hn => ?_, fun n hn => ?_⟩
  · rw [htk, List.mem_append, List.mem_singleton]
    by_cases e : n = o[k]
    · exact .inr e
    · exact .inl (h.only n (by rw [← hsame n e]; exact hn))
  · rw [hw n hn]
    rw [htk, List.mem_append, List.mem_singleton] at hn
    rcases hn with hn | rfl
    · rw [hsame n (fun e => hnot (by rw [← e]; exact hn))]
      exact h.iff n hn
    · rw [← hc, ht]
      cases C
      · rw [if_neg (by decide), hso]
      · rw [if_pos rfl, has_or, has_one _ _ hn64, decide_eq_true rfl, Bool.or_true]
theorem sinv_all {g : GD} {x : SD} {o : List Nat} (ho : KOrd (rws g) o 0#64) {s : B} (h : SInv g x o o.length s) : Stale g x s := by
  have hall : ∀ n, n ∈ o ↔ n < g.names.length := by
    intro n
    have hiff := ho.left_iff n
    rw [has_zero, rws_len] at hiff
    constructor
    · intro hn; have := ho.lt n hn; rwa [rws_len] at this
    · intro hn
      by_cases hm : n ∈ o
      · exact hm
      · exact absurd (hiff.2 ⟨hn, hm⟩) (by simp)
  have hi := h.iff
  have ho2 := h.only
  rw [List.take_length] at hi
  intro n
  constructor
  · intro hn
    have hm : n ∈ o := by have := ho2 n hn; rwa [List.take_length] at this
    exact ⟨(hall n).1 hm, (hi n hm).1 hn⟩
  · rintro ⟨h1, h2⟩
    exact (hi n ((hall n).2 h1)).2 h2
/-- the first part of the test -/
def anew1 (g : GD) (x : SD) (s : B) (n : Nat) : Bool := decide (x.at_.getD n 0 < 0) || (has g.phony n || decide (row (rws g) n &&& (x.dirty ||| s) ≠ 0#64))
def anew2 (g : GD) (x : SD) (s : B) (n j : Nat) : Bool := anew1 g x s n || ((lst (row (rws g) n)).take j).any fun k => decide (x.at_.getD n 0 < x.at_.getD k 0)
theorem anew2_zero (g : GD) (x : SD) (s : B) (n : Nat) : anew2 g x s n 0 = anew1 g x s n := by unfold anew2; simp
theorem anew2_next {g : GD} {x : SD} {s : B} {n j : Nat} (hj : j < (lst (row (rws g) n)).length) :
    anew2 g x s n (j + 1) = (anew2 g x s n j || decide (x.at_.getD n 0 < x.at_.getD ((lst (row (rws g) n)).getD j 0) 0)) := by
  unfold anew2
  rw [List.take_succ_eq_append_getElem hj, List.any_append, Bool.or_assoc]
  simp [List.getD_eq_getElem?_getD, List.getElem?_eq_getElem hj]
theorem anew2_why {g : GD} {x : SD} {s : B} {n : Nat} : anew2 g x s n (lst (row (rws g) n)).length = true ↔ Why g x s n := by
  unfold anew2 anew1 Why
  rw [List.take_length, Bool.or_eq_true, Bool.or_eq_true, Bool.or_eq_true, decide_eq_true_iff, decide_eq_true_iff, List.any_eq_true]
  constructor
  · rintro ((h | h | h) | ⟨k, h1, h2⟩)
    · exact .inl h
    · exact .inr (.inl h)
    · obtain ⟨k, hk⟩ := exists_of_ne h
      rw [has_and, has_or, Bool.and_eq_true, Bool.or_eq_true] at hk
      rcases hk.2 with h3 | h3
      · exact .inr (.inr ⟨k, hk.1, .inl h3⟩)
      · exact .inr (.inr ⟨k, hk.1, .inr (.inl h3)⟩)
    · exact .inr (.inr ⟨k, mem_lst.1 h1, .inr (.inr (of_decide_eq_true h2))⟩)
  · rintro (h | h | ⟨k, h1, h2⟩)
    · exact .inl (.inl h)
    · exact .inl (.inr (.inl h))
    · rcases h2 with h2 | h2 | h2
      · refine .inl (.inr (.inr fun e => ?_))
        have := has_zero k
        rw [← e, has_and, has_or, h1, h2] at this
        simp at this
      · refine .inl (.inr (.inr fun e => ?_))
        have := has_zero k
        rw [← e, has_and, has_or, h1, h2] at this
        simp at this
      · exact .inr ⟨k, mem_lst.2 h1, decide_eq_true h2⟩
end Go.Proofs.YteldeiihjeddoaaDoor
namespace Go.Proofs.YteldeiihjeddoaaDoor
/-- numbers stamped one behind the other, at times that rise -/
def stampT : List Int → Int → List Nat → List Int
  | l, _, [] => l
  | l, t, n :: r => stampT (l.set n t) (t + 1) r
theorem stamp_len : ∀ (r : List Nat) (l : List Int) (t : Int), (stampT l t r).length = l.length
  | [], _, _ => rfl
  | n :: r, l, t => by rw [stampT, stamp_len r, List.length_set]
theorem stamp_snoc : ∀ (r : List Nat) (l : List Int) (t : Int) (n : Nat), stampT l t (r ++ [n]) = (stampT l t r).set n (t + r.length)
  | [], l, t, n => by simp [stampT]
  | m :: r, l, t, n => by
    rw [List.cons_append, stampT, stamp_snoc r, stampT, List.length_cons]
    congr 1
    omega
theorem getD_set_ne {l : List Int} {n m : Nat} {t : Int} (h : n ≠ m) : (l.set n t).getD m 0 = l.getD m 0 := by
  rw [List.getD_eq_getElem?_getD, List.getD_eq_getElem?_getD, List.getElem?_set_ne h]
theorem getD_set_eq {l : List Int} {n : Nat} {t : Int} (h : n < l.length) : (l.set n t).getD n 0 = t := by
  rw [List.getD_eq_getElem?_getD, List.getElem?_set_self h]; rfl
theorem stamp_out : ∀ (r : List Nat) (l : List Int) (t : Int) {n : Nat}, n ∉ r → (stampT l t r).getD n 0 = l.getD n 0
  | [], _, _, _, _ => rfl
  | m :: r, l, t, n, h => by
    rw [stampT, stamp_out r _ _ (fun hc => h (List.mem_cons_of_mem _ hc)), getD_set_ne (fun e => h (by rw [e]; exact List.mem_cons_self))]
theorem stamp_in : ∀ (r : List Nat) (l : List Int) (t : Int), r.Nodup → (∀ n ∈ r, n < l.length) → ∀ i (hi : i < r.length), (stampT l t r).getD r[i] 0 = t + i
  | [], _, _, _, _, i, hi => by simp at hi
  | m :: r, l, t, hn, hl, i, hi => by
    rw [List.nodup_cons] at hn
    cases i with
    | zero =>
      rw [stampT]
      show (stampT (l.set m t) (t + 1) r).getD m 0 = _
      rw [stamp_out r _ _ hn.1, getD_set_eq (hl m List.mem_cons_self)]
      simp
    | succ i =>
      rw [stampT]
      have hi' : i < r.length := by simpa using hi
      show (stampT (l.set m t) (t + 1) r).getD r[i] 0 = _
      rw [stamp_in r _ _ hn.2 (fun n hn' => by rw [List.length_set]; exact hl n (List.mem_cons_of_mem _ hn')) i hi']
      push_cast
      omega
/-- what is made, in its order -/
def mrow (o : List Nat) (s : B) : List Nat := o.filter fun n => has s n
theorem mrow_next {o : List Nat} {s : B} {k : Nat} (hk : k < o.length) : mrow (o.take (k + 1)) s = mrow (o.take k) s ++ (if has s o[k] = true then [o[k]] else []) := by
  unfold mrow
  rw [List.take_succ_eq_append_getElem hk, List.filter_append]
  congr 1
  by_cases h : has s o[k] = true
  · rw [if_pos h]; simp [h]
  · rw [if_neg h]; simp [h]
theorem mrow_split {o : List Nat} {s : B} {i : Nat} (hi : i < o.length) (h : has s o[i] = true) : mrow o s = mrow (o.take i) s ++ o[i] :: mrow (o.drop (i + 1)) s := by
  have e : o = o.take i ++ o[i] :: o.drop (i + 1) := by
    rw [List.getElem_cons_drop, List.take_append_drop]
  unfold mrow
  conv => lhs; rw [e]
  rw [List.filter_append, List.filter_cons_of_pos h]
theorem mem_mrow {o : List Nat} {s : B} {n : Nat} : n ∈ mrow o s ↔ n ∈ o ∧ has s n = true := by unfold mrow; rw [List.mem_filter]
theorem mrow_nodup {o : List Nat} {s : B} (h : o.Nodup) : (mrow o s).Nodup := List.Pairwise.filter _ h
/-- when a number is made -/
theorem made_at {o : List Nat} {s : B} {l : List Int} {now : Int} (hn : o.Nodup) (hl : ∀ n ∈ o, n < l.length) {i : Nat} (hi : i < o.length) (h : has s o[i] = true) :
    (stampT l now (mrow o s)).getD o[i] 0 = now + (mrow (o.take i) s).length := by
  have hk : (mrow (o.take i) s).length < (mrow o s).length := by rw [mrow_split hi h]; simp
  have he : (mrow o s)[(mrow (o.take i) s).length] = o[i] := by
    simp only [mrow_split hi h]
    simp
  have := stamp_in (mrow o s) l now (mrow_nodup hn) (fun n hm => hl n (mem_mrow.1 hm).1) _ hk
  rw [he] at this
  exact this
theorem mrow_lt {o : List Nat} {s : B} {i j : Nat} (hij : j < i) (hi : i ≤ o.length) (h : has s (o[j]'(by omega)) = true) : (mrow (o.take j) s).length < (mrow (o.take i) s).length := by
  have h1 := mrow_next (s := s) (o := o) (k := j) (by omega)
  rw [if_pos h] at h1
  have h2 : (mrow (o.take (j + 1)) s).length = (mrow (o.take j) s).length + 1 := by rw [h1]; simp
  have h3 : (mrow (o.take (j + 1)) s).length ≤ (mrow (o.take i) s).length := by
    unfold mrow
    refine List.Sublist.length_le (List.Sublist.filter _ ?_)
    have : o.take (j + 1) = (o.take i).take (j + 1) := by rw [List.take_take, Nat.min_eq_left (by omega)]
    rw [this]
    exact List.take_sublist _ _
  omega
/-- the times behind a build -/
def ran (x : SD) (s : B) (o : List Nat) (now : Int) : List Int := stampT x.at_ now (mrow o s)
theorem ran_len (x : SD) (s : B) (o : List Nat) (now : Int) : (ran x s o now).length = x.at_.length := stamp_len _ _ _
theorem ran_out {x : SD} {s : B} {o : List Nat} {now : Int} {n : Nat} (h : has s n = false) : (ran x s o now).getD n 0 = x.at_.getD n 0 :=
  stamp_out _ _ _ fun hm => by rw [(mem_mrow.1 hm).2] at h; cases h
theorem kord_mem {g : GD} {o : List Nat} (ho : KOrd (rws g) o 0#64) {n : Nat} : n ∈ o ↔ n < g.names.length := by
  have hiff := ho.left_iff n
  rw [has_zero, rws_len] at hiff
  constructor
  · intro hn; have := ho.lt n hn; rwa [rws_len] at this
  · intro hn
    by_cases hm : n ∈ o
    · exact hm
    · exact absurd (hiff.2 ⟨hn, hm⟩) (by simp)
theorem ran_in {g : GD} {x : SD} {s : B} {o : List Nat} {now : Int} (hR : Right g x) (ho : KOrd (rws g) o 0#64) {i : Nat} (hi : i < o.length) (h : has s o[i] = true) :
    (ran x s o now).getD o[i] 0 = now + (mrow (o.take i) s).length :=
  made_at ho.nodup (fun n hn => by rw [hR.len]; exact (kord_mem ho).1 hn) hi h
theorem mrow_len {g : GD} {s : B} {o : List Nat} (hG : Good g) (ho : KOrd (rws g) o 0#64) (i : Nat) : (mrow (o.take i) s).length ≤ 64 := by
  have h1 := kord_len (valid_rws hG) ho
  have h2 : (mrow (o.take i) s).length ≤ (o.take i).length := List.length_filter_le _ _
  rw [List.length_take] at h2
  omega
theorem ran_ge {g : GD} {x : SD} {s : B} {o : List Nat} {now : Int} (hR : Right g x) (ho : KOrd (rws g) o 0#64) {n : Nat} (hn : n < g.names.length) (h : has s n = true) :
    now ≤ (ran x s o now).getD n 0 ∧ (ran x s o now).getD n 0 < now + 64 := by
  obtain ⟨i, hi, rfl⟩ := List.mem_iff_getElem.1 ((kord_mem ho).2 hn)
  rw [ran_in hR ho hi h]
  have h1 := mrow_lt (s := s) (o := o) (i := i + 1) (j := i) (by omega) (by omega) h
  have h2 := mrow_len (s := s) hR.good ho (i + 1)
  omega
/-- whoever is made is made behind what it needs -/
theorem ran_need {g : GD} {x : SD} {s : B} {o : List Nat} {now : Int} (hR : Right g x) (ho : KOrd (rws g) o 0#64) (hlt : ∀ n, n < g.names.length → x.at_.getD n 0 < now)
    {a b : Nat} (ha : has s a = true) (hal : a < g.names.length) (he : has (row (rws g) a) b = true) : (ran x s o now).getD b 0 < (ran x s o now).getD a 0 := by
  obtain ⟨i, hi, rfl⟩ := List.mem_iff_getElem.1 ((kord_mem ho).2 hal)
  have hb := ho.needs i hi b he
  have hbl : b < g.names.length := (kord_mem ho).1 (List.mem_of_mem_take hb)
  rw [ran_in hR ho hi ha]
  cases hsb : has s b
  · rw [ran_out hsb]
    have := hlt b hbl
    omega
  · obtain ⟨j, hj, rfl⟩ := List.mem_iff_getElem.1 hb
    rw [List.length_take] at hj
    rw [List.getElem_take] at hsb ⊢
    rw [ran_in hR ho (by omega) hsb]
    have := mrow_lt (s := s) (o := o) (i := i) (j := j) (by omega) (by omega) hsb
    omega
/-- what is right stays so -/
theorem ran_right {g : GD} {x : SD} {s : B} {o : List Nat} {now : Int} (hR : Right g x) (ho : KOrd (rws g) o 0#64) (h0 : 0 ≤ now) (h1 : now ≤ 1099511627776 - 64) : Right g ⟨ran x s o now, 0#64⟩ := by
  refine ⟨hR.good, by show (ran x s o now).length = _; rw [ran_len, hR.len], fun n hn => ?_, fun k hk => by (rw [show (SD.mk (ran x s o now) 0#64).dirty = 0#64 from rfl, has_zero] at hk; cases hk), fun n hn ht => ?_⟩
  · show -1 ≤ (ran x s o now).getD n 0 ∧ (ran x s o now).getD n 0 ≤ 1099511627776
    cases hsn : has s n
    · rw [ran_out hsn]; exact hR.range n hn
    · have := ran_ge (x := x) (s := s) (now := now) hR ho hn hsn; omega
  · have ht' : (ran x s o now).getD n 0 < 0 := ht
    cases hsn : has s n
    · rw [ran_out hsn] at ht'; exact hR.there n hn ht'
    · have := ran_ge (x := x) (s := s) (now := now) hR ho hn hsn; omega
/-- once it is made only what is phony is left, and what needs such -/
theorem build_done {g : GD} {x : SD} {s t : B} {o : List Nat} {now : Int} {r : List B} {ph : B} (hR : Right g x) (ho : KOrd (rws g) o 0#64) (h0 : 0 ≤ now) (hlt : ∀ n, n < g.names.length → x.at_.getD n 0 < now)
    (hs : Stale g x s) (ht : Stale g ⟨ran x s o now, 0#64⟩ t) (hr : ∀ a b, has (row (rws g) a) b = true → has (row r b) a = true) (hp : ∀ n, has g.phony n = true → has ph n = true) : t &&& ~~~cls r ph = 0#64 := by
  have key : ∀ i, i ≤ o.length → ∀ n ∈ o.take i, has t n = true → has (cls r ph) n = true := by
    intro i
    induction i with
    | zero => intro _ n hn; simp at hn
    | succ i ih =>
      intro hi n hn htn
      rw [List.take_succ_eq_append_getElem (by omega)] at hn
      rcases List.mem_append.1 hn with hn | hn
      · exact ih (by omega) n hn htn
      · have hne : n = o[i] := List.mem_singleton.1 hn
        obtain ⟨h1, h2, h3⟩ := (ht n).1 htn
        rcases h3 with h3 | h3 | ⟨k, h3, h4⟩
        · have h3' : (ran x s o now).getD n 0 < 0 := h3
          exfalso
          cases hsn : has s n
          · rw [ran_out hsn] at h3'
            have := (hs n).2 ⟨h1, h2, .inl h3'⟩
            rw [hsn] at this; cases this
          · have := ran_ge (x := x) (s := s) (now := now) hR ho h1 hsn; omega
        · exact cls_self (hp n h3)
        · rcases h4 with h4 | h4 | h4
          · rw [show (SD.mk (ran x s o now) 0#64).dirty = 0#64 from rfl, has_zero] at h4; cases h4
          · have hk := ho.needs i (by omega) k (by rw [← hne]; exact h3)
            exact cls_closed r ph k n (ih (by omega) k hk h4) (hr n k h3)
          · exfalso
            have h4' : (ran x s o now).getD n 0 < (ran x s o now).getD k 0 := h4
            cases hsn : has s n
            · cases hsk : has s k
              · rw [ran_out hsn, ran_out hsk] at h4'
                have := (hs n).2 ⟨h1, h2, .inr (.inr ⟨k, h3, .inr (.inr h4')⟩)⟩
                rw [hsn] at this; cases this
              · have := (hs n).2 ⟨h1, h2, .inr (.inr ⟨k, h3, .inr (.inl hsk)⟩)⟩
                rw [hsn] at this; cases this
            · have := ran_need (x := x) (s := s) (now := now) hR ho hlt hsn h1 h3
              omega
  refine eq_zero_iff.2 fun n => ?_
  rw [Bool.eq_false_iff]
  intro h
  rw [has_and, Bool.and_eq_true] at h
  have hn := ((ht n).1 h.1).1
  have := key o.length (Nat.le_refl _) n (by rw [List.take_length]; exact (kord_mem ho).2 hn) h.1
  rw [has_not _ _ (has_lt h.1), this] at h
  simp at h
end Go.Proofs.YteldeiihjeddoaaDoor
namespace Go.Proofs.YteldeiihjeddoaaDoor
open Go.RowKit Go.Shelf
set_option maxHeartbeats 400000 in
theorem late_ok (B : Nat) (t now : Int) (w : World) (hv : w.cell? ⟨B, 0, none⟩ = some (.int .i64 now)) :
    Calls Tryd.prog 58 #[.int .i64 t, .pointer (some ⟨B, 0, none⟩)] w fun e w' => e = .returned (.bool (decide (now ≤ t))) ∧ w = w' := by
  go_enter Tryd.func58, Tryd.ntmps58
  go_wp2
  go_ret
  exact ⟨rfl, rfl⟩
def LateTo (l : List Int) (now : Int) (k : Nat) : Prop := ∀ n, n < k → l.getD n 0 < now
theorem late_next {l : List Int} {now : Int} {k : Nat} (h : LateTo l now k) (hk : l.getD k 0 < now) : LateTo l now (k + 1) := fun n hn => by
  rcases Nat.lt_or_ge n k with h1 | h1
  · exact h n h1
  · obtain rfl : n = k := by omega
    exact hk
set_option maxHeartbeats 1000000 in
theorem indexLate_ok (B : Nat) (p : Option Addr) (n c b : Nat) (l : List Int) (now : Int) (w : World) (h : Reads w b 1 p n (iv l)) (hn : n ≤ 64) (hv : w.cell? ⟨B, 0, none⟩ = some (.int .i64 now)) :
    Calls Tryd.prog 78 #[.slice p n c, .func (.func 58) #[] #[.pointer (some ⟨B, 0, none⟩)]] w fun e w' => (∃ r : Int, e = .returned (.int .i64 r) ∧ ((r = -1 ∧ LateTo l now n) ∨ (0 ≤ r ∧ ¬ LateTo l now n))) ∧ w = w' := by
  have HN := Lib.hid h
  have HF := Lib.hid (fun t => late_ok B t now w hv)
  clear h hv
  go_enter Tryd.func78, Tryd.ntmps78
  go_wp2
  go_loop [8] (fun i => ∃ k : Nat, k ≤ n ∧ i = .int .i64 k ∧ Hid (LateTo l now k)) (fun i => n - (intOf i).toNat)
  case atStart => exact ⟨0, Nat.zero_le _, rfl, show LateTo l now 0 from fun n hn => by omega⟩
  case round =>
    obtain ⟨k, hk, rfl, HL⟩ := hrel
    by_cases hlt : k < n
    · obtain ⟨ad, rfl, _, hc⟩ := iv_at HN.out hlt
      have HLn := Lib.hid (late_next HL.out)
      have HLe : Hid (now ≤ l.getD k 0 → ¬ LateTo l now n) := by show _ → _; exact fun h hl => by have := hl k hlt; omega
      generalize l.getD k 0 = t at *
      by_cases ht : now ≤ t
      · have HD : Hid (decide (now ≤ t) = true) := decide_eq_true ht
        have HNO := Lib.hid (HLe.out ht)
        clear HLn HLe ht
        go_wp2_with (go_at_call 58; refine (HF.out t).mono ?_; rw [HD.out]; rintro e w' ⟨rfl, rfl⟩)
        go_ret
        exact ⟨⟨(k : Int), rfl, .inr ⟨by omega, HNO.out⟩⟩, rfl⟩
      · have HD : Hid (decide (now ≤ t) = false) := decide_eq_false ht
        have HNO := Lib.hid (HLn.out (by omega))
        clear HLn HLe ht
        go_wp2_with (go_at_call 58; refine (HF.out t).mono ?_; rw [HD.out]; rintro e w' ⟨rfl, rfl⟩)
        go_round
        case rel => exact ⟨k + 1, by omega, by go_num, HNO.out⟩
        case measure => simp [intOf]; omega
    · obtain rfl : k = n := by omega
      go_wp2
      go_ret
      exact ⟨⟨-1, rfl, .inl ⟨rfl, HL.out⟩⟩, rfl⟩
set_option maxHeartbeats 400000 in
theorem containsLate_ok (B : Nat) (p : Option Addr) (n c b : Nat) (l : List Int) (now : Int) (w : World) (h : Reads w b 1 p n (iv l)) (hn : n ≤ 64) (hv : w.cell? ⟨B, 0, none⟩ = some (.int .i64 now)) :
    Calls Tryd.prog 57 #[.slice p n c, .func (.func 58) #[] #[.pointer (some ⟨B, 0, none⟩)]] w fun e w' => (∃ v : Bool, e = .returned (.bool v) ∧ (v = false ↔ LateTo l now n)) ∧ w = w' := by
  have HX := Lib.hid (indexLate_ok B p n c b l now w h hn hv)
  clear h hv
  go_enter Tryd.func57, Tryd.ntmps57
  go_wp2_with (go_at_call 78; refine HX.out.mono ?_; rintro e w' ⟨⟨r, rfl, hr⟩, rfl⟩; have HR := Lib.hid hr; clear hr)
  go_ret
  refine ⟨⟨decide (0 ≤ r), rfl, ?_⟩, rfl⟩
  rcases HR.out with ⟨rfl, h⟩ | ⟨h, h2⟩
  · exact iff_of_true (by decide) h
  · exact iff_of_false (by rw [decide_eq_true h]; decide) h2
end Go.Proofs.YteldeiihjeddoaaDoor
namespace Go.Proofs.YteldeiihjeddoaaDoor
def swapE (x : E2) : E2 := (x.2, x.1)
theorem swap_swap (x : E2) : swapE (swapE x) = x := rfl
theorem elt_trans {a b c : E2} (h : elt a b) (g : elt b c) : elt a c := by unfold elt at *; omega
theorem elt_irr {a : E2} : ¬ elt a a := by unfold elt; omega
theorem elt_tri (a b : E2) : elt a b ∨ a = b ∨ elt b a := by
  obtain ⟨a1, a2⟩ := a
  obtain ⟨b1, b2⟩ := b
  unfold elt
  simp only [Prod.mk.injEq]
  omega
theorem erise_pair {es : List E2} : ERise es ↔ es.Pairwise elt := by
  rw [List.pairwise_iff_getElem]
  have hg : ∀ i (h : i < es.length), es.getD i (0, 0) = es[i] := fun i h => by rw [List.getD_eq_getElem?_getD, List.getElem?_eq_getElem h]; rfl
  constructor
  · intro h i j hi hj hij
    obtain ⟨d, rfl⟩ : ∃ d, j = i + d + 1 := ⟨j - i - 1, by omega⟩
    clear hij
    induction d with
    | zero =>
      have := h i hj
      rw [hg i hi, hg _ hj] at this
      exact this
    | succ d ih =>
      have h1 := ih (by omega)
      have h2 := h (i + d + 1) hj
      rw [hg _ (by omega), hg (i + d + 1 + 1) hj] at h2
      exact elt_trans h1 h2
  · intro h i hi
    rw [hg i (by omega), hg _ hi]
    exact h i (i + 1) (by omega) hi (by omega)
theorem erise_ext : ∀ {l m : List E2}, l.Pairwise elt → m.Pairwise elt → (∀ x, x ∈ l ↔ x ∈ m) → l = m
  | [], [], _, _, _ => rfl
  | [], y :: m, _, _, h => absurd ((h y).2 List.mem_cons_self) (by simp)
  | x :: l, [], _, _, h => absurd ((h x).1 List.mem_cons_self) (by simp)
  | x :: l, y :: m, hl, hm, h => by
    rw [List.pairwise_cons] at hl hm
    have hxy : x = y := by
      rcases List.mem_cons.1 ((h x).1 List.mem_cons_self) with e | e
      · exact e
      · rcases List.mem_cons.1 ((h y).2 List.mem_cons_self) with f | f
        · exact f.symm
        · exact absurd (elt_trans (hl.1 y f) (hm.1 x e)) elt_irr
    subst hxy
    have : l = m := erise_ext hl.2 hm.2 fun z => by
      constructor
      · intro hzl
        rcases List.mem_cons.1 ((h z).1 (List.mem_cons_of_mem _ hzl)) with e | e
        · subst e; exact absurd (hl.1 _ hzl) elt_irr
        · exact e
      · intro hzm
        rcases List.mem_cons.1 ((h z).2 (List.mem_cons_of_mem _ hzm)) with e | e
        · subst e; exact absurd (hm.1 _ hzm) elt_irr
        · exact e
    rw [this]
/-- the edges of a turned graph -/
structure TurnOf (es ts : List E2) : Prop where
  rise : ERise ts
  mem : ∀ x, x ∈ ts ↔ swapE x ∈ es
theorem mem_swap {es : List E2} {x : E2} : x ∈ es.map swapE ↔ swapE x ∈ es := by
  rw [List.mem_map]
  constructor
  · rintro ⟨y, hy, rfl⟩; exact hy
  · intro h; exact ⟨swapE x, h, rfl⟩
theorem turn_of {es ts : List E2} (he : ERise es) (hp : ts.Perm (es.map swapE)) (hs : ts.Pairwise fun a b => ¬ elt b a) : TurnOf es ts := by
  have hnd : ts.Nodup := by
    rw [hp.nodup_iff]
    rw [List.Nodup, List.pairwise_map]
    refine (erise_pair.1 he).imp fun {a b} h e => ?_
    have : a = b := by rw [← swap_swap a, e]; rfl
    subst this
    exact elt_irr h
  refine ⟨erise_pair.2 ?_, fun x => by rw [hp.mem_iff, mem_swap]⟩
  refine (hs.and hnd).imp fun {a b} h => ?_
  rcases elt_tri a b with h1 | h1 | h1
  · exact h1
  · exact absurd h1 h.2
  · exact absurd h1 h.1
theorem turn_twice {es ts us : List E2} (he : ERise es) (h1 : TurnOf es ts) (h2 : TurnOf ts us) : us = es :=
  erise_ext (erise_pair.1 h2.rise) (erise_pair.1 he) fun x => by rw [h2.mem, h1.mem, swap_swap]
end Go.Proofs.YteldeiihjeddoaaDoor
namespace Go.Proofs.YteldeiihjeddoaaDoor
open Go.Sort Go.Proofs Go.Shelf Go.RowKit
section
variable {α : Type} [Inhabited α] (f g : α → Value)
theorem flat2 (l : List α) : flatK (fun x => [f x, g x]) 2 l.toArray = (cells2 f g l).toArray := by
  apply Array.ext
  · simp [cells2_len]
  · intro t h1 h2
    have ht : t < l.length * 2 := by simpa using h1
    have hk : t / 2 < l.length := by omega
    obtain ⟨c1, c2⟩ := cells2_at f g (List.getElem?_eq_getElem hk)
    have e := get_flatK (fun x => [f x, g x]) 2 l.toArray t (by simpa using ht)
    rw [getElem!_pos _ t h1] at e
    rw [e]
    have e2 : l.toArray[t / 2]! = l[t / 2] := by simp [hk]
    rw [e2, List.getElem_toArray]
    have h3 : (cells2 f g l)[t]? = some (cells2 f g l)[t] := List.getElem?_eq_getElem (by rw [cells2_len]; exact ht)
    rcases Nat.mod_two_eq_zero_or_one t with h0 | h0
    · rw [show t / 2 * 2 = t by omega] at c1
      rw [c1] at h3
      injection h3 with h3
      rw [← h3, h0]; rfl
    · rw [show t / 2 * 2 + 1 = t by omega] at c2
      rw [c2] at h3
      injection h3 with h3
      rw [← h3, h0]; rfl
theorem holds2 {w : World} {b : Nat} {cur : Array Value} {e : TypeId} {ss : List α} (hb : w.heap[b]? = some (.cells cur e (0, 0))) (ht : cur.toList.take (ss.length * 2) = cells2 f g ss) :
    HoldsK (fun x => [f x, g x]) 2 w b 0 ss.toArray := by
  unfold HoldsK
  rw [flat2]
  exact holds_own (enc := id) hb (by rw [cells2_len, ht, List.map_id])
theorem grown2 {w : World} {b n : Nat} {os : Array Obj} (d : List α) : w.grownBy (sortWorldK (fun x => [f x, g x]) 2 w b 0 n d.toArray os) (some b) :=
  grown_sorted (enc := id) (n := n) (os := os) (flatK (fun x => [f x, g x]) 2 d.toArray)
theorem own2 {w : World} {base b cap n : Nat} {e : TypeId} {os : Array Obj} {cur : Array Value} {k : Nat} {ts : List α} (hl : ts.length = k) (hbase : base ≤ b) (hb : w.heap[b]? = some (.cells cur e (0, 0)))
    (h1 : k ≤ cap) (h2 : cap ≤ maxLen) (h3 : cur.size = cap * 2) :
    (sortWorldK (fun x => [f x, g x]) 2 w b 0 n ts.toArray os).ownsRow base e 2 (.slice (some ⟨b, 0, none⟩) k cap) k (cells2 f g ts) := by
  have hh := heap_sortedG (enc := id) (n := n) (os := os) (flatK (fun x => [f x, g x]) 2 ts.toArray) hb
  have ht := take_putG (enc := id) cur (cells2 f g ts) (by rw [cells2_len]; omega)
  rw [cells2_len, List.map_id, ← flat2] at ht
  exact ⟨by rw [cells2_len, hl], .inr ⟨b, cap, _, rfl, hbase, hh, h1, h2, by simp [putCells, h3], by rw [← hl]; exact ht⟩⟩
end
end Go.Proofs.YteldeiihjeddoaaDoor
