/- Texts joined: Rch, Kahn, KahnW, KnotW, StaleP. Conditions: theirs. -/
import Derived.Test.YteefncohknclcaaGreatDoorAskBoundLWM4
import Derived.Deep.LoopGhost
import Derived.Test.YteefncohknclcaaGreatDoorAskBoundLWM2
namespace Go.Proofs.YteefncohknclcaaGreatDoor
/-- from a one comes to b -/
inductive Rch (r : List B) : Nat → Nat → Prop
  | refl (a : Nat) : Rch r a a
  | tail {a b c : Nat} (h : Rch r a b) (e : has (row r b) c = true) : Rch r a c
theorem Rch.head {r : List B} {a b c : Nat} (e : has (row r a) b = true) (h : Rch r b c) : Rch r a c := by
  induction h with
  | refl => exact .tail (.refl a) e
  | tail _ e2 ih => exact .tail ih e2
theorem Rch.trans {r : List B} {a b c : Nat} (h : Rch r a b) (h2 : Rch r b c) : Rch r a c := by
  induction h2 with
  | refl => exact h
  | tail _ e ih => exact .tail ih e
theorem has_cls {r : List B} {s : B} {b : Nat} : has (cls r s) b = true ↔ ∃ a, has s a = true ∧ Rch r a b := by
  constructor
  · intro h
    have : ∀ i k, has (ball r i s) k = true → ∃ a, has s a = true ∧ Rch r a k := by
      intro i
      induction i with
      | zero => intro k hk; exact ⟨k, hk, .refl k⟩
      | succ i ih =>
        intro k hk
        rcases has_ball_succ.1 hk with hk | ⟨n, hn, hk⟩
        · exact ih k hk
        · obtain ⟨a, ha, hr⟩ := ih n hn
          exact ⟨a, ha, .tail hr hk⟩
    exact this 64 b h
  · rintro ⟨a, ha, hr⟩
    induction hr with
    | refl => exact cls_self ha
    | tail _ e ih => exact cls_closed r s _ _ ih e
theorem has_cls_one {r : List B} {a b : Nat} (ha : a < 64) : has (cls r (1#64 <<< a)) b = true ↔ Rch r a b := by
  rw [has_cls]
  constructor
  · rintro ⟨x, hx, h⟩
    rw [has_one a x (has_lt hx)] at hx
    have : x = a := by simpa using hx
    subst this; exact h
  · intro h; exact ⟨a, by rw [has_one a a ha]; simp, h⟩
theorem edge_bk {r : List B} (hv : Valid r) {a b : Nat} : has (row (bk r) b) a = true ↔ has (row r a) b = true := by
  rw [has_bk hv.1]
  exact ⟨fun h => h.2, fun h => ⟨hv.2 a b h, h⟩⟩
theorem valid_bk {r : List B} (hv : Valid r) : Valid (bk r) := by
  refine ⟨by rw [bk_len]; exact hv.1, fun i k h => ?_⟩
  rw [edge_bk hv] at h
  rw [bk_len]; exact row_lt h
theorem bk_bk {r : List B} (hv : Valid r) : bk (bk r) = r := by
  refine list_ext_row (by rw [bk_len, bk_len]) fun k _ => eq_of_iff fun a => ?_
  rw [edge_bk (valid_bk hv), edge_bk hv]
theorem rch_bk {r : List B} (hv : Valid r) {a b : Nat} : Rch (bk r) a b ↔ Rch r b a := by
  constructor
  · intro h
    induction h with
    | refl => exact .refl _
    | tail _ e ih => exact .head ((edge_bk hv).1 e) ih
  · intro h
    induction h with
    | refl => exact .refl _
    | tail _ e ih => exact .head ((edge_bk hv).2 e) ih
theorem chks_bits {r : List B} (hv : Valid r) {ss : List B} (h : ∀ s ∈ ss, ∀ k, has s k = true → k < r.length) : chks r ss = 0 := chks_zero.2 ⟨hv, h⟩
theorem chks_bit {r : List B} (hv : Valid r) {a : Nat} (ha : a < r.length) : chks r [1#64 <<< a] = 0 := chks_bits hv fun s hs k hk => by
  have : s = 1#64 <<< a := by simpa using hs
  subst this
  rw [has_one a k (has_lt hk)] at hk
  have : k = a := by simpa using hk
  omega
end Go.Proofs.YteefncohknclcaaGreatDoor
namespace Go.Proofs.YteefncohknclcaaGreatDoor
/-- the order as far as it has gone -/
structure KOrd (r : List B) (o : List Nat) (left : B) : Prop where
  nodup : o.Nodup
  lt : ∀ n ∈ o, n < r.length
  left_iff : ∀ k, has left k = true ↔ k < r.length ∧ k ∉ o
  needs : ∀ i (h : i < o.length) k, has (row r o[i]) k = true → k ∈ o.take i
/-- nobody of those left can be next -/
def Stuck (r : List B) (left : B) : Prop := ∀ n, has left n = true → ∃ k, has (row r n) k = true ∧ has left k = true
theorem kord_nil {r : List B} (h : r.length ≤ 64) : KOrd r [] (belowB r.length) :=
  ⟨List.nodup_nil, (fun n h => by cases h), (fun k => by
    rcases Nat.lt_or_ge k 64 with h1 | h1
    · rw [has_below _ _ h1]; simp
    · rw [has_ge h1]; simp; omega), (fun i h => by cases h)⟩
theorem kord_snoc {r : List B} (hv : Valid r) {o : List Nat} {left : B} (h : KOrd r o left) {n : Nat} (hn : has left n = true) (h0 : row r n &&& left = 0#64) : KOrd r (o ++ [n]) (left &&& ~~~(1#64 <<< n)) := by
  obtain ⟨hl, ho⟩ := (h.left_iff n).1 hn
  refine ⟨?_, ?_, ?_, ?_⟩
  · rw [List.nodup_append]
    refine ⟨h.nodup, by simp, fun a ha b hb => ?_⟩
    have : b = n := by simpa using hb
    subst this
    intro e; subst e; exact ho ha
  · intro m hm
    rcases List.mem_append.1 hm with hm | hm
    · exact h.lt m hm
    · have : m = n := by simpa using hm
      subst this; exact hl
  · intro k
    rw [has_and, Bool.and_eq_true]
    rcases Nat.lt_or_ge k 64 with h1 | h1
    · rw [has_not _ _ h1, has_one n k h1, h.left_iff k, List.mem_append]
      simp only [Bool.not_eq_true', decide_eq_false_iff_not, List.mem_singleton, not_or]
      exact ⟨fun ⟨⟨a, b⟩, c⟩ => ⟨a, b, c⟩, fun ⟨a, b, c⟩ => ⟨⟨a, b⟩, c⟩⟩
    · rw [has_ge h1]
      constructor
      · rintro ⟨h2, _⟩; cases h2
      · rintro ⟨h2, _⟩; have := hv.1; omega
  · intro i hi k hk
    rw [List.length_append] at hi
    rcases Nat.lt_or_ge i o.length with h1 | h1
    · rw [List.getElem_append_left h1] at hk
      rw [List.take_append_of_le_length (by omega)]
      exact h.needs i h1 k hk
    · have hie : i = o.length := by simp at hi; omega
      subst hie
      have hk' : has (row r n) k = true := by simpa using hk
      have hnl : has left k ≠ true := fun hc => by
        have := eq_zero_iff.1 h0 k
        rw [has_and, hk', hc] at this; cases this
      have hko : k ∈ o := by
        by_cases hc : k ∈ o
        · exact hc
        · exact absurd ((h.left_iff k).2 ⟨hv.2 n k hk', hc⟩) hnl
      rw [List.take_left]; exact hko
theorem clear_lt {l : B} {n : Nat} (h : has l n = true) : un (l &&& ~~~(1#64 <<< n)) < un l := by
  have h1 : un (l &&& ~~~(1#64 <<< n)) ≤ un l := by unfold un; rw [BitVec.toNat_and]; exact Nat.and_le_left
  rcases Nat.lt_or_ge (un (l &&& ~~~(1#64 <<< n))) (un l) with h2 | h2
  · exact h2
  · have h3 : l &&& ~~~(1#64 <<< n) = l := un_inj (by omega)
    have h4 : has (l &&& ~~~(1#64 <<< n)) n = has l n := by rw [h3]
    rw [has_and, has_not _ _ (has_lt h), has_one n n (has_lt h), h] at h4
    simp at h4
/-- a set in which each needs another one of it is never touched -/
theorem kord_keeps {r : List B} {o : List Nat} {left : B} (h : KOrd r o left) {X : Nat → Prop} (hX : ∀ n, X n → ∃ k, X k ∧ has (row r n) k = true) {n : Nat} (hn : X n) : n ∉ o := by
  have key : ∀ i, ∀ j, j ≤ i → ∀ (hj : j < o.length), ¬ X o[j] := by
    intro i
    induction i with
    | zero =>
      intro j hj hjl hx
      obtain ⟨k, _, hk⟩ := hX _ hx
      have := h.needs j hjl k hk
      have hj0 : j = 0 := by omega
      subst hj0
      simp at this
    | succ i ih =>
      intro j hj hjl hx
      obtain ⟨k, hxk, hk⟩ := hX _ hx
      have hm := h.needs j hjl k hk
      obtain ⟨m, hm1, hm2⟩ := List.mem_iff_getElem.1 hm
      rw [List.length_take] at hm1
      rw [List.getElem_take] at hm2
      exact ih m (by omega) (by omega) (by rw [hm2]; exact hxk)
  intro hmem
  obtain ⟨j, hj, he⟩ := List.mem_iff_getElem.1 hmem
  exact key j j (Nat.le_refl _) hj (by rw [he]; exact hn)
theorem stuck_sub {r : List B} {o : List Nat} {l l2 : B} (h : KOrd r o l) (hs : Stuck r l2) {n : Nat} (hn : has l2 n = true) : has l n = true := by
  obtain ⟨k, hk, _⟩ := hs n hn
  refine (h.left_iff n).2 ⟨row_lt hk, kord_keeps h (X := fun m => has l2 m = true) (fun m hm => ?_) hn⟩
  obtain ⟨q, h1, h2⟩ := hs m hm
  exact ⟨q, h2, h1⟩
theorem stuck_zero_iff {r : List B} {o o2 : List Nat} {l l2 : B} (h : KOrd r o l) (hs : Stuck r l) (h2 : KOrd r o2 l2) (hs2 : Stuck r l2) : l = 0#64 ↔ l2 = 0#64 := by
  constructor
  · intro h0
    rw [eq_zero_iff] at h0 ⊢
    intro n
    by_cases hn : has l2 n = true
    · have := stuck_sub h hs2 hn
      rw [h0] at this; cases this
    · simpa using hn
  · intro h0
    rw [eq_zero_iff] at h0 ⊢
    intro n
    by_cases hn : has l n = true
    · have := stuck_sub h2 hs hn
      rw [h0] at this; cases this
    · simpa using hn
theorem kord_len {r : List B} (hv : Valid r) {o : List Nat} {l : B} (h : KOrd r o l) : o.length ≤ 64 := by
  have h1 : o.length ≤ (List.range r.length).length := List.Nodup.length_le_of_subset h.nodup (fun n hn => List.mem_range.2 (h.lt n hn))
  have := hv.1
  simp at h1; omega
theorem kord_all {r : List B} {o : List Nat} (h : KOrd r o 0#64) : o.length = r.length := by
  have h1 : o.length ≤ (List.range r.length).length := List.Nodup.length_le_of_subset h.nodup (fun n hn => List.mem_range.2 (h.lt n hn))
  have h2 : (List.range r.length).length ≤ o.length := List.Nodup.length_le_of_subset List.nodup_range (fun n hn => by
    by_cases hc : n ∈ o
    · exact hc
    · have := (h.left_iff n).2 ⟨List.mem_range.1 hn, hc⟩
      rw [has_zero] at this; cases this)
  simp at h1 h2; omega
end Go.Proofs.YteefncohknclcaaGreatDoor
namespace Go.Proofs.YteefncohknclcaaGreatDoor
open Go.RowKit
end Go.Proofs.YteefncohknclcaaGreatDoor
namespace Go.Proofs.YteefncohknclcaaGreatDoor
open Go.RowKit
/-- where a number first stands in a list, or -1 -/
def firstAt (xs : List Nat) (x : Nat) : Int := if x ∈ xs then (xs.idxOf x : Int) else -1
theorem firstAt_hit {xs : List Nat} {x k : Nat} (hk : k < xs.length) (hx : xs[k] = x) (hno : x ∉ xs.take k) : firstAt xs x = (k : Int) := by
  have hm : x ∈ xs := by rw [← hx]; exact List.getElem_mem hk
  unfold firstAt
  rw [if_pos hm]
  have h1 : xs.idxOf x = k := by
    clear hm
    induction xs generalizing k with
    | nil => simp at hk
    | cons y ys ih =>
      cases k with
      | zero => simp at hx; subst hx; simp
      | succ k =>
        simp at hk hx hno
        have h2 := ih hk hx hno.2
        have h3 : (y == x) = false := by simp only [beq_eq_false_iff_ne, ne_eq]; exact fun h => hno.1 h.symm
        rw [List.idxOf_cons, h3, h2]
        simp
  rw [h1]
def isIn (xs : List Nat) (x : Nat) : Bool := decide (x ∈ xs)
theorem firstAt_sign (xs : List Nat) (x : Nat) : decide (0 ≤ firstAt xs x) = isIn xs x := by
  unfold firstAt isIn
  by_cases h : x ∈ xs <;> simp [h]
/-- what Order answers of right rows -/
def OrderPost (r : List B) (w : World) (e : Ending) (w' : World) : Prop :=
  (∃ (o : List Nat) (g : Option Addr) (cg : Nat), e = .returned (.tuple #[.slice g o.length cg, .int .i64 0]) ∧ KOrd r o 0#64 ∧ Stuck r 0#64 ∧ w'.ownsRow w.heap.size 3 1 (.slice g o.length cg) o.length (ints o) ∧ Below w.heap.size w w') ∨
  (∃ (o : List Nat) (left : B), e = .returned (.tuple #[.slice none 0 0, .int .i64 8]) ∧ left ≠ 0#64 ∧ KOrd r o left ∧ Stuck r left ∧ Below w.heap.size w w')
theorem knots_rows : chkR [2#64, 0#64] = 0 := by decide +kernel
theorem knots_order {o : List Nat} {left : B} (h : KOrd [2#64, 0#64] o left) (hs : Stuck [2#64, 0#64] left) : o = [1, 0] ∧ left = 0#64 := by
  have row0 : ∀ k, has (row [2#64, 0#64] 0) k = true → k = 1 := by
    intro k hk
    have hlt := has_lt hk
    revert hk; revert hlt; revert k
    decide +kernel
  have row1 : ∀ n k, 1 ≤ n → has (row [2#64, 0#64] n) k = true → False := by
    intro n k hn hk
    have := row_lt hk
    have hn1 : n = 1 := by simp at this; omega
    subst hn1
    have hlt := has_lt hk
    revert hk; revert hlt; revert k
    decide +kernel
  have hl0 : ∀ n, has left n = true → False := by
    intro n hn
    obtain ⟨k, h1, h2⟩ := hs n hn
    rcases Nat.lt_or_ge n 1 with h3 | h3
    · have hn0 : n = 0 := by omega
      subst hn0
      have hk1 := row0 k h1
      subst hk1
      obtain ⟨j, h4, _⟩ := hs 1 h2
      exact row1 1 j (by omega) h4
    · exact row1 n k h3 h1
  have hleft : left = 0#64 := eq_zero_iff.2 fun n => by
    by_cases hn : has left n = true
    · exact absurd (hl0 n hn) id
    · simpa using hn
  subst hleft
  have hlen := kord_all h
  simp at hlen
  refine ⟨?_, rfl⟩
  match o, hlen, h with
  | [a, b], _, h =>
    have ha := h.lt a (by simp)
    have hb := h.lt b (by simp)
    have hne : a ≠ b := by have := h.nodup; simp at this; exact this
    simp at ha hb
    have h01 : has (row [2#64, 0#64] 0) 1 = true := by decide +kernel
    rcases (show a = 0 ∨ a = 1 by omega) with rfl | rfl
    · have := h.needs 0 (by simp) 1 h01
      simp at this
    · have : b = 0 := by omega
      subst this; rfl
end Go.Proofs.YteefncohknclcaaGreatDoor
namespace Go.Proofs.YteefncohknclcaaGreatDoor
open Go.RowKit
/-- what is seen of a graph -/
structure SD where
  at_ : List Int
  dirty : B
def iv (l : List Int) : List Value := l.map (Value.int .i64)
/-- it as the call can read it -/
structure SnAt (w : World) (v : Value) (x : SD) : Prop where
  at_ : ∃ (p : Option Addr) (n c : Nat), v = .agg #[.slice p n c, .int .u64 (un x.dirty : Int)] ∧ x.at_.length = n ∧ Reads w w.heap.size 1 p n (iv x.at_) ∧ n ≤ 17592186044416
theorem SnAt.below {w w' : World} {v : Value} {x : SD} (h : SnAt w v x) (hb : Below w.heap.size w w') : SnAt w' v x := by
  obtain ⟨p, n, c, h1, h2, h3, h4⟩ := h.at_
  exact ⟨p, n, c, h1, h2, (h3.below hb).more hb.size, h4⟩
theorem iv_at {w : World} {b n : Nat} {p : Option Addr} {l : List Int} (h : Reads w b 1 p n (iv l)) {k : Nat} (hk : k < n) : ∃ ad, p = some ad ∧ ad.block < b ∧ w.cell? (ad.add k) = some (.int .i64 (l.getD k 0)) := by
  obtain ⟨ad, u, rfl, hb, hu, hc⟩ := h.at_ hk
  refine ⟨ad, rfl, hb, ?_⟩
  have hl : k < l.length := by have := h.1; simp [iv] at this; omega
  rw [hc, ← hu]
  unfold iv
  rw [List.getElem?_map, List.getD_eq_getElem?_getD, List.getElem?_eq_getElem hl]
  rfl
def rws (g : GD) : List B := rowsE g.names.length g.edges
theorem rws_len (g : GD) : (rws g).length = g.names.length := rowsE_len _ _
theorem row_rws {g : GD} {a : Nat} (h : a < g.names.length) : row (rws g) a = rowE g.edges a := rowsE_get _ h
theorem has_rws {g : GD} (hg : Good g) {a b : Nat} : has (row (rws g) a) b = true ↔ ((a : Int), (b : Int)) ∈ g.edges := by
  constructor
  · intro h
    have ha : a < g.names.length := by have := row_lt h; rwa [rws_len] at this
    have hb := has_lt h
    rw [row_rws ha, has_rowE hb (fun x hx => ⟨(hg.edges x hx).2.2.1, by have := (hg.edges x hx).2.2.2; have := hg.names; omega⟩)] at h
    exact of_decide_eq_true h
  · intro h
    have h1 := hg.edges _ h
    have ha : a < g.names.length := by have := h1.2.1; simp only at this; omega
    have hb : b < 64 := by have := h1.2.2.2; have := hg.names; simp only at *; omega
    rw [row_rws ha, has_rowE hb (fun x hx => ⟨(hg.edges x hx).2.2.1, by have := (hg.edges x hx).2.2.2; have := hg.names; omega⟩)]
    exact decide_eq_true h
theorem valid_rws {g : GD} (hg : Good g) : Valid (rws g) := by
  refine ⟨by rw [rws_len]; exact hg.names, fun i k h => ?_⟩
  rw [rws_len]
  have := hg.edges _ ((has_rws hg).1 h)
  have := this.2.2.2
  simp only at this
  omega
/-- why a number is stale, where s tells of the others -/
def Why (g : GD) (x : SD) (s : B) (n : Nat) : Prop :=
  x.at_.getD n 0 < 0 ∨ has g.phony n = true ∨ ∃ k, has (row (rws g) n) k = true ∧ (has x.dirty k = true ∨ has s k = true ∨ x.at_.getD n 0 < x.at_.getD k 0)
/-- the stale numbers -/
def Stale (g : GD) (x : SD) (s : B) : Prop := ∀ n, has s n = true ↔ n < g.names.length ∧ has (g.made ||| g.phony) n = true ∧ Why g x s n
/-- what stale.check lets pass -/
structure Right (g : GD) (x : SD) : Prop where
  good : Good g
  len : x.at_.length = g.names.length
  range : ∀ n, n < g.names.length → -1 ≤ x.at_.getD n 0 ∧ x.at_.getD n 0 ≤ 1099511627776
  dirty : ∀ k, has x.dirty k = true → k < g.names.length
  there : ∀ n, n < g.names.length → x.at_.getD n 0 < 0 → has (g.made ||| g.phony) n = true
/-- right, and without a cycle -/
def Fit (g : GD) (x : SD) : Prop := Right g x ∧ ∃ o, KOrd (rws g) o 0#64
/-- along an order, one more dirty set makes no less stale -/
theorem stale_more {g : GD} {x y : SD} {s t : B} {o : List Nat} (ho : KOrd (rws g) o 0#64) (hat : x.at_ = y.at_) (hd : ∀ k, has x.dirty k = true → has y.dirty k = true) (hs : Stale g x s) (ht : Stale g y t) : s &&& ~~~t = 0#64 := by
  have key : ∀ i, i ≤ o.length → ∀ n ∈ o.take i, has s n = true → has t n = true := by
    intro i
    induction i with
    | zero => intro _ n hn; simp at hn
    | succ i ih =>
      intro hi n hn hsn
      rw [List.take_succ_eq_append_getElem (by omega)] at hn
      rcases List.mem_append.1 hn with hn | hn
      · exact ih (by omega) n hn hsn
      · have hne : n = o[i] := List.mem_singleton.1 hn
        obtain ⟨h1, h2, h3⟩ := (hs n).1 hsn
        refine (ht n).2 ⟨h1, h2, ?_⟩
        rcases h3 with h3 | h3 | ⟨k, h3, h4⟩
        · exact .inl (by rw [← hat]; exact h3)
        · exact .inr (.inl h3)
        · refine .inr (.inr ⟨k, h3, ?_⟩)
          rcases h4 with h4 | h4 | h4
          · exact .inl (hd k h4)
          · have hk := ho.needs i (by omega) k (by rw [← hne]; exact h3)
            exact .inr (.inl (ih (by omega) k hk h4))
          · exact .inr (.inr (by rw [← hat]; exact h4))
  refine eq_zero_iff.2 fun n => ?_
  rw [Bool.eq_false_iff]
  intro h
  have hn := has_lt h
  rw [has_and, has_not _ _ hn, Bool.and_eq_true] at h
  have hlt := ((hs n).1 h.1).1
  have hmem : n ∈ o := by
    have hiff := ho.left_iff n
    rw [has_zero, rws_len] at hiff
    by_cases hm : n ∈ o
    · exact hm
    · exact absurd (hiff.2 ⟨hlt, hm⟩) (by simp)
  have := key o.length (Nat.le_refl _) n (by rw [List.take_length]; exact hmem) h.1
  rw [this] at h
  simp at h
end Go.Proofs.YteefncohknclcaaGreatDoor
