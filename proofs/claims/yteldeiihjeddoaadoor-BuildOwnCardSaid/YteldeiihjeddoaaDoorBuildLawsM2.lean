/- Texts joined: Kahn, KahnW, KnotW, StaleP, StaleCheckW. Conditions: theirs. -/
import Derived.Test.YteldeiihjeddoaaDoorBuildLawsM1
import Derived.Deep.LoopGhost
import Derived.Test.YteldeiihjeddoaaDoorGraphRowsW
namespace Go.Proofs.YteldeiihjeddoaaDoor
/-- the order as far as it has gone -/
structure KOrd (r : List B) (o : List Nat) (left : B) : Prop where
  nodup : o.Nodup
  lt : ∀ n ∈ o, n < r.length
  left_iff : ∀ k, has left k = true ↔ k < r.length ∧ k ∉ o
  needs : ∀ i (h : i < o.length) k, has (row r o[i]) k = true → k ∈ o.take i
/-- nobody of those left can be next -/
def Stuck (r : List B) (left : B) : Prop := ∀ n, has left n = true → ∃ k, has (row r n) k = true ∧ has left k = true
theorem kord_nil {r : List B} (h : r.length ≤ 64) : KOrd r [] (belowB r.length) :=
  ⟨List.nodup_nil, (fun n h => by cases h), (fun k => by
    rcases Nat.lt_or_ge k 64 with h1 | h1
    · rw [has_below _ _ h1]; simp
    · rw [has_ge h1]; simp; omega), (fun i h => by cases h)⟩
theorem kord_snoc {r : List B} (hv : Valid r) {o : List Nat} {left : B} (h : KOrd r o left) {n : Nat} (hn : has left n = true) (h0 : row r n &&& left = 0#64) : KOrd r (o ++ [n]) (left &&& ~~~(1#64 <<< n)) := by
  obtain ⟨hl, ho⟩ := (h.left_iff n).1 hn
  refine ⟨?_, ?_, ?_, ?_⟩
  · rw [List.nodup_append]
    refine ⟨h.nodup, by simp, fun a ha b hb => ?_⟩
    have : b = n := by simpa using hb
    subst this
    intro e; subst e; exact ho ha
  · intro m hm
    rcases List.mem_append.1 hm with hm | hm
    · exact h.lt m hm
    · have : m = n := by simpa using hm
      subst this; exact hl
  · intro k
    rw [has_and, Bool.and_eq_true]
    rcases Nat.lt_or_ge k 64 with h1 | h1
    · rw [has_not _ _ h1, has_one n k h1, h.left_iff k, List.mem_append]
      simp only [Bool.not_eq_true', decide_eq_false_iff_not, List.mem_singleton, not_or]
      exact ⟨fun ⟨⟨a, b⟩, c⟩ => ⟨a, b, c⟩, fun ⟨a, b, c⟩ => ⟨⟨a, b⟩, c⟩⟩
    · rw [has_ge h1]
      constructor
      · rintro ⟨h2, _⟩; cases h2
      · rintro ⟨h2, _⟩; have := hv.1; omega
  · intro i hi k hk
    rw [List.length_append] at hi
    rcases Nat.lt_or_ge i o.length with h1 | h1
    · rw [List.getElem_append_left h1] at hk
      rw [List.take_append_of_le_length (by omega)]
      exact h.needs i h1 k hk
    · have hie : i = o.length := by simp at hi; omega
      subst hie
      have hk' : has (row r n) k = true := by simpa using hk
      have hnl : has left k ≠ true := fun hc => by
        have := eq_zero_iff.1 h0 k
        rw [has_and, hk', hc] at this; cases this
      have hko : k ∈ o := by
        by_cases hc : k ∈ o
        · exact hc
        · exact absurd ((h.left_iff k).2 ⟨hv.2 n k hk', hc⟩) hnl
      rw [List.take_left]; exact hko
theorem clear_lt {l : B} {n : Nat} (h : has l n = true) : un (l &&& ~~~(1#64 <<< n)) < un l := by
  have h1 : un (l &&& ~~~(1#64 <<< n)) ≤ un l := by unfold un; rw [BitVec.toNat_and]; exact Nat.and_le_left
  rcases Nat.lt_or_ge (un (l &&& ~~~(1#64 <<< n))) (un l) with h2 | h2
  · exact h2
  · have h3 : l &&& ~~~(1#64 <<< n) = l := un_inj (by omega)
    have h4 : has (l &&& ~~~(1#64 <<< n)) n = has l n := by rw [h3]
    rw [has_and, has_not _ _ (has_lt h), has_one n n (has_lt h), h] at h4
    simp at h4
/-- a set in which each needs another one of it is never touched -/
theorem kord_keeps {r : List B} {o : List Nat} {left : B} (h : KOrd r o left) {X : Nat → Prop} (hX : ∀ n, X n → ∃ k, X k ∧ has (row r n) k = true) {n : Nat} (hn : X n) : n ∉ o := by
  have key : ∀ i, ∀ j, j ≤ i → ∀ (hj : j < o.length), ¬ X o[j] := by
    intro i
    induction i with
    | zero =>
      intro j hj hjl hx
      obtain ⟨k, _, hk⟩ := hX _ hx
      have := h.needs j hjl k hk
      have hj0 : j = 0 := by omega
      subst hj0
      simp at this
    | succ i ih =>
      intro j hj hjl hx
      obtain ⟨k, hxk, hk⟩ := hX _ hx
      have hm := h.needs j hjl k hk
      obtain ⟨m, hm1, hm2⟩ := List.mem_iff_getElem.1 hm
      rw [List.length_take] at hm1
      rw [List.getElem_take] at hm2
      exact ih m (by omega) (by omega) (by rw [hm2]; exact hxk)
  intro hmem
  obtain ⟨j, hj, he⟩ := List.mem_iff_getElem.1 hmem
  exact key j j (Nat.le_refl _) hj (by rw [he]; exact hn)
theorem stuck_sub {r : List B} {o : List Nat} {l l2 : B} (h : KOrd r o l) (hs : Stuck r l2) {n : Nat} (hn : has l2 n = true) : has l n = true := by
  obtain ⟨k, hk, _⟩ := hs n hn
  refine (h.left_iff n).2 ⟨row_lt hk, kord_keeps h (X := fun m => has l2 m = true) (fun m hm => ?_) hn⟩
  obtain ⟨q, h1, h2⟩ := hs m hm
  exact ⟨q, h2, h1⟩
theorem stuck_zero_iff {r : List B} {o o2 : List Nat} {l l2 : B} (h : KOrd r o l) (hs : Stuck r l) (h2 : KOrd r o2 l2) (hs2 : Stuck r l2) : l = 0#64 ↔ l2 = 0#64 := by
  constructor
  · intro h0
    rw [eq_zero_iff] at h0 ⊢
    intro n
    by_cases hn : has l2 n = true
    · have := stuck_sub h hs2 hn
      rw [h0] at this; cases this
    · simpa using hn
  · intro h0
    rw [eq_zero_iff] at h0 ⊢
    intro n
    by_cases hn : has l n = true
    · have := stuck_sub h2 hs hn
      rw [h0] at this; cases this
    · simpa using hn
theorem kord_len {r : List B} (hv : Valid r) {o : List Nat} {l : B} (h : KOrd r o l) : o.length ≤ 64 := by
  have h1 : o.length ≤ (List.range r.length).length := List.Nodup.length_le_of_subset h.nodup (fun n hn => List.mem_range.2 (h.lt n hn))
  have := hv.1
  simp at h1; omega
theorem kord_all {r : List B} {o : List Nat} (h : KOrd r o 0#64) : o.length = r.length := by
  have h1 : o.length ≤ (List.range r.length).length := List.Nodup.length_le_of_subset h.nodup (fun n hn => List.mem_range.2 (h.lt n hn))
  have h2 : (List.range r.length).length ≤ o.length := List.Nodup.length_le_of_subset List.nodup_range (fun n hn => by
    by_cases hc : n ∈ o
    · exact hc
    · have := (h.left_iff n).2 ⟨List.mem_range.1 hn, hc⟩
      rw [has_zero] at this; cases this)
  simp at h1 h2; omega
end Go.Proofs.YteldeiihjeddoaaDoor
namespace Go.Proofs.YteldeiihjeddoaaDoor
open Go.RowKit
set_option maxRecDepth 100000 in
set_option maxHeartbeats 4000000 in
theorem order_ok (p : Option Addr) (n c : Nat) (r : List B) (hv : Valid r) (w : World) (hR : RowsAt w p n r) (hT : Tab w) :
    Calls Tryd.prog 79 #[.slice p n c] w
      fun e w' => ∃ (o : List Nat) (left : B) (g : Option Addr) (cg : Nat), e = .returned (.tuple #[.slice g o.length cg, .int .u64 (un left)]) ∧ KOrd r o left ∧ Stuck r left ∧ w'.ownsRow w.heap.size 3 1 (.slice g o.length cg) o.length (ints o) ∧ Below w.heap.size w w' := by
  have hl := hR.len
  subst hl
  have hbig := hR.big
  unfold maxLen at hbig
  have h64 := hv.1
  have HV := Lib.hid hv
  clear hv
  go_enter Tryd.func79, Tryd.ntmps79
  go_wp2_with (go_at_call 19; refine (Below_ok _ h64 _).mono ?_; rintro e w' ⟨rfl, rfl⟩)
  go_loopw [4, 6] (fun l v wr => ∃ (o : List Nat) (left : B), l = .int .u64 (un left) ∧ Hid (KOrd r o left) ∧ wr.ownsRow w.heap.size 3 1 v o.length (ints o) ∧ Below w.heap.size w wr) (fun l _ _ => (intOf l).toNat)
  case atStart => exact ⟨[], _, rfl, kord_nil h64, World.ownsRow_nil _ _ _ _, Below.refl _ _⟩
  case round =>
    obtain ⟨o, left, rfl, HO, hown, hbr⟩ := hrel
    obtain ⟨wo, rfl⟩ : ∃ wo : World, wo = wr := ⟨_, rfl⟩
    have hRr := hR.below hbr
    have hTr := hT.below hbr
    have hszr := hbr.size
    go_wp2_with (go_at_call 77; refine (Next_ok _ _ _ hTr).mono ?_; rw [nextV_parts]; rintro e w' ⟨rfl, rfl⟩)
    go_loop [7, 8, 9] (fun i x b => ∃ (m : Nat), m ≤ 64 ∧ i = .int .i64 (-1) ∧ x = .int .i64 (nextI left m) ∧ b = .bool (nextB left m) ∧ Hid (∀ k, k < m → has left k = true → row r k &&& left ≠ 0#64)) (fun _ x b => muIs x b)
    case atStart => exact ⟨0, by omega, rfl, rfl, rfl, show ∀ k, _ from fun k hk => absurd hk (by omega)⟩
    case round =>
      obtain ⟨m, hm, rfl, rfl, rfl, HM⟩ := hrel
      cases hnb : nextB left m
      · -- nobody can be next
        have hst : Stuck r left := by
          intro a ha
          have hne : row r a &&& left ≠ 0#64 := by
            rcases Nat.lt_or_ge a m with h1 | h1
            · exact HM.out a h1 ha
            · rw [next_false hnb a h1] at ha; cases ha
          obtain ⟨k, hk⟩ := exists_of_ne hne
          rw [has_and, Bool.and_eq_true] at hk
          exact ⟨k, hk⟩
        have HS := Lib.hid hst
        obtain ⟨g, cg, rfl, _⟩ := own_form hown
        clear hst HM hnb hRr hR
        go_wp2
        go_ret2
        exact ⟨o, left, g, cg, rfl, HO.out, HS.out, hown, hbr⟩
      · obtain ⟨j, hj, hmj, hj64, hsj, hno⟩ := next_true hnb
        have hjr : j < r.length := ((HO.out.left_iff j).1 hsj).1
        obtain ⟨ad, rfl, hb, hc⟩ := hRr.cell hjr
        rw [hj]
        have hol : o.length ≤ 64 := kord_len HV.out HO.out
        by_cases hz : row r j &&& left = 0#64
        · have e0 : (un (row r j &&& left) : Int) = 0 := un_zero_int hz
          have HN := Lib.hid (kord_snoc HV.out HO.out hsj hz)
          have HC := Lib.hid (clear_lt hsj)
          obtain ⟨g, cg, rfl, hfb⟩ := own_form hown
          have HIS : Hid (ints (o ++ [j]) = ints o ++ [.int .i64 (j : Int)]) := ints_snoc o j
          have HBR := Lib.hid hbr
          have HOW := Lib.hid hown
          have HFB := Lib.hid hfb
          clear hz HM hno hsj hb hRr hR hnb hj hown hbr hfb
          generalize row r j = x at *
          go_wp2_with (at_builtin; refine app_int _ rfl _ _ rfl w.heap.size _ o.length _ rfl (HOW.out.alloc _) wo.heap.size (.int .i64 (j : Int)) rfl rfl ?c1 (by omega) ?c2 ?_; rotate_right; intro v' w2 hown2 hgrow2)
          case c2 => omega
          case roundEnd =>
            rw [← HIS.out] at hown2
            have hb2 : Below w.heap.size w w2 := (HBR.out.alloc hszr _).grown hgrow2 (by simp; omega) (fun k hk => (HFB.out k hk).1)
            refine ⟨⟨o ++ [j], _, rfl, HN.out, by simpa using hown2, hb2⟩, ?_⟩
            have := HC.out
            simp [intOf]; omega
        · have e0 := un_ne0 hz
          have HN : Hid (∀ k, k < j + 1 → has left k = true → row r k &&& left ≠ 0#64) := by
            show ∀ k, _
            intro k hk hlk
            rcases Nat.lt_or_ge k m with h1 | h1
            · exact HM.out k h1 hlk
            · rcases Nat.lt_or_ge k j with h2 | h2
              · rw [hno k h1 h2] at hlk; cases hlk
              · have : k = j := by omega
                subst this; exact hz
          have HMU := Lib.hid (mu_next left j hj64)
          have HE : Hid (((j : Int) + 1).toNat = j + 1) := by show ((j : Int) + 1).toNat = j + 1; omega
          clear hz HM hno hsj hb hRr hR hnb hj
          generalize row r j = x at *
          go_wp2_with (go_at_call 77; refine (Next_ok _ _ _ hTr).mono ?_; rw [HE.out, nextV_parts]; rintro e w' ⟨rfl, rfl⟩)
          go_round
          case rel => exact ⟨j + 1, by omega, rfl, rfl, rfl, HN.out⟩
          case measure => exact HMU.out
end Go.Proofs.YteldeiihjeddoaaDoor
namespace Go.Proofs.YteldeiihjeddoaaDoor
open Go.RowKit
/-- where a number first stands in a list, or -1 -/
def firstAt (xs : List Nat) (x : Nat) : Int := if x ∈ xs then (xs.idxOf x : Int) else -1
theorem firstAt_hit {xs : List Nat} {x k : Nat} (hk : k < xs.length) (hx : xs[k] = x) (hno : x ∉ xs.take k) : firstAt xs x = (k : Int) := by
  have hm : x ∈ xs := by rw [← hx]; exact List.getElem_mem hk
  unfold firstAt
  rw [if_pos hm]
  have h1 : xs.idxOf x = k := by
    clear hm
    induction xs generalizing k with
    | nil => simp at hk
    | cons y ys ih =>
      cases k with
      | zero => simp at hx; subst hx; simp
      | succ k =>
        simp at hk hx hno
        have h2 := ih hk hx hno.2
        have h3 : (y == x) = false := by simp only [beq_eq_false_iff_ne, ne_eq]; exact fun h => hno.1 h.symm
        rw [List.idxOf_cons, h3, h2]
        simp
  rw [h1]
def isIn (xs : List Nat) (x : Nat) : Bool := decide (x ∈ xs)
theorem firstAt_sign (xs : List Nat) (x : Nat) : decide (0 ≤ firstAt xs x) = isIn xs x := by
  unfold firstAt isIn
  by_cases h : x ∈ xs <;> simp [h]
/-- what Order answers of right rows -/
def OrderPost (r : List B) (w : World) (e : Ending) (w' : World) : Prop :=
  (∃ (o : List Nat) (g : Option Addr) (cg : Nat), e = .returned (.tuple #[.slice g o.length cg, .int .i64 0]) ∧ KOrd r o 0#64 ∧ Stuck r 0#64 ∧ w'.ownsRow w.heap.size 3 1 (.slice g o.length cg) o.length (ints o) ∧ Below w.heap.size w w') ∨
  (∃ (o : List Nat) (left : B), e = .returned (.tuple #[.slice none 0 0, .int .i64 8]) ∧ left ≠ 0#64 ∧ KOrd r o left ∧ Stuck r left ∧ Below w.heap.size w w')
set_option maxHeartbeats 1000000 in
theorem Order_yes (p : Option Addr) (n c : Nat) (r : List B) (h : chkR r = 0) (w : World) (hR : RowsAt w p n r) (hT : Tab w) :
    Calls Tryd.prog 59 #[.slice p n c] w (OrderPost r w) := by
  have H := Lib.hid h
  clear h
  go_enter Tryd.func59, Tryd.ntmps59
  go_wp2_with (go_at_call 73; refine (Check_ok _ _ _ r _ hR).mono ?_; rw [H.out]; rintro e w' ⟨rfl, rfl⟩)
  refine (order_ok p n c r (chkR_zero.1 H.out) w hR hT).mono ?_
  rintro e w1 ⟨o, left, g, cg, rfl, hO, hS, hown, hb⟩
  have HO := Lib.hid hO
  have HS := Lib.hid hS
  clear hO hS hR hT
  by_cases h0 : left = 0#64
  · have e0 : (un left : Int) = 0 := un_zero_int h0
    have H0 := Lib.hid h0
    clear h0
    go_wp2
    go_ret2
    have h0 := H0.out
    subst h0
    exact .inl ⟨o, g, cg, rfl, HO.out, HS.out, hown, hb⟩
  · have e0 := un_ne0 h0
    have e1 := un_ne1 h0
    have H0 := Lib.hid h0
    clear h0
    go_wp2
    go_ret2
    exact .inr ⟨o, left, rfl, H0.out, HO.out, HS.out, hb⟩
set_option maxHeartbeats 1000000 in
theorem Order_no (p : Option Addr) (n c : Nat) (r : List B) (h : chkR r ≠ 0) (w : World) (hR : RowsAt w p n r) :
    Calls Tryd.prog 59 #[.slice p n c] w fun e w' => e = .returned (.tuple #[.slice none 0 0, .int .i64 (chkR r)]) ∧ w = w' := by
  obtain ⟨h1, h2⟩ := int_ne h
  clear h
  go_enter Tryd.func59, Tryd.ntmps59
  go_wp2_with (go_at_call 73; refine (Check_ok _ _ _ r _ hR).mono ?_; rintro e w' ⟨rfl, rfl⟩)
  go_ret2
  exact ⟨rfl, rfl⟩
theorem knots_rows : chkR [2#64, 0#64] = 0 := by decide +kernel
theorem knots_order {o : List Nat} {left : B} (h : KOrd [2#64, 0#64] o left) (hs : Stuck [2#64, 0#64] left) : o = [1, 0] ∧ left = 0#64 := by
  have row0 : ∀ k, has (row [2#64, 0#64] 0) k = true → k = 1 := by
    intro k hk
    have hlt := has_lt hk
    revert hk; revert hlt; revert k
    decide +kernel
  have row1 : ∀ n k, 1 ≤ n → has (row [2#64, 0#64] n) k = true → False := by
    intro n k hn hk
    have := row_lt hk
    have hn1 : n = 1 := by simp at this; omega
    subst hn1
    have hlt := has_lt hk
    revert hk; revert hlt; revert k
    decide +kernel
  have hl0 : ∀ n, has left n = true → False := by
    intro n hn
    obtain ⟨k, h1, h2⟩ := hs n hn
    rcases Nat.lt_or_ge n 1 with h3 | h3
    · have hn0 : n = 0 := by omega
      subst hn0
      have hk1 := row0 k h1
      subst hk1
      obtain ⟨j, h4, _⟩ := hs 1 h2
      exact row1 1 j (by omega) h4
    · exact row1 n k h3 h1
  have hleft : left = 0#64 := eq_zero_iff.2 fun n => by
    by_cases hn : has left n = true
    · exact absurd (hl0 n hn) id
    · simpa using hn
  subst hleft
  have hlen := kord_all h
  simp at hlen
  refine ⟨?_, rfl⟩
  match o, hlen, h with
  | [a, b], _, h =>
    have ha := h.lt a (by simp)
    have hb := h.lt b (by simp)
    have hne : a ≠ b := by have := h.nodup; simp at this; exact this
    simp at ha hb
    have h01 : has (row [2#64, 0#64] 0) 1 = true := by decide +kernel
    rcases (show a = 0 ∨ a = 1 by omega) with rfl | rfl
    · have := h.needs 0 (by simp) 1 h01
      simp at this
    · have : b = 0 := by omega
      subst this; rfl
end Go.Proofs.YteldeiihjeddoaaDoor
namespace Go.Proofs.YteldeiihjeddoaaDoor
open Go.RowKit
/-- what is seen of a graph -/
structure SD where
  at_ : List Int
  dirty : B
def iv (l : List Int) : List Value := l.map (Value.int .i64)
/-- it as the call can read it -/
structure SnAt (w : World) (v : Value) (x : SD) : Prop where
  at_ : ∃ (p : Option Addr) (n c : Nat), v = .agg #[.slice p n c, .int .u64 (un x.dirty : Int)] ∧ x.at_.length = n ∧ Reads w w.heap.size 1 p n (iv x.at_) ∧ n ≤ 17592186044416
theorem SnAt.below {w w' : World} {v : Value} {x : SD} (h : SnAt w v x) (hb : Below w.heap.size w w') : SnAt w' v x := by
  obtain ⟨p, n, c, h1, h2, h3, h4⟩ := h.at_
  exact ⟨p, n, c, h1, h2, (h3.below hb).more hb.size, h4⟩
theorem iv_at {w : World} {b n : Nat} {p : Option Addr} {l : List Int} (h : Reads w b 1 p n (iv l)) {k : Nat} (hk : k < n) : ∃ ad, p = some ad ∧ ad.block < b ∧ w.cell? (ad.add k) = some (.int .i64 (l.getD k 0)) := by
  obtain ⟨ad, u, rfl, hb, hu, hc⟩ := h.at_ hk
  refine ⟨ad, rfl, hb, ?_⟩
  have hl : k < l.length := by have := h.1; simp [iv] at this; omega
  rw [hc, ← hu]
  unfold iv
  rw [List.getElem?_map, List.getD_eq_getElem?_getD, List.getElem?_eq_getElem hl]
  rfl
def rws (g : GD) : List B := rowsE g.names.length g.edges
theorem rws_len (g : GD) : (rws g).length = g.names.length := rowsE_len _ _
theorem row_rws {g : GD} {a : Nat} (h : a < g.names.length) : row (rws g) a = rowE g.edges a := rowsE_get _ h
theorem has_rws {g : GD} (hg : Good g) {a b : Nat} : has (row (rws g) a) b = true ↔ ((a : Int), (b : Int)) ∈ g.edges := by
  constructor
  · intro h
    have ha : a < g.names.length := by have := row_lt h; rwa [rws_len] at this
    have hb := has_lt h
    rw [row_rws ha, has_rowE hb (fun x hx => ⟨(hg.edges x hx).2.2.1, by have := (hg.edges x hx).2.2.2; have := hg.names; omega⟩)] at h
    exact of_decide_eq_true h
  · intro h
    have h1 := hg.edges _ h
    have ha : a < g.names.length := by have := h1.2.1; simp only at this; omega
    have hb : b < 64 := by have := h1.2.2.2; have := hg.names; simp only at *; omega
    rw [row_rws ha, has_rowE hb (fun x hx => ⟨(hg.edges x hx).2.2.1, by have := (hg.edges x hx).2.2.2; have := hg.names; omega⟩)]
    exact decide_eq_true h
theorem valid_rws {g : GD} (hg : Good g) : Valid (rws g) := by
  refine ⟨by rw [rws_len]; exact hg.names, fun i k h => ?_⟩
  rw [rws_len]
  have := hg.edges _ ((has_rws hg).1 h)
  have := this.2.2.2
  simp only at this
  omega
/-- why a number is stale, where s tells of the others -/
def Why (g : GD) (x : SD) (s : B) (n : Nat) : Prop :=
  x.at_.getD n 0 < 0 ∨ has g.phony n = true ∨ ∃ k, has (row (rws g) n) k = true ∧ (has x.dirty k = true ∨ has s k = true ∨ x.at_.getD n 0 < x.at_.getD k 0)
/-- the stale numbers -/
def Stale (g : GD) (x : SD) (s : B) : Prop := ∀ n, has s n = true ↔ n < g.names.length ∧ has (g.made ||| g.phony) n = true ∧ Why g x s n
/-- what stale.check lets pass -/
structure Right (g : GD) (x : SD) : Prop where
  good : Good g
  len : x.at_.length = g.names.length
  range : ∀ n, n < g.names.length → -1 ≤ x.at_.getD n 0 ∧ x.at_.getD n 0 ≤ 1099511627776
  dirty : ∀ k, has x.dirty k = true → k < g.names.length
  there : ∀ n, n < g.names.length → x.at_.getD n 0 < 0 → has (g.made ||| g.phony) n = true
/-- right, and without a cycle -/
def Fit (g : GD) (x : SD) : Prop := Right g x ∧ ∃ o, KOrd (rws g) o 0#64
/-- along an order, one more dirty set makes no less stale -/
theorem stale_more {g : GD} {x y : SD} {s t : B} {o : List Nat} (ho : KOrd (rws g) o 0#64) (hat : x.at_ = y.at_) (hd : ∀ k, has x.dirty k = true → has y.dirty k = true) (hs : Stale g x s) (ht : Stale g y t) : s &&& ~~~t = 0#64 := by
  have key : ∀ i, i ≤ o.length → ∀ n ∈ o.take i, has s n = true → has t n = true := by
    intro i
    induction i with
    | zero => intro _ n hn; simp at hn
    | succ i ih =>
      intro hi n hn hsn
      rw [List.take_succ_eq_append_getElem (by omega)] at hn
      rcases List.mem_append.1 hn with hn | hn
      · exact ih (by omega) n hn hsn
      · have hne : n = o[i] := List.mem_singleton.1 hn
        obtain ⟨h1, h2, h3⟩ := (hs n).1 hsn
        refine (ht n).2 ⟨h1, h2, ?_⟩
        rcases h3 with h3 | h3 | ⟨k, h3, h4⟩
        · exact .inl (by rw [← hat]; exact h3)
        · exact .inr (.inl h3)
        · refine .inr (.inr ⟨k, h3, ?_⟩)
          rcases h4 with h4 | h4 | h4
          · exact .inl (hd k h4)
          · have hk := ho.needs i (by omega) k (by rw [← hne]; exact h3)
            exact .inr (.inl (ih (by omega) k hk h4))
          · exact .inr (.inr (by rw [← hat]; exact h4))
  refine eq_zero_iff.2 fun n => ?_
  rw [Bool.eq_false_iff]
  intro h
  have hn := has_lt h
  rw [has_and, has_not _ _ hn, Bool.and_eq_true] at h
  have hlt := ((hs n).1 h.1).1
  have hmem : n ∈ o := by
    have hiff := ho.left_iff n
    rw [has_zero, rws_len] at hiff
    by_cases hm : n ∈ o
    · exact hm
    · exact absurd (hiff.2 ⟨hlt, hm⟩) (by simp)
  have := key o.length (Nat.le_refl _) n (by rw [List.take_length]; exact hmem) h.1
  rw [this] at h
  simp at h
end Go.Proofs.YteldeiihjeddoaaDoor
namespace Go.Proofs.YteldeiihjeddoaaDoor
open Go.RowKit Go.Shelf
/-- what check answers -/
def SCheck (w : World) (g : GD) (x : SD) (e : Ending) (w' : World) : Prop :=
  ((Right g x ∧ ∃ (p q : Option Addr) (c d : Nat) (o : List Nat), KOrd (rws g) o 0#64 ∧ e = .returned (.tuple #[.slice p g.names.length c, .slice q o.length d, .int .i64 0]) ∧ RowsAt w' p g.names.length (rws g) ∧ Reads w' w'.heap.size 1 q o.length (ints o)) ∨
    (¬ Fit g x ∧ ∃ E : Int, E ≠ 0 ∧ e = .returned (.tuple #[.slice none 0 0, .slice none 0 0, .int .i64 E]))) ∧ Below w.heap.size w w'
theorem rows_at {w : World} {base c n : Nat} {p : Option Addr} {r : List B} (h : w.ownsRow base 24 1 (.slice p n c) n (u64sG r)) (hn : n ≤ 64) : RowsAt w p n r := by
  have hl : r.length = n := by have := h.1; simpa [u64sG] using this
  exact ⟨Reads.of_own h, hl, by unfold maxLen; omega⟩
def RTo (x : SD) (k : Nat) : Prop := ∀ n, n < k → -1 ≤ x.at_.getD n 0 ∧ x.at_.getD n 0 ≤ 1099511627776
theorem rto_next {x : SD} {k : Nat} (h : RTo x k) (hk : -1 ≤ x.at_.getD k 0 ∧ x.at_.getD k 0 ≤ 1099511627776) : RTo x (k + 1) := fun n hn => by
  rcases Nat.lt_or_ge n k with h1 | h1
  · exact h n h1
  · obtain rfl : n = k := by omega
    exact hk
theorem no_order {g : GD} {x : SD} {o : List Nat} {left : B} (h : KOrd (rws g) o left) (hs : Stuck (rws g) left) (h0 : left ≠ 0#64) : ¬ Fit g x := by
  rintro ⟨_, o2, h2⟩
  exact h0 ((stuck_zero_iff h hs h2 (fun n hn => by simp [has_zero] at hn)).2 rfl)
def ThereTo (g : GD) (x : SD) (k : Nat) : Prop := ∀ n, n < k → x.at_.getD n 0 < 0 → has (g.made ||| g.phony) n = true
theorem there_next {g : GD} {x : SD} {k : Nat} (h : ThereTo g x k) (hk : x.at_.getD k 0 < 0 → has (g.made ||| g.phony) k = true) : ThereTo g x (k + 1) := fun n hn ht => by
  rcases Nat.lt_or_ge n k with h1 | h1
  · exact h n h1 ht
  · obtain rfl : n = k := by omega
    exact hk ht
theorem bit_zero (s : B) (a : Nat) : ((un ((s >>> a) &&& 1#64) : Int) == 0) = !has s a := by
  have e : un (s >>> a &&& 1#64) = un (s >>> a) % 2 := by
    unfold un; rw [BitVec.toNat_and]; exact Nat.and_one_is_mod _
  have e2 : un (s >>> a) = un s / 2 ^ a := by unfold un; rw [BitVec.toNat_ushiftRight, Nat.shiftRight_eq_div_pow]
  rw [e, e2, has_un, Nat.testBit_eq_decide_div_mod_eq]
  rcases Nat.mod_two_eq_zero_or_one (un s / 2 ^ a) with h | h <;> simp [h]
set_option maxHeartbeats 4000000 in
set_option maxRecDepth 100000 in
theorem scheck_ok (v u : Value) (g : GD) (x : SD) (w : World) (h : GrAt w v g) (hx : SnAt w u x) (hT : Tab w) : Calls Tryd.prog 45 #[v, u] w (SCheck w g x) := by
  have hGr := h
  obtain ⟨p, n, c, q, m, d, rfl, hN, hE⟩ := h.at_
  obtain ⟨p2, n2, c2, rfl, hx1, hx2, hx3⟩ := hx.at_
  have hln := hN.at_.len
  have hlm := hE.len
  subst hln hlm hx1
  have hbn := hN.at_.big
  have hbm := hE.big
  obtain ⟨W, hW⟩ : ∃ W, W = (w.alloc (.cells #[.slice p g.names.length c, .slice q g.edges.length d, .int .u64 (un g.phony : Int), .int .u64 (un g.made : Int)] 26)).alloc (.cells #[.slice p2 x.at_.length c2, .int .u64 (un x.dirty : Int)] 29) := ⟨_, rfl⟩
  have hBW : Below w.heap.size w W := by rw [hW]; exact ((Below.refl _ _).alloc (Nat.le_refl _) _).alloc (by simp) _
  have HS : Hid (w.heap.size + 1 < W.heap.size) := by show _ < _; rw [hW]; simp
  have HS0 : Hid (w.heap.size < W.heap.size) := by show _ < _; rw [hW]; simp; omega
  have HC : Hid (∀ u : World, Below W.heap.size W u → u.cell? ⟨w.heap.size, 0, none⟩ = some (.slice p g.names.length c) ∧ u.cell? ⟨w.heap.size, 1, none⟩ = some (.slice q g.edges.length d) ∧ u.cell? ⟨w.heap.size, 2, none⟩ = some (.int .u64 (un g.phony : Int)) ∧ u.cell? ⟨w.heap.size, 3, none⟩ = some (.int .u64 (un g.made : Int)) ∧
      u.cell? ⟨w.heap.size + 1, 0, none⟩ = some (.slice p2 x.at_.length c2) ∧ u.cell? ⟨w.heap.size + 1, 1, none⟩ = some (.int .u64 (un x.dirty : Int))) := by
    show ∀ u : World, _ → _
    intro u hu
    rw [hu.cell HS0.out, hu.cell HS0.out, hu.cell HS0.out, hu.cell HS0.out, hu.cell HS.out, hu.cell HS.out, hW]
    refine ⟨?_, ?_, ?_, ?_, ?_, ?_⟩
    all_goals first
      | (rw [World.cell?_alloc_lt _ _ _ (by simp), World.cell?_alloc_at _ _ _ _ rfl]; rfl)
      | (rw [World.cell?_alloc_at _ _ _ _ (by simp)]; rfl)
  have HRows := Lib.hid (Rows2_ok _ g W (hGr.below hBW))
  have HBW := Lib.hid hBW
  have HXR : Hid (Reads W W.heap.size 1 p2 x.at_.length (iv x.at_)) := by show Reads _ _ _ _ _ _; exact (hx2.below hBW).more hBW.size
  have HT := Lib.hid (hT.below hBW)
  have HFIN : Hid (∀ u, Below W.heap.size W u → Below w.heap.size w u) := by show ∀ u, _; exact fun u hu => HBW.out.trans (hu.mono (Nat.le_of_lt HS0.out))
  obtain ⟨k0, k1, k2, k3, k4, k5⟩ := HC.out W (Below.refl _ _)
  rw [hW] at k0 k1 k2 k3 k4 k5
  clear hN hE hBW h hGr hx hx2 hT
  go_enter Tryd.func45, Tryd.ntmps45
  go_wp2_with fail
  rw [← hW]
  clear hW k0 k1 k2 k3 k4 k5
  refine HRows.out.mono ?_
  rintro e w2 ⟨hcase, hb2⟩
  have HB2 := Lib.hid hb2
  obtain ⟨k0, k1, k2, k3, k4, k5⟩ := HC.out w2 hb2
  clear hb2
  rcases hcase with ⟨hG, pr, cr, rfl, hown⟩ | ⟨hnG, E, hE0, rfl⟩
  · have HG := Lib.hid hG
    have h64 := hG.names
    have HRA := Lib.hid (rows_at hown hG.names)
    clear hown hG
    by_cases g1 : x.at_.length = g.names.length
    · have hb1 : ((x.at_.length : Int) != (g.names.length : Int)) = false := by rw [g1]; simp
      have HG1 := Lib.hid g1
      clear g1
      have HXR2 : Hid (Reads w2 w2.heap.size 1 p2 x.at_.length (iv x.at_)) := by show Reads _ _ _ _ _ _; exact (HXR.out.below HB2.out).more HB2.out.size
      go_wp2
      go_loop [35] (fun i => ∃ k : Nat, k ≤ x.at_.length ∧ i = .int .i64 k ∧ Hid (RTo x k)) (fun i => x.at_.length - (intOf i).toNat)
      case atStart => exact ⟨0, Nat.zero_le _, rfl, show RTo x 0 from fun n hn => by omega⟩
      case round =>
        obtain ⟨k, hk, rfl, HRT⟩ := hrel
        by_cases hlt : k < x.at_.length
        · obtain ⟨ad, rfl, _, hcx⟩ := iv_at HXR2.out hlt
          have HRn := Lib.hid (rto_next HRT.out)
          have HER : Hid (x.at_.getD k 0 < -1 ∨ 1099511627776 < x.at_.getD k 0 → ¬ Fit g x) := by
            show _ → _
            intro h hf
            have := hf.1.range k (by rw [← HG1.out]; exact hlt)
            omega
          generalize x.at_.getD k 0 = t at *
          by_cases t1 : t < -1
          · go_wp2
            go_ret3
            exact ⟨.inr ⟨HER.out (.inl t1), 4, by decide, rfl⟩, HFIN.out _ HB2.out⟩
          by_cases t2 : (1099511627776 : Int) < t
          · go_wp2
            go_ret3
            exact ⟨.inr ⟨HER.out (.inr t2), 4, by decide, rfl⟩, HFIN.out _ HB2.out⟩
          have HRT2 := Lib.hid (HRn.out ⟨by omega, by omega⟩)
          clear HRn HER HRT
          go_wp2
          go_round
          case rel => exact ⟨k + 1, by omega, by go_num, HRT2.out⟩
          case measure => simp [intOf]; omega
        · obtain rfl : k = x.at_.length := by omega
          by_cases hz : x.dirty &&& ~~~belowB g.names.length = 0#64
          · have HD : Hid (∀ k, has x.dirty k = true → k < g.names.length) := by
              show ∀ k, _ → _
              exact inB_iff.1 (by unfold inB; exact decide_eq_true hz)
            have hzz : (((un (x.dirty &&& ~~~belowB g.names.length) : Nat) : Int) != 0) = false := by rw [hz]; rfl
            clear hz
            go_wp2_with (first
              | (go_at_call 19; refine (Below_ok _ h64 _).mono ?_; rintro e w' ⟨rfl, rfl⟩)
              | fail)
            refine (Order_yes pr g.names.length cr (rws g) (chkR_zero.2 (valid_rws HG.out)) _ HRA.out (HT.out.belowB (Tab.lt HT.out) HB2.out)).mono ?_
            rintro e w3 hO
            rcases hO with ⟨o, go, co, rfl, hK, _, hown, hb3⟩ | ⟨o, left, rfl, hl0, hKo, hSt, hb3⟩
            · have HK := Lib.hid hK
              have HOR := Lib.hid (Reads.of_own hown)
              have HB3 := Lib.hid (HB2.out.trans (hb3.mono HB2.out.size))
              have HRA3 := Lib.hid (HRA.out.below hb3)
              have HXR3 : Hid (Reads w3 w3.heap.size 1 p2 x.at_.length (iv x.at_)) := by show Reads _ _ _ _ _ _; exact (HXR2.out.below hb3).more hb3.size
              clear k0 k1 k2 k3 k4 k5 hown hb3 hK
              obtain ⟨k0, k1, k2, k3, k4, k5⟩ := HC.out w3 HB3.out
              obtain ⟨ol, hol⟩ : ∃ ol, ol = o.length := ⟨_, rfl⟩
              rw [← hol] at HOR ⊢
              have HOL := Lib.hid hol
              clear hol
              go_wp2
              go_loop [68] (fun i => ∃ k : Nat, k ≤ x.at_.length ∧ i = .int .i64 k ∧ Hid (ThereTo g x k)) (fun i => x.at_.length - (intOf i).toNat)
              case atStart => exact ⟨0, Nat.zero_le _, rfl, show ThereTo g x 0 from fun n hn => by omega⟩
              case round =>
                obtain ⟨k, hk, rfl, HTh⟩ := hrel
                by_cases hlt : k < x.at_.length
                · obtain ⟨ad, rfl, _, hcx⟩ := iv_at HXR3.out hlt
                  have HNx := Lib.hid (there_next HTh.out)
                  have HER : Hid (x.at_.getD k 0 < 0 → has (g.made ||| g.phony) k = false → ¬ Fit g x) := by
                    show _ → _ → _
                    intro h h2 hf
                    have := hf.1.there k (by rw [← HG1.out]; exact hlt) h
                    rw [h2] at this
                    cases this
                  generalize x.at_.getD k 0 = t at *
                  by_cases t1 : t < 0
                  · have hbz := bit_zero (g.made ||| g.phony) k
                    cases hh : has (g.made ||| g.phony) k
                    · rw [hh] at hbz
                      have HNF := Lib.hid (HER.out t1 hh)
                      clear hh HNx
                      go_wp2
                      go_ret3
                      exact ⟨.inr ⟨HNF.out, 5, by decide, rfl⟩, HFIN.out _ HB3.out⟩
                    · rw [hh] at hbz
                      have HNy := Lib.hid (HNx.out fun _ => hh)
                      clear hh HNx
                      go_wp2
                      go_round
                      case rel => exact ⟨k + 1, by omega, by go_num, HNy.out⟩
                      case measure => simp [intOf]; omega
                  · have HNy := Lib.hid (HNx.out fun h => absurd h t1)
                    clear HNx
                    go_wp2
                    go_round
                    case rel => exact ⟨k + 1, by omega, by go_num, HNy.out⟩
                    case measure => simp [intOf]; omega
                · obtain rfl : k = x.at_.length := by omega
                  go_wp2
                  go_ret3
                  have hol := HOL.out
                  subst hol
                  exact ⟨.inl ⟨⟨HG.out, HG1.out, fun n hn => HRT.out n (by rw [HG1.out]; exact hn), HD.out, fun n hn => HTh.out n (by rw [HG1.out]; exact hn)⟩, pr, go, cr, co, o, HK.out, rfl, HRA3.out, HOR.out⟩, HFIN.out _ HB3.out⟩
            · have HB3 := Lib.hid (HB2.out.trans (hb3.mono HB2.out.size))
              have HNF : Hid (¬ Fit g x) := by show ¬ _; exact no_order hKo hSt hl0
              clear hl0 hKo hSt
              go_wp2
              go_ret3
              exact ⟨.inr ⟨HNF.out, 8, by decide, rfl⟩, HFIN.out _ HB3.out⟩
          · have hzz : (((un (x.dirty &&& ~~~belowB g.names.length) : Nat) : Int) != 0) = true := by
              rw [bne_iff_ne]
              intro e
              exact hz (un_inj (by rw [show un 0#64 = 0 from rfl]; omega))
            have HNF : Hid (¬ Fit g x) := by
              show ¬ _
              intro hf
              have := inB_iff.2 hf.1.dirty
              unfold inB at this
              exact hz (of_decide_eq_true this)
            clear hz
            go_wp2_with (go_at_call 19; refine (Below_ok _ h64 _).mono ?_; rintro e w' ⟨rfl, rfl⟩)
            go_ret3
            exact ⟨.inr ⟨HNF.out, 4, by decide, rfl⟩, HFIN.out _ HB2.out⟩
    · have hb1 : ((x.at_.length : Int) != (g.names.length : Int)) = true := by rw [bne_iff_ne]; omega
      have HNF : Hid (¬ Fit g x) := by show ¬ _; exact fun hf => g1 hf.1.len
      go_wp2
      go_ret3
      exact ⟨.inr ⟨HNF.out, 1, by decide, rfl⟩, HFIN.out _ HB2.out⟩
  · obtain ⟨i1, i2⟩ := int_ne' hE0
    have HNF : Hid (¬ Fit g x) := by show ¬ _; exact fun hf => hnG hf.1.good
    clear hnG
    go_wp2
    go_ret3
    exact ⟨.inr ⟨HNF.out, E, hE0, rfl⟩, HFIN.out _ HB2.out⟩
end Go.Proofs.YteldeiihjeddoaaDoor
