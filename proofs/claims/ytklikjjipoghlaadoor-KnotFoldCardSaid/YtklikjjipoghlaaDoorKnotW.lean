/- The walks through slices.Index and Contains at ints, knot.Order, and the fact knots. Conditions: the table reads as listed. -/
import Derived.Test.YtklikjjipoghlaaDoorKahnW
namespace Go.Proofs.YtklikjjipoghlaaDoor
open Go.RowKit
/-- where a number first stands in a list, or -1 -/
def firstAt (xs : List Nat) (x : Nat) : Int := if x ∈ xs then (xs.idxOf x : Int) else -1
theorem firstAt_hit {xs : List Nat} {x k : Nat} (hk : k < xs.length) (hx : xs[k] = x) (hno : x ∉ xs.take k) : firstAt xs x = (k : Int) := by
  have hm : x ∈ xs := by rw [← hx]; exact List.getElem_mem hk
  unfold firstAt
  rw [if_pos hm]
  have h1 : xs.idxOf x = k := by
    clear hm
    induction xs generalizing k with
    | nil => simp at hk
    | cons y ys ih =>
      cases k with
      | zero => simp at hx; subst hx; simp
      | succ k =>
        simp at hk hx hno
        have h2 := ih hk hx hno.2
        have h3 : (y == x) = false := by simp only [beq_eq_false_iff_ne, ne_eq]; exact fun h => hno.1 h.symm
        rw [List.idxOf_cons, h3, h2]
        simp
  rw [h1]
set_option maxHeartbeats 400000 in
theorem index_ok (xs : List Nat) (x : Nat) (p : Option Addr) (n c b : Nat) (w : World) (hr : Reads w b 1 p n (ints xs)) (hn : n ≤ maxLen) :
    Calls Tryd.prog 82 #[.slice p n c, .int .i64 (x : Int)] w fun e w' => e = .returned (.int .i64 (firstAt xs x)) ∧ w = w' := by
  unfold maxLen at hn
  have hl : xs.length = n := by have := hr.1; simpa [ints] using this
  subst hl
  go_enter Tryd.func82, Tryd.ntmps82
  go_wp2
  go_loop [8] (fun i => ∃ k : Nat, k ≤ xs.length ∧ i = .int .i64 k ∧ Hid (x ∉ xs.take k)) (fun i => xs.length - (intOf i).toNat)
  case atStart => exact ⟨0, Nat.zero_le _, rfl, show x ∉ xs.take 0 by simp⟩
  case round =>
    obtain ⟨k, hk, rfl, HK⟩ := hrel
    by_cases hlt : k < xs.length
    · obtain ⟨ad, rfl, _, hc⟩ := hr.int_at hlt
      have hg : xs.getD k 0 = xs[k] := by simp [hlt]
      by_cases h0 : x = xs.getD k 0
      · have HF : Hid (firstAt xs x = (k : Int)) := firstAt_hit hlt (by rw [← hg]; exact h0.symm) HK.out
        rw [← h0] at hc
        clear h0 hg HK hr
        go_wp2
        go_ret
        exact ⟨by rw [HF.out]; rfl, rfl⟩
      · have HN : Hid (x ∉ xs.take (k + 1)) := by
          show x ∉ _
          rw [List.take_succ_eq_append_getElem hlt, List.mem_append]
          rintro (h1 | h1)
          · exact HK.out h1
          · apply h0; rw [hg]; simpa using h1
        have e1 : ((x : Int) == (xs.getD k 0 : Int)) = false := by simp only [beq_eq_false_iff_ne, ne_eq]; omega
        clear hg HK hr h0
        generalize xs.getD k 0 = y at *
        go_wp2
        go_round
        case rel => exact ⟨k + 1, by omega, by go_num, HN.out⟩
        case measure => simp [intOf]; omega
    · have HF : Hid (firstAt xs x = -1) := by
        show firstAt xs x = -1
        unfold firstAt
        have := HK.out
        rw [List.take_of_length_le (by omega)] at this
        rw [if_neg this]
      go_wp2
      go_ret
      exact ⟨by rw [HF.out]; rfl, rfl⟩
def isIn (xs : List Nat) (x : Nat) : Bool := decide (x ∈ xs)
theorem firstAt_sign (xs : List Nat) (x : Nat) : decide (0 ≤ firstAt xs x) = isIn xs x := by
  unfold firstAt isIn
  by_cases h : x ∈ xs <;> simp [h]
/-- what Order answers of right rows -/
def OrderPost (r : List B) (w : World) (e : Ending) (w' : World) : Prop :=
  (∃ (o : List Nat) (g : Option Addr) (cg : Nat), e = .returned (.tuple #[.slice g o.length cg, .int .i64 0]) ∧ KOrd r o 0#64 ∧ Stuck r 0#64 ∧ w'.ownsRow w.heap.size 3 1 (.slice g o.length cg) o.length (ints o) ∧ Below w.heap.size w w') ∨
  (∃ (o : List Nat) (left : B), e = .returned (.tuple #[.slice none 0 0, .int .i64 8]) ∧ left ≠ 0#64 ∧ KOrd r o left ∧ Stuck r left ∧ Below w.heap.size w w')
set_option maxHeartbeats 1000000 in
theorem Order_yes (p : Option Addr) (n c : Nat) (r : List B) (h : chkR r = 0) (w : World) (hR : RowsAt w p n r) (hT : Tab w) :
    Calls Tryd.prog 44 #[.slice p n c] w (OrderPost r w) := by
  have H := Lib.hid h
  clear h
  go_enter Tryd.func44, Tryd.ntmps44
  go_wp2_with (go_at_call 50; refine (Check_ok _ _ _ r _ hR).mono ?_; rw [H.out]; rintro e w' ⟨rfl, rfl⟩)
  refine (order_ok p n c r (chkR_zero.1 H.out) w hR hT).mono ?_
  rintro e w1 ⟨o, left, g, cg, rfl, hO, hS, hown, hb⟩
  have HO := Lib.hid hO
  have HS := Lib.hid hS
  clear hO hS hR hT
  by_cases h0 : left = 0#64
  · have e0 : (un left : Int) = 0 := un_zero_int h0
    have H0 := Lib.hid h0
    clear h0
    go_wp2
    go_ret2
    have h0 := H0.out
    subst h0
    exact .inl ⟨o, g, cg, rfl, HO.out, HS.out, hown, hb⟩
  · have e0 := un_ne0 h0
    have e1 := un_ne1 h0
    have H0 := Lib.hid h0
    clear h0
    go_wp2
    go_ret2
    exact .inr ⟨o, left, rfl, H0.out, HO.out, HS.out, hb⟩
set_option maxHeartbeats 1000000 in
theorem Order_no (p : Option Addr) (n c : Nat) (r : List B) (h : chkR r ≠ 0) (w : World) (hR : RowsAt w p n r) :
    Calls Tryd.prog 44 #[.slice p n c] w fun e w' => e = .returned (.tuple #[.slice none 0 0, .int .i64 (chkR r)]) ∧ w = w' := by
  obtain ⟨h1, h2⟩ := int_ne h
  clear h
  go_enter Tryd.func44, Tryd.ntmps44
  go_wp2_with (go_at_call 50; refine (Check_ok _ _ _ r _ hR).mono ?_; rintro e w' ⟨rfl, rfl⟩)
  go_ret2
  exact ⟨rfl, rfl⟩
theorem knots_rows : chkR [2#64, 0#64] = 0 := by decide +kernel
theorem knots_order {o : List Nat} {left : B} (h : KOrd [2#64, 0#64] o left) (hs : Stuck [2#64, 0#64] left) : o = [1, 0] ∧ left = 0#64 := by
  have row0 : ∀ k, has (row [2#64, 0#64] 0) k = true → k = 1 := by
    intro k hk
    have hlt := has_lt hk
    revert hk; revert hlt; revert k
    decide +kernel
  have row1 : ∀ n k, 1 ≤ n → has (row [2#64, 0#64] n) k = true → False := by
    intro n k hn hk
    have := row_lt hk
    have hn1 : n = 1 := by simp at this; omega
    subst hn1
    have hlt := has_lt hk
    revert hk; revert hlt; revert k
    decide +kernel
  have hl0 : ∀ n, has left n = true → False := by
    intro n hn
    obtain ⟨k, h1, h2⟩ := hs n hn
    rcases Nat.lt_or_ge n 1 with h3 | h3
    · have hn0 : n = 0 := by omega
      subst hn0
      have hk1 := row0 k h1
      subst hk1
      obtain ⟨j, h4, _⟩ := hs 1 h2
      exact row1 1 j (by omega) h4
    · exact row1 n k h3 h1
  have hleft : left = 0#64 := eq_zero_iff.2 fun n => by
    by_cases hn : has left n = true
    · exact absurd (hl0 n hn) id
    · simpa using hn
  subst hleft
  have hlen := kord_all h
  simp at hlen
  refine ⟨?_, rfl⟩
  match o, hlen, h with
  | [a, b], _, h =>
    have ha := h.lt a (by simp)
    have hb := h.lt b (by simp)
    have hne : a ≠ b := by have := h.nodup; simp at this; exact this
    simp at ha hb
    have h01 : has (row [2#64, 0#64] 0) 1 = true := by decide +kernel
    rcases (show a = 0 ∨ a = 1 by omega) with rfl | rfl
    · have := h.needs 0 (by simp) 1 h01
      simp at this
    · have : b = 0 := by omega
      subst this; rfl
set_option maxHeartbeats 1000000 in
theorem knots_below (w : World) (hT : Tab w) : Calls Tryd.prog 38 #[] w fun e w' => e = .returned (.bool true) ∧ Below w.heap.size w w' := by
  have hb1 : Below w.heap.size w (w.alloc (.cells #[.int .u64 2, .int .u64 0] 28)) := (Below.refl _ _).alloc (Nat.le_refl _) _
  have hR := rows_two w 2#64 0#64
  go_enter Tryd.func38, Tryd.ntmps38
  go_wp2_with fail
  refine (Order_yes _ _ _ [2#64, 0#64] knots_rows _ hR (hT.below hb1)).mono ?_
  rintro e w1 (⟨o, g, cg, rfl, hO, hS, hown, hb2⟩ | ⟨o, left, rfl, hne, hO, hS, hb2⟩)
  · obtain ⟨rfl, _⟩ := knots_order hO hS
    have hL := Reads.of_own hown
    obtain ⟨ad, rfl, _, hc⟩ := hL.int_at (k := 0) (by simp)
    have hb := below_next hb1 hb2
    clear hO hS hown hL hb1 hb2 hR hT
    have hc0 : w1.cell? ad = some (.int .i64 1) := by simpa [Addr.add] using hc
    clear hc
    go_wp2
    go_ret
    exact ⟨rfl, hb⟩
  · exact absurd (knots_order hO hS).2 hne
end Go.Proofs.YtklikjjipoghlaaDoor
