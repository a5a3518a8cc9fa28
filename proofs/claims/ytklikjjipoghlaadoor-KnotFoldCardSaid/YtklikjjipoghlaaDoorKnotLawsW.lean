/- The walks of the laws KnotParts and KnotFold. Conditions: the table reads as listed. -/
import Derived.Test.YtklikjjipoghlaaDoorFoldW
namespace Go.Proofs.YtklikjjipoghlaaDoor
open Go.RowKit
/-- the first set of which q holds, if there is one -/
def Found (q : B → Bool) (l : List B) (z : Int) : Prop := (z = -1 ∧ ∀ k, k < l.length → q (row l k) = false) ∨ (∃ k : Nat, k < l.length ∧ z = k ∧ q (row l k) = true)
def NoneTo (q : B → Bool) (l : List B) (m : Nat) : Prop := ∀ k, k < m → q (row l k) = false
theorem noneTo_next {q : B → Bool} {l : List B} {m : Nat} (h : NoneTo q l m) (hm : q (row l m) = false) : NoneTo q l (m + 1) := fun k hk => by
  rcases Nat.lt_or_ge k m with h1 | h1
  · exact h k h1
  · obtain rfl : k = m := by omega
    exact hm
set_option maxHeartbeats 1000000 in
theorem both_ok (a b ba bb : Nat) (s : B) (ha : a < 64) (hb : b < 64) (w : World) (h1 : w.cell? ⟨ba, 0, none⟩ = some (.int .i64 (a : Int))) (h2 : w.cell? ⟨bb, 0, none⟩ = some (.int .i64 (b : Int))) :
    Calls Tryd.prog 42 #[.int .u64 (un s), .pointer (some ⟨ba, 0, none⟩), .pointer (some ⟨bb, 0, none⟩)] w fun e w' => e = .returned (.bool (has s a && has s b)) ∧ w = w' := by
  have e1 := shr_bit s a
  have e2 := shr_bit s b
  cases hx : has s a <;> cases hy : has s b
  all_goals
    rw [hx] at e1
    rw [hy] at e2
    simp only [Bool.false_eq_true, if_false, if_true] at e1 e2
    clear hx hy
    go_enter Tryd.func42, Tryd.ntmps42
    go_wp2
    go_ret
    exact ⟨rfl, rfl⟩
set_option maxHeartbeats 1000000 in
theorem one_ok (a : Int) (ba : Nat) (s : B) (w : World) (h1 : w.cell? ⟨ba, 0, none⟩ = some (.int .i64 a)) :
    Calls Tryd.prog 47 #[.int .u64 (un s), .pointer (some ⟨ba, 0, none⟩)] w fun e w' => e = .returned (.bool (hasI s a)) ∧ w = w' := by
  go_enter Tryd.func47, Tryd.ntmps47
  go_wp2_with (go_at_call 18; refine (has_ok s a _).mono ?_; rintro e w' ⟨rfl, rfl⟩)
  go_ret
  exact ⟨rfl, rfl⟩
set_option maxHeartbeats 1000000 in
theorem indexBoth_ok (q : B → Bool) (ba bb : Nat) (p : Option Addr) (c : Nat) (l : List B) (w : World) (hl : l.length ≤ 64) (h : RowsAt w p l.length l)
    (hq : ∀ s : B, Calls Tryd.prog 42 #[.int .u64 (un s), .pointer (some ⟨ba, 0, none⟩), .pointer (some ⟨bb, 0, none⟩)] w fun e w' => e = .returned (.bool (q s)) ∧ w = w') :
    Calls Tryd.prog 46 #[.slice p l.length c, .func (.func 42) #[] #[.pointer (some ⟨ba, 0, none⟩), .pointer (some ⟨bb, 0, none⟩)]] w fun e w' => (∃ z : Int, e = .returned (.int .i64 z) ∧ Found q l z) ∧ w = w' := by
  have HN := Lib.hid h
  have HF := Lib.hid hq
  clear h hq
  go_enter Tryd.func46, Tryd.ntmps46
  go_wp2
  go_loop [8] (fun i => ∃ k : Nat, k ≤ l.length ∧ i = .int .i64 k ∧ Hid (NoneTo q l k)) (fun i => l.length - (intOf i).toNat)
  case atStart => exact ⟨0, Nat.zero_le _, rfl, show NoneTo q l 0 from fun n hn => by omega⟩
  case round =>
    obtain ⟨k, hk, rfl, HL⟩ := hrel
    by_cases hlt : k < l.length
    · obtain ⟨ad, rfl, _, hc⟩ := HN.out.cell hlt
      have HNX := Lib.hid (noneTo_next HL.out)
      have HT : Hid (q (row l k) = true → Found q l (k : Int)) := by show _ → _; exact fun h => .inr ⟨k, hlt, rfl, h⟩
      generalize row l k = t at *
      cases ht : q t
      · have HD := Lib.hid ht
        have HN2 := Lib.hid (HNX.out ht)
        clear ht HNX HT
        go_wp2_with (go_at_call 42; refine (HF.out t).mono ?_; rw [HD.out]; rintro e w' ⟨rfl, rfl⟩)
        go_round
        case rel => exact ⟨k + 1, by omega, by go_num, HN2.out⟩
        case measure => simp [intOf]; omega
      · have HD := Lib.hid ht
        have HN2 := Lib.hid (HT.out ht)
        clear ht HNX HT
        go_wp2_with (go_at_call 42; refine (HF.out t).mono ?_; rw [HD.out]; rintro e w' ⟨rfl, rfl⟩)
        go_ret
        exact ⟨⟨_, rfl, HN2.out⟩, rfl⟩
    · obtain rfl : k = l.length := by omega
      go_wp2
      go_ret
      exact ⟨⟨-1, rfl, .inl ⟨rfl, HL.out⟩⟩, rfl⟩
set_option maxHeartbeats 1000000 in
theorem indexOne_ok (q : B → Bool) (ba : Nat) (p : Option Addr) (c : Nat) (l : List B) (w : World) (hl : l.length ≤ 64) (h : RowsAt w p l.length l)
    (hq : ∀ s : B, Calls Tryd.prog 47 #[.int .u64 (un s), .pointer (some ⟨ba, 0, none⟩)] w fun e w' => e = .returned (.bool (q s)) ∧ w = w') :
    Calls Tryd.prog 46 #[.slice p l.length c, .func (.func 47) #[] #[.pointer (some ⟨ba, 0, none⟩)]] w fun e w' => (∃ z : Int, e = .returned (.int .i64 z) ∧ Found q l z) ∧ w = w' := by
  have HN := Lib.hid h
  have HF := Lib.hid hq
  clear h hq
  go_enter Tryd.func46, Tryd.ntmps46
  go_wp2
  go_loop [8] (fun i => ∃ k : Nat, k ≤ l.length ∧ i = .int .i64 k ∧ Hid (NoneTo q l k)) (fun i => l.length - (intOf i).toNat)
  case atStart => exact ⟨0, Nat.zero_le _, rfl, show NoneTo q l 0 from fun n hn => by omega⟩
  case round =>
    obtain ⟨k, hk, rfl, HL⟩ := hrel
    by_cases hlt : k < l.length
    · obtain ⟨ad, rfl, _, hc⟩ := HN.out.cell hlt
      have HNX := Lib.hid (noneTo_next HL.out)
      have HT : Hid (q (row l k) = true → Found q l (k : Int)) := by show _ → _; exact fun h => .inr ⟨k, hlt, rfl, h⟩
      generalize row l k = t at *
      cases ht : q t
      · have HD := Lib.hid ht
        have HN2 := Lib.hid (HNX.out ht)
        clear ht HNX HT
        go_wp2_with (go_at_call 47; refine (HF.out t).mono ?_; rw [HD.out]; rintro e w' ⟨rfl, rfl⟩)
        go_round
        case rel => exact ⟨k + 1, by omega, by go_num, HN2.out⟩
        case measure => simp [intOf]; omega
      · have HD := Lib.hid ht
        have HN2 := Lib.hid (HT.out ht)
        clear ht HNX HT
        go_wp2_with (go_at_call 47; refine (HF.out t).mono ?_; rw [HD.out]; rintro e w' ⟨rfl, rfl⟩)
        go_ret
        exact ⟨⟨_, rfl, HN2.out⟩, rfl⟩
    · obtain rfl : k = l.length := by omega
      go_wp2
      go_ret
      exact ⟨⟨-1, rfl, .inl ⟨rfl, HL.out⟩⟩, rfl⟩
set_option maxHeartbeats 1000000 in
theorem containsBoth_ok (q : B → Bool) (ba bb : Nat) (p : Option Addr) (c : Nat) (l : List B) (w : World) (hl : l.length ≤ 64) (h : RowsAt w p l.length l)
    (hq : ∀ s : B, Calls Tryd.prog 42 #[.int .u64 (un s), .pointer (some ⟨ba, 0, none⟩), .pointer (some ⟨bb, 0, none⟩)] w fun e w' => e = .returned (.bool (q s)) ∧ w = w') :
    Calls Tryd.prog 41 #[.slice p l.length c, .func (.func 42) #[] #[.pointer (some ⟨ba, 0, none⟩), .pointer (some ⟨bb, 0, none⟩)]] w fun e w' => e = .returned (.bool (l.any q)) ∧ w = w' := by
  have HX := Lib.hid (indexBoth_ok q ba bb p c l w hl h hq)
  clear h hq
  go_enter Tryd.func41, Tryd.ntmps41
  go_wp2_with (go_at_call 46; refine HX.out.mono ?_; rintro e w' ⟨⟨z, rfl, hz⟩, rfl⟩; have HZ := Lib.hid hz; clear hz)
  go_ret
  refine ⟨?_, rfl⟩
  have : decide (0 ≤ z) = l.any q := by
    rcases HZ.out with ⟨rfl, h1⟩ | ⟨k, hk, rfl, h1⟩
    · have : l.any q = false := by
        rw [List.any_eq_false]
        intro s hs
        obtain ⟨j, hj, rfl⟩ := List.mem_iff_getElem.1 hs
        have := h1 j hj
        rw [row_at hj] at this
        simp [this]
      rw [this]; rfl
    · rw [decide_eq_true (by omega)]
      symm
      rw [List.any_eq_true]
      exact ⟨row l k, row_mem hk, h1⟩
  rw [← this]; rfl
end Go.Proofs.YtklikjjipoghlaaDoor
