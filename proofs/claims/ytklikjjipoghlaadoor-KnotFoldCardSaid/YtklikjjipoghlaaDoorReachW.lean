/- The walks through reach: check, Check, checks, step, from, From, Within. Conditions: the table reads as listed. -/
import Derived.Test.YtklikjjipoghlaaDoorLowW
import Derived.Test.YtklikjjipoghlaaDoorRows64
namespace Go.Proofs.YtklikjjipoghlaaDoor
open Go.RowKit
set_option maxHeartbeats 1000000 in
theorem check_ok (q : Option Addr) (n cq : Nat) (hn : n ≤ 64) (p : Option Addr) (m cp : Nat) (ss : List B) (w : World) (hS : RowsAt w p m ss) :
    Calls Tryd.prog 68 #[.slice q n cq, .slice p m cp] w fun e w' => e = .returned (.int .i64 (chkN n ss)) ∧ w = w' := by
  have hm := hS.big
  unfold maxLen at hm
  have hl := hS.len
  subst hl
  go_enter Tryd.func68, Tryd.ntmps68
  go_wp2_with (go_at_call 20; refine (Below_ok n hn _).mono ?_; rintro e w' ⟨rfl, rfl⟩)
  go_loop [17] (fun i => ∃ k : Nat, k ≤ ss.length ∧ i = .int .i64 k ∧ Hid (okSets n (ss.take k) = true)) (fun i => ss.length - (intOf i).toNat)
  case atStart => exact ⟨0, Nat.zero_le _, rfl, by show okSets n (ss.take 0) = true; simp [okSets]⟩
  case round =>
    obtain ⟨k, hk, rfl, HK⟩ := hrel
    by_cases hlt : k < ss.length
    · obtain ⟨ad, rfl, hb, hc⟩ := hS.cell hlt
      have hrow : row ss k = ss[k] := by unfold row; simp [hlt]
      have HT : Hid (okSets n (ss.take (k + 1)) = inB n (row ss k)) := by
        show okSets _ _ = _
        have h1 : okSets n (ss.take k) = true := HK.out
        unfold okSets at h1 ⊢
        rw [List.take_succ_eq_append_getElem hlt, List.all_append, h1, hrow]; simp
      have HA : Hid (inB n (row ss k) = false → okSets n ss = false) := by
        show _ → _
        intro h
        unfold okSets
        rw [Bool.eq_false_iff]
        intro h2
        have := List.all_eq_true.1 h2 _ (List.getElem_mem hlt)
        rw [← hrow, h] at this; cases this
      clear hS hb hrow HK
      generalize row ss k = x at *
      by_cases hx : x &&& ~~~belowB n = 0#64
      · have e0 : (un (x &&& ~~~belowB n) : Int) = 0 := un_zero_int hx
        have HX : Hid (inB n x = true) := by show inB n x = true; unfold inB; simpa using hx
        clear hx
        go_wp2
        go_round
        case rel => exact ⟨k + 1, by omega, by go_num, by show _ = true; rw [HT.out, HX.out]⟩
        case measure => simp [intOf]; omega
      · have e0 := un_ne0 hx
        have HX : Hid (inB n x = false) := by show inB n x = false; unfold inB; simpa using hx
        clear hx
        go_wp2
        go_ret
        exact ⟨by unfold chkN; rw [HA.out HX.out]; rfl, rfl⟩
    · have hall : ss.take k = ss := List.take_of_length_le (by omega)
      rw [hall] at HK
      clear hall
      go_wp2
      go_ret
      exact ⟨by unfold chkN; rw [HK.out]; rfl, rfl⟩
set_option maxHeartbeats 1000000 in
theorem Check_ok (p : Option Addr) (n c : Nat) (r : List B) (w : World) (hR : RowsAt w p n r) :
    Calls Tryd.prog 50 #[.slice p n c] w fun e w' => e = .returned (.int .i64 (chkR r)) ∧ w = w' := by
  have hl := hR.len
  subst hl
  have hbig := hR.big
  unfold maxLen at hbig
  by_cases h : 64 < r.length
  · have HC : Hid (chkR r = 2) := by show chkR r = 2; unfold chkR; rw [if_pos h]
    go_enter Tryd.func50, Tryd.ntmps50
    go_wp2
    go_ret
    exact ⟨by rw [HC.out]; rfl, rfl⟩
  · have HC : Hid (chkR r = chkN r.length r) := by show chkR r = _; unfold chkR; rw [if_neg h]
    have h64 : r.length ≤ 64 := by omega
    clear h
    go_enter Tryd.func50, Tryd.ntmps50
    go_wp2_with (go_at_call 68; refine (check_ok _ _ _ h64 _ _ _ r _ hR).mono ?_; rintro e w' ⟨rfl, rfl⟩)
    go_ret
    exact ⟨by rw [HC.out]; rfl, rfl⟩
set_option maxHeartbeats 1000000 in
theorem checks_ok (p : Option Addr) (n c : Nat) (r : List B) (q : Option Addr) (m cq : Nat) (ss : List B) (w : World) (hR : RowsAt w p n r) (hS : RowsAt w q m ss) :
    Calls Tryd.prog 61 #[.slice p n c, .slice q m cq] w fun e w' => e = .returned (.int .i64 (chks r ss)) ∧ w = w' := by
  have hl := hR.len
  subst hl
  have hbig := hR.big
  unfold maxLen at hbig
  by_cases h : chkR r = 0
  · have hv := (chkR_zero.1 h).1
    have HC : Hid (chks r ss = chkN r.length ss) := by show chks r ss = _; unfold chks; rw [h]; simp
    go_enter Tryd.func61, Tryd.ntmps61
    go_wp2_with (first | (go_at_call 50; refine (Check_ok _ _ _ r _ hR).mono ?_; rintro e w' ⟨rfl, rfl⟩) | (go_at_call 68; refine (check_ok _ _ _ hv _ _ _ ss _ hS).mono ?_; rintro e w' ⟨rfl, rfl⟩))
    go_ret
    exact ⟨by rw [HC.out]; rfl, rfl⟩
  · have HC : Hid (chks r ss = chkR r) := by show chks r ss = _; unfold chks; rw [if_pos h]
    have h0 : (chkR r == 0) = false := by simpa using h
    have h1 : (chkR r != 0) = true := by simpa using h
    clear h
    go_enter Tryd.func61, Tryd.ntmps61
    go_wp2_with (go_at_call 50; refine (Check_ok _ _ _ r _ hR).mono ?_; rintro e w' ⟨rfl, rfl⟩)
    go_ret
    exact ⟨by rw [HC.out]; rfl, rfl⟩
/-- what Next answers, part by part -/
def nextI (s : B) (m : Nat) : Int := if frm s m = 0#64 then 0 else (low (frm s m) : Int)
def nextB (s : B) (m : Nat) : Bool := decide (frm s m ≠ 0#64)
theorem nextV_parts (s : B) (m : Nat) : nextV s m = .tuple #[.int .i64 (nextI s m), .bool (nextB s m)] := by
  unfold nextV nextI nextB
  by_cases h : frm s m = 0#64 <;> simp [h]
theorem next_true {s : B} {m : Nat} (h : nextB s m = true) : ∃ j : Nat, nextI s m = (j : Int) ∧ m ≤ j ∧ j < 64 ∧ has s j = true ∧ ∀ i, m ≤ i → i < j → has s i = false := by
  have h0 : frm s m ≠ 0#64 := by unfold nextB at h; simpa using h
  obtain ⟨h1, h2, h3, h4⟩ := low_frm h0
  exact ⟨low (frm s m), by unfold nextI; rw [if_neg h0], h2, h4, h1, h3⟩
theorem next_false {s : B} {m : Nat} (h : nextB s m = false) : ∀ i, m ≤ i → has s i = false := by
  have h0 : frm s m = 0#64 := by unfold nextB at h; simpa using h
  intro i hi
  have := eq_zero_iff.1 h0 i
  rw [has_frm] at this
  simpa [hi] using this
def muIs : Value → Value → Nat
  | .int _ q, .bool true => 64 - q.toNat
  | _, _ => 0
theorem mu_next (s : B) (j : Nat) (hj : j < 64) : muIs (.int .i64 (nextI s (j + 1))) (.bool (nextB s (j + 1))) < muIs (.int .i64 (j : Int)) (.bool true) := by
  cases h : nextB s (j + 1)
  · show 0 < 64 - (j : Int).toNat; omega
  · obtain ⟨i, h1, h2, h3, _⟩ := next_true h
    rw [h1]
    show 64 - (i : Int).toNat < 64 - (j : Int).toNat
    omega
set_option maxHeartbeats 1000000 in
theorem step_ok (p : Option Addr) (n c : Nat) (r : List B) (s : B) (hs : ∀ k, has s k = true → k < r.length) (w : World) (hR : RowsAt w p n r) (hT : Tab w) :
    Calls Tryd.prog 69 #[.slice p n c, .int .u64 (un s)] w fun e w' => e = .returned (.int .u64 (un (stp r s))) ∧ w = w' := by
  have hl := hR.len
  subst hl
  have hbig := hR.big
  unfold maxLen at hbig
  have HS := Lib.hid hs
  clear hs
  go_enter Tryd.func69, Tryd.ntmps69
  go_wp2_with (go_at_call 40; refine (Next_ok _ _ _ hT).mono ?_; rw [nextV_parts]; rintro e w' ⟨rfl, rfl⟩)
  go_loop [5, 6, 7] (fun x i b => ∃ (m : Nat) (a : B), m ≤ 64 ∧ x = .int .u64 (un a) ∧ i = .int .i64 (nextI s m) ∧ b = .bool (nextB s m) ∧ Hid (∀ k, has a k = true ↔ ∃ n, n < m ∧ has s n = true ∧ has (row r n) k = true)) (fun _ i b => muIs i b)
  case atStart => exact ⟨0, 0#64, by omega, rfl, rfl, rfl, by show ∀ k, _; intro k; rw [has_zero]; simp⟩
  case round =>
    obtain ⟨m, a, hm, rfl, rfl, rfl, HA⟩ := hrel
    cases hnb : nextB s m
    · have HF : Hid (stp r s = a) := by
        show stp r s = a
        apply eq_of_iff
        intro k
        rw [has_stp, HA.out k]
        constructor
        · rintro ⟨i, h1, h2⟩
          refine ⟨i, ?_, h1, h2⟩
          rcases Nat.lt_or_ge i m with h3 | h3
          · exact h3
          · rw [next_false hnb i h3] at h1; cases h1
        · rintro ⟨i, _, h1, h2⟩; exact ⟨i, h1, h2⟩
      clear hnb HA
      go_wp2
      go_ret
      exact ⟨by rw [HF.out]; rfl, rfl⟩
    · obtain ⟨j, hj, hmj, hj64, hsj, hno⟩ := next_true hnb
      have hjr : j < r.length := HS.out j hsj
      obtain ⟨ad, rfl, hb, hc⟩ := hR.cell hjr
      have HN : Hid (∀ k, has (a ||| row r j) k = true ↔ ∃ n, n < j + 1 ∧ has s n = true ∧ has (row r n) k = true) := by
        show ∀ k, _
        intro k
        rw [has_or, Bool.or_eq_true, HA.out k]
        constructor
        · rintro (⟨i, h1, h2, h3⟩ | h)
          · exact ⟨i, by omega, h2, h3⟩
          · exact ⟨j, by omega, hsj, h⟩
        · rintro ⟨i, h1, h2, h3⟩
          rcases Nat.lt_or_ge i m with h4 | h4
          · exact .inl ⟨i, h4, h2, h3⟩
          · rcases Nat.lt_or_ge i j with h5 | h5
            · rw [hno i h4 h5] at h2; cases h2
            · have : i = j := by omega
              subst this; exact .inr h3
      have HM := Lib.hid (mu_next s j hj64)
      rw [hj]
      clear HA hno hsj hj hb
      generalize row r j = x at *
      have e1 : ((j : Int) + 1).toNat = j + 1 := by omega
      have HE := Lib.hid e1
      clear e1 hnb
      go_wp2_with (go_at_call 40; refine (Next_ok _ _ _ hT).mono ?_; rw [HE.out, nextV_parts]; rintro e w' ⟨rfl, rfl⟩)
      go_round
      case rel => exact ⟨j + 1, a ||| x, by omega, rfl, rfl, rfl, HN.out⟩
      case measure => exact HM.out
end Go.Proofs.YtklikjjipoghlaaDoor
