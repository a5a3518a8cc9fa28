/- The walks through math/bits.TrailingZeros64 and bits.least, Next, Nth, Rank, List. Conditions: the table reads as listed. -/
import Derived.Test.YtlhhcgiifgkngaaDoorDoor
import Derived.Test.YtlhhcgiifgkngaaDoorBitsW
import Derived.Test.YtlhhcgiifgkngaaDoorPopW
import Derived.Test.YtlhhcgiifgkngaaDoorSets
namespace Go.Proofs.YtlhhcgiifgkngaaDoor
open Go.RowKit
set_option maxHeartbeats 1000000 in
theorem tz_core (x k idx : Nat) (w : World) (hx0 : ((x : Int) == 0) = false)
    (key : IntKind.u64.wrap (bits BinOp.and IntKind.u64 (x : Int) (IntKind.u64.wrap (-(x : Int))) * 285870213051353865) / 288230376151711744 = (idx : Int))
    (hi : idx < 64) (hk : k < 64) (hcell : w.cell? ⟨1, idx, none⟩ = some (.int .u8 k)) :
    Calls Tryd.prog 112 #[.int .u64 x] w fun e w' => e = .returned (.int .i64 k) ∧ w = w' := by
  go_enter Tryd.func112, Tryd.ntmps112
  go_wp2_with (simp only [key])
  go_ret
  exact ⟨rfl, rfl⟩
set_option maxHeartbeats 1000000 in
/-- the least number of a set that has some -/
theorem tz_ok (s : B) (hs : s ≠ 0#64) (w : World) (hT : Tab w) : Calls Tryd.prog 112 #[.int .u64 (un s)] w fun e w' => e = .returned (.int .i64 (low s : Int)) ∧ w = w' := by
  have hx0 : un s ≠ 0 := fun e => hs (un_inj (by rw [e]; rfl))
  have hx := un_lt s
  obtain ⟨hlow, hk⟩ := Lib.lowest_bit 64 (un s) hx0 hx
  obtain ⟨hi, htab⟩ := Lib.deBruijn64_at _ hk
  have hcell := hT _ hi
  rw [htab] at hcell
  exact tz_core (un s) _ _ w (by simp; omega) (tz64_key (un s) _ hx hx0 hlow) hi hk hcell
set_option maxHeartbeats 1000000 in
theorem least_ok (s : B) (hs : s ≠ 0#64) (w : World) (hT : Tab w) : Calls Tryd.prog 66 #[.int .u64 (un s)] w fun e w' => e = .returned (.int .i64 (low s : Int)) ∧ w = w' := by
  go_enter Tryd.func66, Tryd.ntmps66
  go_wp2_with (go_at_call 112; refine (tz_ok _ hs _ hT).mono ?_; rintro e w' ⟨rfl, rfl⟩)
  go_ret
  exact ⟨rfl, rfl⟩
theorem un_zero_int {s : B} (h : s = 0#64) : (un s : Int) = 0 := by rw [h]; rfl
theorem un_ne0 {s : B} (h : s ≠ 0#64) : ((un s : Int) == 0) = false := by
  have : un s ≠ 0 := fun e => h (un_inj (by rw [e]; rfl))
  simpa using this
theorem un_ne1 {s : B} (h : s ≠ 0#64) : ((un s : Int) != 0) = true := by
  have : un s ≠ 0 := fun e => h (un_inj (by rw [e]; rfl))
  simpa using this
/-- what Next answers -/
def nextV (s : B) (m : Nat) : Value := if frm s m = 0#64 then .tuple #[.int .i64 0, .bool false] else .tuple #[.int .i64 (low (frm s m) : Int), .bool true]
theorem frm_big {s : B} {m : Nat} (h : 64 ≤ m) : frm s m = 0#64 := eq_zero_iff.2 fun n => by
  rw [has_frm]
  rcases Nat.lt_or_ge n 64 with h1 | h1
  · have : ¬ m ≤ n := by omega
    simp [this]
  · rw [has_ge h1]; simp
set_option maxHeartbeats 1000000 in
theorem Next_ok (s : B) (n : Int) (w : World) (hT : Tab w) : Calls Tryd.prog 160 #[.int .u64 (un s), .int .i64 n] w fun e w' => e = .returned (nextV s n.toNat) ∧ w = w' := by
  by_cases hb : 64 ≤ n
  · have HV : Hid (nextV s n.toNat = .tuple #[.int .i64 0, .bool false]) := by show nextV _ _ = _; unfold nextV; rw [if_pos (frm_big (by omega))]
    go_enter Tryd.func160, Tryd.ntmps160
    go_wp2
    go_ret2
    exact ⟨by rw [HV.out]; rfl, rfl⟩
  · obtain ⟨m, hm, hmm, hmx⟩ : ∃ m : Nat, m = n.toNat ∧ m ≤ 63 ∧ max n 0 = (m : Int) := ⟨n.toNat, rfl, by omega, by omega⟩
    rw [← hm]
    clear hm
    by_cases h0 : frm s m = 0#64
    · have HV : Hid (nextV s m = .tuple #[.int .i64 0, .bool false]) := by show nextV _ _ = _; unfold nextV; rw [if_pos h0]
      have e0 : (un (s &&& ~~~belowB m) : Int) = 0 := un_zero_int h0
      clear h0
      go_enter Tryd.func160, Tryd.ntmps160
      go_wp2_with (go_at_call 56; refine (below_ok m (by omega) _).mono ?_; rintro e w' ⟨rfl, rfl⟩)
      go_ret2
      exact ⟨by rw [HV.out]; rfl, rfl⟩
    · have HV : Hid (nextV s m = .tuple #[.int .i64 (low (frm s m) : Int), .bool true]) := by show nextV _ _ = _; unfold nextV; rw [if_neg h0]
      have e0 := un_ne0 h0
      have H0 := Lib.hid h0
      have hfr : frm s m = s &&& ~~~belowB m := rfl
      rw [hfr] at e0
      clear h0 hfr
      go_enter Tryd.func160, Tryd.ntmps160
      go_wp2_with (first | (go_at_call 56; refine (below_ok m (by omega) _).mono ?_; rintro e w' ⟨rfl, rfl⟩) | (go_at_call 66; refine (least_ok (s &&& ~~~belowB m) H0.out _ hT).mono ?_; rintro e w' ⟨rfl, rfl⟩))
      go_ret2
      exact ⟨by rw [HV.out]; rfl, rfl⟩
set_option maxHeartbeats 1000000 in
theorem Rank_ok (s : B) (n : Int) (w : World) : Calls Tryd.prog 63 #[.int .u64 (un s), .int .i64 n] w fun e w' => e = .returned (.int .i64 (rnk s n.toNat : Int)) ∧ w = w' := by
  have hmx : min (max n 0) 64 = ((min n.toNat 64 : Nat) : Int) := by omega
  have HR : Hid (rnk s n.toNat = cnt (s &&& belowB (min n.toNat 64))) := by
    show rnk s n.toNat = _
    unfold rnk
    congr 1
    apply set_ext
    intro k hk
    rw [has_and, has_and, has_below _ _ hk, has_below _ _ hk]
    have : (k < n.toNat) ↔ k < min n.toNat 64 := by omega
    simp only [this]
  have hm : min n.toNat 64 ≤ 64 := by omega
  generalize min n.toNat 64 = m at *
  rw [HR.out]
  clear HR
  go_enter Tryd.func63, Tryd.ntmps63
  go_wp2_with (first | (go_at_call 56; refine (below_ok m (by omega) _).mono ?_; rintro e w' ⟨rfl, rfl⟩) | (go_at_call 32; refine (count_ok _ _).mono ?_; rintro e w' ⟨rfl, rfl⟩))
  go_ret
  exact ⟨rfl, rfl⟩
theorem lst_ne {t : B} (h : lst t ≠ []) : t ≠ 0#64 := fun e => h (by rw [e, lst_zero])
/-- the k-th number -/
def nth (s : B) (k : Nat) : Nat := (lst s).getD k 0
theorem lst_drop {s t : B} {j : Nat} (h : lst t = (lst s).drop j) (hj : j < (lst s).length) : t ≠ 0#64 ∧ lst (t &&& (t - 1#64)) = (lst s).drop (j + 1) ∧ low t = nth s j := by
  have hn : nth s j = (lst s)[j] := by unfold nth; simp [hj]
  rw [hn]
  have hd : (lst s).drop j = (lst s)[j] :: (lst s).drop (j + 1) := List.drop_eq_getElem_cons hj
  have h0 : t ≠ 0#64 := lst_ne (by rw [h, hd]; exact List.cons_ne_nil _ _)
  rw [lst_step h0, hd] at h
  injection h with h1 h2
  exact ⟨h0, h2, h1⟩
end Go.Proofs.YtlhhcgiifgkngaaDoor
