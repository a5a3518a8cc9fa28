/- Texts joined: BitsRankW, FromW, ReachLeastW, GoodW, ReachDepthW. Conditions: theirs. -/
import Derived.Test.YteefncohknclcaaGreatDoorEvalAllWM3
import Derived.Test.YteefncohknclcaaGreatDoorGoodP
namespace Go.Proofs.YteefncohknclcaaGreatDoor
open Go.RowKit
theorem shr_bit (s : B) (a : Nat) : (un (s >>> a &&& 1#64) : Int) = if has s a = true then 1 else 0 := by
  have e : un (s >>> a &&& 1#64) = un (s >>> a) % 2 := by
    unfold un; rw [BitVec.toNat_and]; exact Nat.and_one_is_mod _
  have e2 : un (s >>> a) = un s / 2 ^ a := by unfold un; rw [BitVec.toNat_ushiftRight, Nat.shiftRight_eq_div_pow]
  rw [e, e2, has_un, Nat.testBit_eq_decide_div_mod_eq]
  rcases Nat.mod_two_eq_zero_or_one (un s / 2 ^ a) with h | h <;> simp [h]
theorem nextV_none {s : B} {m : Nat} (h : frm s m = 0#64) : nextV s m = .tuple #[.int .i64 0, .bool false] := by unfold nextV; rw [if_pos h]
theorem nextV_some {s : B} {m : Nat} (h : frm s m ≠ 0#64) : nextV s m = .tuple #[.int .i64 (low (frm s m) : Int), .bool true] := by unfold nextV; rw [if_neg h]
end Go.Proofs.YteefncohknclcaaGreatDoor
namespace Go.Proofs.YteefncohknclcaaGreatDoor
open Go.RowKit
/-- the state of the search: what is come to, and the edge of it -/
def FromInv (r : List B) (s : B) (i : Nat) (cur edge : B) : Prop :=
  cur = ball r i s ∧ (∀ k, has edge k = true → has cur k = true) ∧ (∀ n k, has cur n = true → has edge n = false → has (row r n) k = true → has cur k = true) ∧ i ≤ cnt cur + (if edge = 0#64 then 1 else 0)
theorem from_start (r : List B) (s : B) : FromInv r s 0 s s := ⟨rfl, fun _ h => h, (fun n k h1 h2 => by rw [h1] at h2; cases h2), Nat.zero_le _⟩
theorem from_round {r : List B} {s cur edge : B} {i : Nat} (h : FromInv r s i cur edge) (he : edge ≠ 0#64) : FromInv r s (i + 1) (cur ||| (stp r edge &&& ~~~cur)) (stp r edge &&& ~~~cur) := by
  obtain ⟨h1, h2, h3, h4⟩ := h
  rw [if_neg he] at h4
  have hor : ∀ k, has (cur ||| (stp r edge &&& ~~~cur)) k = true ↔ has cur k = true ∨ has (stp r edge) k = true := by
    intro k
    rw [has_or, has_and, Bool.or_eq_true, Bool.and_eq_true]
    constructor
    · rintro (h | ⟨h, _⟩)
      · exact .inl h
      · exact .inr h
    · rintro (h | h)
      · exact .inl h
      · by_cases hc : has cur k = true
        · exact .inl hc
        · refine .inr ⟨h, ?_⟩
          rw [has_not _ _ (has_lt h)]; simpa using hc
  have e1 : cur ||| (stp r edge &&& ~~~cur) = ball r (i + 1) s := by
    apply eq_of_iff
    intro k
    rw [hor, has_ball_succ, ← h1, has_stp]
    constructor
    · rintro (h | ⟨n, hn, h⟩)
      · exact .inl h
      · exact .inr ⟨n, h2 n hn, h⟩
    · rintro (h | ⟨n, hn, h⟩)
      · exact .inl h
      · by_cases hne : has edge n = true
        · exact .inr ⟨n, hne, h⟩
        · exact .inl (h3 n k hn (by simpa using hne) h)
  refine ⟨e1, fun k hk => ?_, fun n k hn hne hk => ?_, ?_⟩
  · rw [has_or, hk]; simp
  · rw [hor] at hn ⊢
    have hcn : has cur n = true := by
      rcases hn with h | h
      · exact h
      · rw [has_and, h] at hne
        by_cases hc : has cur n = true
        · exact hc
        · rw [has_not _ _ (has_lt h)] at hne
          simp at hne; exact hne
    by_cases hen : has edge n = true
    · exact .inr (has_stp.2 ⟨n, hen, hk⟩)
    · exact .inl (h3 n k hcn (by simpa using hen) hk)
  · by_cases h0 : stp r edge &&& ~~~cur = 0#64
    · rw [if_pos h0, h0]
      have : cur ||| 0#64 = cur := by simp
      rw [this]; omega
    · rw [if_neg h0]
      obtain ⟨x, hx⟩ := exists_of_ne h0
      have hx2 := hx
      rw [has_and, Bool.and_eq_true, has_not _ _ (has_lt hx)] at hx2
      have := cnt_lt_of (s := cur) (t := cur ||| (stp r edge &&& ~~~cur)) (fun k hk => by rw [has_or, hk]; rfl) (x := x) (by rw [has_or, hx]; simp) (by simpa using hx2.2)
      omega
theorem from_closed {r : List B} {s cur : B} {i : Nat} (h : FromInv r s i cur 0#64) : Closed r (ball r i s) := by
  obtain ⟨h1, _, h3, _⟩ := h
  rw [← h1]
  intro n k hn hk
  exact h3 n k hn (has_zero _) hk
theorem from_le {r : List B} {s cur edge : B} {i : Nat} (h : FromInv r s i cur edge) : i ≤ 65 := by
  have := cnt_le cur
  have h4 := h.2.2.2
  split at h4 <;> omega
def fromD (r : List B) (s : B) (d : Int) : B := if d < 0 then cls r s else ball r d.toNat s
set_option maxHeartbeats 1000000 in
theorem from_core (p : Option Addr) (n c : Nat) (r : List B) (hv : Valid r) (s : B) (hs : ∀ k, has s k = true → k < r.length) (d : Int) (hd : -1 ≤ d ∧ d ≤ 9223372036854775807) (w : World) (hR : RowsAt w p n r) (hT : Tab w) :
    Calls Tryz.prog 92 #[.slice p n c, .int .u64 (un s), .int .i64 d] w fun e w' => e = .returned (.int .u64 (un (fromD r s d))) ∧ w = w' := by
  have HS := Lib.hid hs
  have HV := Lib.hid hv
  clear hs hv
  go_enter Tryz.func92, Tryz.ntmps92
  go_wp2
  go_loop [1, 2, 7] (fun x y z => ∃ (i : Nat) (cur edge : B), i ≤ 65 ∧ (0 ≤ d → (i : Int) ≤ d) ∧ x = .int .u64 (un cur) ∧ y = .int .i64 (d - i) ∧ z = .int .u64 (un edge) ∧ Hid (FromInv r s i cur edge)) (fun _ y _ => (intOf y - d + 66).toNat)
  case atStart => exact ⟨0, s, s, by omega, by omega, rfl, by simp, rfl, from_start r s⟩
  case round =>
    obtain ⟨i, cur, edge, hi, hid, rfl, rfl, rfl, HF⟩ := hrel
    by_cases he : edge = 0#64
    · have e0 : (un edge : Int) = 0 := un_zero_int he
      have HE : Hid (fromD r s d = cur) := by
        show fromD r s d = cur
        unfold fromD
        have hF := HF.out
        rw [he] at hF
        have hcl := from_closed hF
        split
        · rw [cls_eq hcl, hF.1]
        · rw [ball_stable hcl d.toNat (by omega), hF.1]
      clear he HF
      go_wp2
      go_ret
      exact ⟨by rw [HE.out]; rfl, rfl⟩
    · have e0 := un_ne0 he
      have e1 := un_ne1 he
      by_cases hz : d - (i : Int) = 0
      · have HE : Hid (fromD r s d = cur) := by
          show fromD r s d = cur
          unfold fromD
          rw [if_neg (by omega), HF.out.1]
          congr 1; omega
        have hz1 : (d - (i : Int) == 0) = true := by simpa using hz
        have hz2 : (d - (i : Int) != 0) = false := by simpa using hz
        clear he HF hz
        go_wp2
        go_ret
        exact ⟨by rw [HE.out]; rfl, rfl⟩
      · have hzb : (d - (i : Int) == 0) = false := by simpa using hz
        have hzc : (d - (i : Int) != 0) = true := by simpa using hz
        have hsub : ∀ k, has edge k = true → k < r.length := fun k hk => ball_in HV.out HS.out i k (by rw [← HF.out.1]; exact HF.out.2.1 k hk)
        have HB := Lib.hid hsub
        have HN := Lib.hid (from_round HF.out he)
        have hi' : i + 1 ≤ 65 := from_le HN.out
        have hid' : 0 ≤ d → (i : Int) + 1 ≤ d := by intro h; have := hid h; omega
        clear he HF hsub hid
        go_wp2_with (go_at_call 128; refine (step_ok _ _ _ r edge HB.out _ hR hT).mono ?_; rintro e w' ⟨rfl, rfl⟩)
        go_round
        case rel => exact ⟨i + 1, _, _, by omega, fun h => by have := hid' h; omega, rfl, by go_num, rfl, HN.out⟩
        case measure => simp [intOf]; omega
theorem from_all (p : Option Addr) (n c : Nat) (r : List B) (hv : Valid r) (s : B) (hs : ∀ k, has s k = true → k < r.length) (w : World) (hR : RowsAt w p n r) (hT : Tab w) :
    Calls Tryz.prog 92 #[.slice p n c, .int .u64 (un s), .int .i64 (-1)] w fun e w' => e = .returned (.int .u64 (un (cls r s))) ∧ w = w' := from_core p n c r hv s hs (-1) (by omega) w hR hT
theorem from_some (p : Option Addr) (n c : Nat) (r : List B) (hv : Valid r) (s : B) (hs : ∀ k, has s k = true → k < r.length) (d : Int) (hd : 0 ≤ d ∧ d ≤ 9223372036854775807) (w : World) (hR : RowsAt w p n r) (hT : Tab w) :
    Calls Tryz.prog 92 #[.slice p n c, .int .u64 (un s), .int .i64 d] w fun e w' => e = .returned (.int .u64 (un (ball r d.toNat s))) ∧ w = w' := by
  have h := from_core p n c r hv s hs d (by omega) w hR hT
  unfold fromD at h
  rw [if_neg (by omega)] at h
  exact h
theorem rows_one (w : World) (s : B) : RowsAt (w.alloc (.cells #[.int .u64 (un s : Int)] 24)) (some ⟨w.heap.size, 0, none⟩) 1 [s] := by
  refine ⟨⟨rfl, fun _ => ⟨_, rfl, by simp, fun j u hj => ?_⟩⟩, rfl, by unfold maxLen; omega⟩
  match j, hj with
  | 0, hj => simp [u64s] at hj; subst hj; simp [Addr.add]
theorem rows_two (w : World) (s t : B) : RowsAt (w.alloc (.cells #[.int .u64 (un s : Int), .int .u64 (un t : Int)] 24)) (some ⟨w.heap.size, 0, none⟩) 2 [s, t] := by
  refine ⟨⟨rfl, fun _ => ⟨_, rfl, by simp, fun j u hj => ?_⟩⟩, rfl, by unfold maxLen; omega⟩
  match j, hj with
  | 0, hj => simp [u64s] at hj; subst hj; simp [Addr.add]
  | 1, hj => simp [u64s] at hj; subst hj; simp [Addr.add]
theorem chks_in {r ss : List B} {s : B} (h : chks r ss = 0) (hs : s ∈ ss) : ∀ k, has s k = true → k < r.length := (chks_zero.1 h).2 s hs
theorem int_ne {x : Int} (h : x ≠ 0) : (x == 0) = false ∧ (x != 0) = true := ⟨by simpa using h, by simpa using h⟩
set_option maxHeartbeats 1000000 in
theorem From_yes (p : Option Addr) (n c : Nat) (r : List B) (s : B) (h : chks r [s] = 0) (w : World) (hR : RowsAt w p n r) (hT : Tab w) :
    Calls Tryz.prog 62 #[.slice p n c, .int .u64 (un s)] w fun e w' => e = .returned (.tuple #[.int .u64 (un (cls r s)), .int .i64 0]) ∧ Below w.heap.size w w' := by
  have H := Lib.hid h
  clear h
  have hb1 : Below w.heap.size w (w.alloc (.cells #[.int .u64 (un s : Int)] 24)) := (Below.refl _ _).alloc (Nat.le_refl _) _
  have hR1 := hR.below hb1
  have hT1 := hT.below hb1
  go_enter Tryz.func62, Tryz.ntmps62
  go_wp2_with (first | (go_at_call 91; refine (checks_ok _ _ _ r _ _ _ [s] _ hR1 (rows_one w s)).mono ?_; rw [H.out]; rintro e w' ⟨rfl, rfl⟩) | (go_at_call 92; refine (from_all _ _ _ r (chks_zero.1 H.out).1 s (chks_in H.out (by simp)) _ hR1 hT1).mono ?_; rintro e w' ⟨rfl, rfl⟩))
  go_ret2
  exact ⟨rfl, hb1⟩
set_option maxHeartbeats 1000000 in
theorem From_no (p : Option Addr) (n c : Nat) (r : List B) (s : B) (h : chks r [s] ≠ 0) (w : World) (hR : RowsAt w p n r) :
    Calls Tryz.prog 62 #[.slice p n c, .int .u64 (un s)] w fun e w' => e = .returned (.tuple #[.int .u64 0, .int .i64 (chks r [s])]) ∧ Below w.heap.size w w' := by
  obtain ⟨h1, h2⟩ := int_ne h
  clear h
  have hb1 : Below w.heap.size w (w.alloc (.cells #[.int .u64 (un s : Int)] 24)) := (Below.refl _ _).alloc (Nat.le_refl _) _
  have hR1 := hR.below hb1
  go_enter Tryz.func62, Tryz.ntmps62
  go_wp2_with (go_at_call 91; refine (checks_ok _ _ _ r _ _ _ [s] _ hR1 (rows_one w s)).mono ?_; rintro e w' ⟨rfl, rfl⟩)
  go_ret2
  exact ⟨rfl, hb1⟩
set_option maxHeartbeats 1000000 in
theorem Within_yes (p : Option Addr) (n c : Nat) (r : List B) (s : B) (h : chks r [s] = 0) (d : Int) (hd : 0 ≤ d ∧ d ≤ 9223372036854775807) (w : World) (hR : RowsAt w p n r) (hT : Tab w) :
    Calls Tryz.prog 63 #[.slice p n c, .int .u64 (un s), .int .i64 d] w fun e w' => e = .returned (.tuple #[.int .u64 (un (ball r d.toNat s)), .int .i64 0]) ∧ Below w.heap.size w w' := by
  have H := Lib.hid h
  clear h
  have hb1 : Below w.heap.size w (w.alloc (.cells #[.int .u64 (un s : Int)] 24)) := (Below.refl _ _).alloc (Nat.le_refl _) _
  have hR1 := hR.below hb1
  have hT1 := hT.below hb1
  go_enter Tryz.func63, Tryz.ntmps63
  go_wp2_with (first | (go_at_call 91; refine (checks_ok _ _ _ r _ _ _ [s] _ hR1 (rows_one w s)).mono ?_; rw [H.out]; rintro e w' ⟨rfl, rfl⟩) | (go_at_call 92; refine (from_some _ _ _ r (chks_zero.1 H.out).1 s (chks_in H.out (by simp)) d hd _ hR1 hT1).mono ?_; rintro e w' ⟨rfl, rfl⟩))
  go_ret2
  exact ⟨rfl, hb1⟩
set_option maxHeartbeats 1000000 in
theorem Within_arg (p : Option Addr) (n c : Nat) (r : List B) (s : B) (h : chks r [s] = 0) (d : Int) (hd : d < 0) (w : World) (hR : RowsAt w p n r) :
    Calls Tryz.prog 63 #[.slice p n c, .int .u64 (un s), .int .i64 d] w fun e w' => e = .returned (.tuple #[.int .u64 0, .int .i64 1]) ∧ Below w.heap.size w w' := by
  have H := Lib.hid h
  clear h
  have hb1 : Below w.heap.size w (w.alloc (.cells #[.int .u64 (un s : Int)] 24)) := (Below.refl _ _).alloc (Nat.le_refl _) _
  have hR1 := hR.below hb1
  go_enter Tryz.func63, Tryz.ntmps63
  go_wp2_with (go_at_call 91; refine (checks_ok _ _ _ r _ _ _ [s] _ hR1 (rows_one w s)).mono ?_; rw [H.out]; rintro e w' ⟨rfl, rfl⟩)
  go_ret2
  exact ⟨rfl, hb1⟩
set_option maxHeartbeats 1000000 in
theorem Within_no (p : Option Addr) (n c : Nat) (r : List B) (s : B) (h : chks r [s] ≠ 0) (d : Int) (w : World) (hR : RowsAt w p n r) :
    Calls Tryz.prog 63 #[.slice p n c, .int .u64 (un s), .int .i64 d] w fun e w' => e = .returned (.tuple #[.int .u64 0, .int .i64 (chks r [s])]) ∧ Below w.heap.size w w' := by
  obtain ⟨h1, h2⟩ := int_ne h
  clear h
  have hb1 : Below w.heap.size w (w.alloc (.cells #[.int .u64 (un s : Int)] 24)) := (Below.refl _ _).alloc (Nat.le_refl _) _
  have hR1 := hR.below hb1
  go_enter Tryz.func63, Tryz.ntmps63
  go_wp2_with (go_at_call 91; refine (checks_ok _ _ _ r _ _ _ [s] _ hR1 (rows_one w s)).mono ?_; rintro e w' ⟨rfl, rfl⟩)
  go_ret2
  exact ⟨rfl, hb1⟩
/-- is a number in a set -/
def hasI (s : B) (n : Int) : Bool := decide (0 ≤ n) && has s n.toNat
end Go.Proofs.YteefncohknclcaaGreatDoor
namespace Go.Proofs.YteefncohknclcaaGreatDoor
open Go.RowKit
theorem andNot_zero {s t : B} (h : ∀ k, has s k = true → has t k = true) : s &&& ~~~t = 0#64 := eq_zero_iff.2 fun k => by
  rw [has_and]
  by_cases hk : has s k = true
  · rw [has_not _ _ (has_lt hk), h k hk]; simp
  · simp [hk]
theorem andNot_zero_iff {s t : B} : s &&& ~~~t = 0#64 ↔ ∀ k, has s k = true → has t k = true := by
  refine ⟨fun h k hk => ?_, andNot_zero⟩
  have := eq_zero_iff.1 h k
  rw [has_and, hk, has_not _ _ (has_lt hk)] at this
  simpa using this
end Go.Proofs.YteefncohknclcaaGreatDoor
/- The walk through good, beside the rows of sets. Conditions: none. -/
namespace Go.Proofs.YteefncohknclcaaGreatDoor
open Go.RowKit
theorem chks_ball {r : List B} {s : B} (h : chks r [s] = 0) (i : Nat) : chks r [ball r i s] = 0 := by
  obtain ⟨hv, hs⟩ := chks_zero.1 h
  refine chks_zero.2 ⟨hv, fun t ht k hk => ?_⟩
  have : t = ball r i s := by simpa using ht
  subst this
  exact ball_in hv (hs s (by simp)) i k hk
end Go.Proofs.YteefncohknclcaaGreatDoor
