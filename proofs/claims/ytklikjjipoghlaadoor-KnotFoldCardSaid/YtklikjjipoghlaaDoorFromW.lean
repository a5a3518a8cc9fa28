/- The walks through reach.from, From, Within: the sets within so many steps, and the closure. Conditions: the table reads as listed. -/
import Derived.Test.YtklikjjipoghlaaDoorReachW
import Derived.Test.YtklikjjipoghlaaDoorBitsRankW
namespace Go.Proofs.YtklikjjipoghlaaDoor
open Go.RowKit
/-- the state of the search: what is come to, and the edge of it -/
def FromInv (r : List B) (s : B) (i : Nat) (cur edge : B) : Prop :=
  cur = ball r i s ∧ (∀ k, has edge k = true → has cur k = true) ∧ (∀ n k, has cur n = true → has edge n = false → has (row r n) k = true → has cur k = true) ∧ i ≤ cnt cur + (if edge = 0#64 then 1 else 0)
theorem from_start (r : List B) (s : B) : FromInv r s 0 s s := ⟨rfl, fun _ h => h, (fun n k h1 h2 => by rw [h1] at h2; cases h2), Nat.zero_le _⟩
theorem from_round {r : List B} {s cur edge : B} {i : Nat} (h : FromInv r s i cur edge) (he : edge ≠ 0#64) : FromInv r s (i + 1) (cur ||| (stp r edge &&& ~~~cur)) (stp r edge &&& ~~~cur) := by
  obtain ⟨h1, h2, h3, h4⟩ := h
  rw [if_neg he] at h4
  have hor : ∀ k, has (cur ||| (stp r edge &&& ~~~cur)) k = true ↔ has cur k = true ∨ has (stp r edge) k = true := by
    intro k
    rw [has_or, has_and, Bool.or_eq_true, Bool.and_eq_true]
    constructor
    · rintro (h | ⟨h, _⟩)
      · exact .inl h
      · exact .inr h
    · rintro (h | h)
      · exact .inl h
      · by_cases hc : has cur k = true
        · exact .inl hc
        · refine .inr ⟨h, ?_⟩
          rw [has_not _ _ (has_lt h)]; simpa using hc
  have e1 : cur ||| (stp r edge &&& ~~~cur) = ball r (i + 1) s := by
    apply eq_of_iff
    intro k
    rw [hor, has_ball_succ, ← h1, has_stp]
    constructor
    · rintro (h | ⟨n, hn, h⟩)
      · exact .inl h
      · exact .inr ⟨n, h2 n hn, h⟩
    · rintro (h | ⟨n, hn, h⟩)
      · exact .inl h
      · by_cases hne : has edge n = true
        · exact .inr ⟨n, hne, h⟩
        · exact .inl (h3 n k hn (by simpa using hne) h)
  refine ⟨e1, fun k hk => ?_, fun n k hn hne hk => ?_, ?_⟩
  · rw [has_or, hk]; simp
  · rw [hor] at hn ⊢
    have hcn : has cur n = true := by
      rcases hn with h | h
      · exact h
      · rw [has_and, h] at hne
        by_cases hc : has cur n = true
        · exact hc
        · rw [has_not _ _ (has_lt h)] at hne
          simp at hne; exact hne
    by_cases hen : has edge n = true
    · exact .inr (has_stp.2 ⟨n, hen, hk⟩)
    · exact .inl (h3 n k hcn (by simpa using hen) hk)
  · by_cases h0 : stp r edge &&& ~~~cur = 0#64
    · rw [if_pos h0, h0]
      have : cur ||| 0#64 = cur := by simp
      rw [this]; omega
    · rw [if_neg h0]
      obtain ⟨x, hx⟩ := exists_of_ne h0
      have hx2 := hx
      rw [has_and, Bool.and_eq_true, has_not _ _ (has_lt hx)] at hx2
      have := cnt_lt_of (s := cur) (t := cur ||| (stp r edge &&& ~~~cur)) (fun k hk => by rw [has_or, hk]; rfl) (x := x) (by rw [has_or, hx]; simp) (by simpa using hx2.2)
      omega
theorem from_closed {r : List B} {s cur : B} {i : Nat} (h : FromInv r s i cur 0#64) : Closed r (ball r i s) := by
  obtain ⟨h1, _, h3, _⟩ := h
  rw [← h1]
  intro n k hn hk
  exact h3 n k hn (has_zero _) hk
theorem from_le {r : List B} {s cur edge : B} {i : Nat} (h : FromInv r s i cur edge) : i ≤ 65 := by
  have := cnt_le cur
  have h4 := h.2.2.2
  split at h4 <;> omega
def fromD (r : List B) (s : B) (d : Int) : B := if d < 0 then cls r s else ball r d.toNat s
set_option maxHeartbeats 1000000 in
theorem from_core (p : Option Addr) (n c : Nat) (r : List B) (hv : Valid r) (s : B) (hs : ∀ k, has s k = true → k < r.length) (d : Int) (hd : -1 ≤ d ∧ d ≤ 9223372036854775807) (w : World) (hR : RowsAt w p n r) (hT : Tab w) :
    Calls Tryd.prog 51 #[.slice p n c, .int .u64 (un s), .int .i64 d] w fun e w' => e = .returned (.int .u64 (un (fromD r s d))) ∧ w = w' := by
  have HS := Lib.hid hs
  have HV := Lib.hid hv
  clear hs hv
  go_enter Tryd.func51, Tryd.ntmps51
  go_wp2
  go_loop [1, 2, 7] (fun x y z => ∃ (i : Nat) (cur edge : B), i ≤ 65 ∧ (0 ≤ d → (i : Int) ≤ d) ∧ x = .int .u64 (un cur) ∧ y = .int .i64 (d - i) ∧ z = .int .u64 (un edge) ∧ Hid (FromInv r s i cur edge)) (fun _ y _ => (intOf y - d + 66).toNat)
  case atStart => exact ⟨0, s, s, by omega, by omega, rfl, by simp, rfl, from_start r s⟩
  case round =>
    obtain ⟨i, cur, edge, hi, hid, rfl, rfl, rfl, HF⟩ := hrel
    by_cases he : edge = 0#64
    · have e0 : (un edge : Int) = 0 := un_zero_int he
      have HE : Hid (fromD r s d = cur) := by
        show fromD r s d = cur
        unfold fromD
        have hF := HF.out
        rw [he] at hF
        have hcl := from_closed hF
        split
        · rw [cls_eq hcl, hF.1]
        · rw [ball_stable hcl d.toNat (by omega), hF.1]
      clear he HF
      go_wp2
      go_ret
      exact ⟨by rw [HE.out]; rfl, rfl⟩
    · have e0 := un_ne0 he
      have e1 := un_ne1 he
      by_cases hz : d - (i : Int) = 0
      · have HE : Hid (fromD r s d = cur) := by
          show fromD r s d = cur
          unfold fromD
          rw [if_neg (by omega), HF.out.1]
          congr 1; omega
        have hz1 : (d - (i : Int) == 0) = true := by simpa using hz
        have hz2 : (d - (i : Int) != 0) = false := by simpa using hz
        clear he HF hz
        go_wp2
        go_ret
        exact ⟨by rw [HE.out]; rfl, rfl⟩
      · have hzb : (d - (i : Int) == 0) = false := by simpa using hz
        have hzc : (d - (i : Int) != 0) = true := by simpa using hz
        have hsub : ∀ k, has edge k = true → k < r.length := fun k hk => ball_in HV.out HS.out i k (by rw [← HF.out.1]; exact HF.out.2.1 k hk)
        have HB := Lib.hid hsub
        have HN := Lib.hid (from_round HF.out he)
        have hi' : i + 1 ≤ 65 := from_le HN.out
        have hid' : 0 ≤ d → (i : Int) + 1 ≤ d := by intro h; have := hid h; omega
        clear he HF hsub hid
        go_wp2_with (go_at_call 69; refine (step_ok _ _ _ r edge HB.out _ hR hT).mono ?_; rintro e w' ⟨rfl, rfl⟩)
        go_round
        case rel => exact ⟨i + 1, _, _, by omega, fun h => by have := hid' h; omega, rfl, by go_num, rfl, HN.out⟩
        case measure => simp [intOf]; omega
theorem from_all (p : Option Addr) (n c : Nat) (r : List B) (hv : Valid r) (s : B) (hs : ∀ k, has s k = true → k < r.length) (w : World) (hR : RowsAt w p n r) (hT : Tab w) :
    Calls Tryd.prog 51 #[.slice p n c, .int .u64 (un s), .int .i64 (-1)] w fun e w' => e = .returned (.int .u64 (un (cls r s))) ∧ w = w' := from_core p n c r hv s hs (-1) (by omega) w hR hT
theorem from_some (p : Option Addr) (n c : Nat) (r : List B) (hv : Valid r) (s : B) (hs : ∀ k, has s k = true → k < r.length) (d : Int) (hd : 0 ≤ d ∧ d ≤ 9223372036854775807) (w : World) (hR : RowsAt w p n r) (hT : Tab w) :
    Calls Tryd.prog 51 #[.slice p n c, .int .u64 (un s), .int .i64 d] w fun e w' => e = .returned (.int .u64 (un (ball r d.toNat s))) ∧ w = w' := by
  have h := from_core p n c r hv s hs d (by omega) w hR hT
  unfold fromD at h
  rw [if_neg (by omega)] at h
  exact h
theorem rows_one (w : World) (s : B) : RowsAt (w.alloc (.cells #[.int .u64 (un s : Int)] 28)) (some ⟨w.heap.size, 0, none⟩) 1 [s] := by
  refine ⟨⟨rfl, fun _ => ⟨_, rfl, by simp, fun j u hj => ?_⟩⟩, rfl, by unfold maxLen; omega⟩
  match j, hj with
  | 0, hj => simp [u64s] at hj; subst hj; simp [Addr.add]
theorem rows_two (w : World) (s t : B) : RowsAt (w.alloc (.cells #[.int .u64 (un s : Int), .int .u64 (un t : Int)] 28)) (some ⟨w.heap.size, 0, none⟩) 2 [s, t] := by
  refine ⟨⟨rfl, fun _ => ⟨_, rfl, by simp, fun j u hj => ?_⟩⟩, rfl, by unfold maxLen; omega⟩
  match j, hj with
  | 0, hj => simp [u64s] at hj; subst hj; simp [Addr.add]
  | 1, hj => simp [u64s] at hj; subst hj; simp [Addr.add]
theorem chks_in {r ss : List B} {s : B} (h : chks r ss = 0) (hs : s ∈ ss) : ∀ k, has s k = true → k < r.length := (chks_zero.1 h).2 s hs
theorem int_ne {x : Int} (h : x ≠ 0) : (x == 0) = false ∧ (x != 0) = true := ⟨by simpa using h, by simpa using h⟩
set_option maxHeartbeats 1000000 in
theorem From_yes (p : Option Addr) (n c : Nat) (r : List B) (s : B) (h : chks r [s] = 0) (w : World) (hR : RowsAt w p n r) (hT : Tab w) :
    Calls Tryd.prog 31 #[.slice p n c, .int .u64 (un s)] w fun e w' => e = .returned (.tuple #[.int .u64 (un (cls r s)), .int .i64 0]) ∧ Below w.heap.size w w' := by
  have H := Lib.hid h
  clear h
  have hb1 : Below w.heap.size w (w.alloc (.cells #[.int .u64 (un s : Int)] 28)) := (Below.refl _ _).alloc (Nat.le_refl _) _
  have hR1 := hR.below hb1
  have hT1 := hT.below hb1
  go_enter Tryd.func31, Tryd.ntmps31
  go_wp2_with (first | (go_at_call 61; refine (checks_ok _ _ _ r _ _ _ [s] _ hR1 (rows_one w s)).mono ?_; rw [H.out]; rintro e w' ⟨rfl, rfl⟩) | (go_at_call 51; refine (from_all _ _ _ r (chks_zero.1 H.out).1 s (chks_in H.out (by simp)) _ hR1 hT1).mono ?_; rintro e w' ⟨rfl, rfl⟩))
  go_ret2
  exact ⟨rfl, hb1⟩
set_option maxHeartbeats 1000000 in
theorem From_no (p : Option Addr) (n c : Nat) (r : List B) (s : B) (h : chks r [s] ≠ 0) (w : World) (hR : RowsAt w p n r) :
    Calls Tryd.prog 31 #[.slice p n c, .int .u64 (un s)] w fun e w' => e = .returned (.tuple #[.int .u64 0, .int .i64 (chks r [s])]) ∧ Below w.heap.size w w' := by
  obtain ⟨h1, h2⟩ := int_ne h
  clear h
  have hb1 : Below w.heap.size w (w.alloc (.cells #[.int .u64 (un s : Int)] 28)) := (Below.refl _ _).alloc (Nat.le_refl _) _
  have hR1 := hR.below hb1
  go_enter Tryd.func31, Tryd.ntmps31
  go_wp2_with (go_at_call 61; refine (checks_ok _ _ _ r _ _ _ [s] _ hR1 (rows_one w s)).mono ?_; rintro e w' ⟨rfl, rfl⟩)
  go_ret2
  exact ⟨rfl, hb1⟩
/-- is a number in a set -/
def hasI (s : B) (n : Int) : Bool := decide (0 ≤ n) && has s n.toNat
set_option maxHeartbeats 1000000 in
theorem has_ok (s : B) (n : Int) (w : World) : Calls Tryd.prog 18 #[.int .u64 (un s), .int .i64 n] w fun e w' => e = .returned (.bool (hasI s n)) ∧ w = w' := by
  by_cases h0 : 0 ≤ n
  · obtain ⟨k, rfl⟩ := Int.eq_ofNat_of_zero_le h0
    by_cases h1 : k < 64
    · have HV : Hid (hasI s (k : Int) = has s k) := by show hasI s k = _; unfold hasI; simp
      have hb := shr_bit s k
      cases hk : has s k
      · rw [hk] at HV hb
        simp only [Bool.false_eq_true, if_false] at hb
        clear hk
        go_enter Tryd.func18, Tryd.ntmps18
        go_wp2
        go_ret
        exact ⟨by rw [HV.out]; rfl, rfl⟩
      · rw [hk] at HV hb
        simp only [if_true] at hb
        clear hk
        go_enter Tryd.func18, Tryd.ntmps18
        go_wp2
        go_ret
        exact ⟨by rw [HV.out]; rfl, rfl⟩
    · have HV : Hid (hasI s (k : Int) = false) := by show hasI s k = _; unfold hasI; rw [has_ge (by omega)]; simp
      go_enter Tryd.func18, Tryd.ntmps18
      go_wp2
      go_ret
      exact ⟨by rw [HV.out]; rfl, rfl⟩
  · have HV : Hid (hasI s n = false) := by show hasI s n = _; unfold hasI; simp [h0]
    go_enter Tryd.func18, Tryd.ntmps18
    go_wp2
    go_ret
    exact ⟨by rw [HV.out]; rfl, rfl⟩
end Go.Proofs.YtklikjjipoghlaaDoor
