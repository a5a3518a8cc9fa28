/- The walks through reach.from, From, Within: the sets within so many steps, and the closure. Conditions: the table reads as listed. -/
import Derived.Test.YtlhomgbibhacoaaDoorReachW
import Derived.Test.YtlhomgbibhacoaaDoorBitsRankW
namespace Go.Proofs.YtlhomgbibhacoaaDoor
open Go.RowKit
/-- the state of the search: what is come to, and the edge of it -/
def FromInv (r : List B) (s : B) (i : Nat) (cur edge : B) : Prop :=
  cur = ball r i s ∧ (∀ k, has edge k = true → has cur k = true) ∧ (∀ n k, has cur n = true → has edge n = false → has (row r n) k = true → has cur k = true) ∧ i ≤ cnt cur + (if edge = 0#64 then 1 else 0)
theorem from_start (r : List B) (s : B) : FromInv r s 0 s s := ⟨rfl, fun _ h => h, (fun n k h1 h2 => by rw [h1] at h2; cases h2), Nat.zero_le _⟩
theorem from_round {r : List B} {s cur edge : B} {i : Nat} (h : FromInv r s i cur edge) (he : edge ≠ 0#64) : FromInv r s (i + 1) (cur ||| (stp r edge &&& ~~~cur)) (stp r edge &&& ~~~cur) := by
  obtain ⟨h1, h2, h3, h4⟩ := h
  rw [if_neg he] at h4
  have hor : ∀ k, has (cur ||| (stp r edge &&& ~~~cur)) k = true ↔ has cur k = true ∨ has (stp r edge) k = true := by
    intro k
    rw [has_or, has_and, Bool.or_eq_true, Bool.and_eq_true]
    constructor
    · rintro (h | ⟨h, _⟩)
      · exact .inl h
      · exact .inr h
    · rintro (h | h)
      · exact .inl h
      · by_cases hc : has cur k = true
        · exact .inl hc
        · refine .inr ⟨h, ?_⟩
          rw [has_not _ _ (has_lt h)]; simpa using hc
  have e1 : cur ||| (stp r edge &&& ~~~cur) = ball r (i + 1) s := by
    apply eq_of_iff
    intro k
    rw [hor, has_ball_succ, ← h1, has_stp]
    constructor
    · rintro (h | ⟨n, hn, h⟩)
      · exact .inl h
      · exact .inr ⟨n, h2 n hn, h⟩
    · rintro (h | ⟨n, hn, h⟩)
      · exact .inl h
      · by_cases hne : has edge n = true
        · exact .inr ⟨n, hne, h⟩
        · exact .inl (h3 n k hn (by simpa using hne) h)
  refine ⟨e1, fun k hk => ?_, fun n k hn hne hk => ?_, ?_⟩
  · rw [has_or, hk]; simp
  · rw [hor] at hn ⊢
    have hcn : has cur n = true := by
      rcases hn with h | h
      · exact h
      · rw [has_and, h] at hne
        by_cases hc : has cur n = true
        · exact hc
        · rw [has_not _ _ (has_lt h)] at hne
          simp at hne; exact hne
    by_cases hen : has edge n = true
    · exact .inr (has_stp.2 ⟨n, hen, hk⟩)
    · exact .inl (h3 n k hcn (by simpa using hen) hk)
  · by_cases h0 : stp r edge &&& ~~~cur = 0#64
    · rw [if_pos h0, h0]
      have : cur ||| 0#64 = cur := by simp
      rw [this]; omega
    · rw [if_neg h0]
      obtain ⟨x, hx⟩ := exists_of_ne h0
      have hx2 := hx
      rw [has_and, Bool.and_eq_true, has_not _ _ (has_lt hx)] at hx2
      have := cnt_lt_of (s := cur) (t := cur ||| (stp r edge &&& ~~~cur)) (fun k hk => by rw [has_or, hk]; rfl) (x := x) (by rw [has_or, hx]; simp) (by simpa using hx2.2)
      omega
theorem from_closed {r : List B} {s cur : B} {i : Nat} (h : FromInv r s i cur 0#64) : Closed r (ball r i s) := by
  obtain ⟨h1, _, h3, _⟩ := h
  rw [← h1]
  intro n k hn hk
  exact h3 n k hn (has_zero _) hk
theorem from_le {r : List B} {s cur edge : B} {i : Nat} (h : FromInv r s i cur edge) : i ≤ 65 := by
  have := cnt_le cur
  have h4 := h.2.2.2
  split at h4 <;> omega
def fromD (r : List B) (s : B) (d : Int) : B := if d < 0 then cls r s else ball r d.toNat s
theorem rows_one (w : World) (s : B) : RowsAt (w.alloc (.cells #[.int .u64 (un s : Int)] 28)) (some ⟨w.heap.size, 0, none⟩) 1 [s] := by
  refine ⟨⟨rfl, fun _ => ⟨_, rfl, by simp, fun j u hj => ?_⟩⟩, rfl, by unfold maxLen; omega⟩
  match j, hj with
  | 0, hj => simp [u64s] at hj; subst hj; simp [Addr.add]
theorem rows_two (w : World) (s t : B) : RowsAt (w.alloc (.cells #[.int .u64 (un s : Int), .int .u64 (un t : Int)] 28)) (some ⟨w.heap.size, 0, none⟩) 2 [s, t] := by
  refine ⟨⟨rfl, fun _ => ⟨_, rfl, by simp, fun j u hj => ?_⟩⟩, rfl, by unfold maxLen; omega⟩
  match j, hj with
  | 0, hj => simp [u64s] at hj; subst hj; simp [Addr.add]
  | 1, hj => simp [u64s] at hj; subst hj; simp [Addr.add]
theorem chks_in {r ss : List B} {s : B} (h : chks r ss = 0) (hs : s ∈ ss) : ∀ k, has s k = true → k < r.length := (chks_zero.1 h).2 s hs
theorem int_ne {x : Int} (h : x ≠ 0) : (x == 0) = false ∧ (x != 0) = true := ⟨by simpa using h, by simpa using h⟩
/-- is a number in a set -/
def hasI (s : B) (n : Int) : Bool := decide (0 ≤ n) && has s n.toNat
set_option maxHeartbeats 1000000 in
theorem has_ok (s : B) (n : Int) (w : World) : Calls Tryd.prog 18 #[.int .u64 (un s), .int .i64 n] w fun e w' => e = .returned (.bool (hasI s n)) ∧ w = w' := by
  by_cases h0 : 0 ≤ n
  · obtain ⟨k, rfl⟩ := Int.eq_ofNat_of_zero_le h0
    by_cases h1 : k < 64
    · have HV : Hid (hasI s (k : Int) = has s k) := by show hasI s k = _; unfold hasI; simp
      have hb := shr_bit s k
      cases hk : has s k
      · rw [hk] at HV hb
        simp only [Bool.false_eq_true, if_false] at hb
        clear hk
        go_enter Tryd.func18, Tryd.ntmps18
        go_wp2
        go_ret
        exact ⟨by rw [HV.out]; rfl, rfl⟩
      · rw [hk] at HV hb
        simp only [if_true] at hb
        clear hk
        go_enter Tryd.func18, Tryd.ntmps18
        go_wp2
        go_ret
        exact ⟨by rw [HV.out]; rfl, rfl⟩
    · have HV : Hid (hasI s (k : Int) = false) := by show hasI s k = _; unfold hasI; rw [has_ge (by omega)]; simp
      go_enter Tryd.func18, Tryd.ntmps18
      go_wp2
      go_ret
      exact ⟨by rw [HV.out]; rfl, rfl⟩
  · have HV : Hid (hasI s n = false) := by show hasI s n = _; unfold hasI; simp [h0]
    go_enter Tryd.func18, Tryd.ntmps18
    go_wp2
    go_ret
    exact ⟨by rw [HV.out]; rfl, rfl⟩
end Go.Proofs.YtlhomgbibhacoaaDoor
