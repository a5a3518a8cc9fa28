/- Texts joined: BetweenW, Way, EvalP, EvalL, AskM. Conditions: theirs. -/
import Derived.Test.YteefncohknclcaaGreatDoorAskBoundLWM5
import Derived.Test.YteefncohknclcaaGreatDoorNormP
import Derived.Test.YteefncohknclcaaGreatDoorPatP
import Derived.Test.YteefncohknclcaaGreatDoorAskP
import Derived.Below
import Derived.Test.YteefncohknclcaaGreatDoorProg
namespace Go.Proofs.YteefncohknclcaaGreatDoor
open Go.RowKit
def betw (r : List B) (a b : B) : B := cls r a &&& cls (bk r) b
theorem chks_two {r : List B} {a b : B} (h : chks r [a, b] = 0) : Valid r ∧ chks r [a] = 0 ∧ chks r [b] = 0 ∧ chks (bk r) [b] = 0 := by
  obtain ⟨hv, hs⟩ := chks_zero.1 h
  refine ⟨hv, chks_bits hv fun s hs' => ?_, chks_bits hv fun s hs' => ?_, chks_bits (valid_bk hv) fun s hs' => ?_⟩
  · exact hs s (by simp at hs'; simp [hs'])
  · exact hs s (by simp at hs'; simp [hs'])
  · rw [bk_len]; exact hs s (by simp at hs'; simp [hs'])
set_option maxHeartbeats 1000000 in
theorem Between_yes (p : Option Addr) (n c : Nat) (r : List B) (a b : B) (h : chks r [a, b] = 0) (w : World) (hR : RowsAt w p n r) (hT : Tab w) :
    Calls Tryz.prog 64 #[.slice p n c, .int .u64 (un a), .int .u64 (un b)] w fun e w' => e = .returned (.tuple #[.int .u64 (un (betw r a b)), .int .i64 0]) ∧ Below w.heap.size w w' := by
  have H := Lib.hid h
  obtain ⟨hv, h1, _, h3⟩ := chks_two h
  have HV := Lib.hid hv
  have H1 := Lib.hid h1
  have H3 := Lib.hid h3
  have HL := Lib.hid hR.len
  clear h hv h1 h3
  have hb1 : Below w.heap.size w (w.alloc (.cells #[.int .u64 (un a : Int), .int .u64 (un b : Int)] 24)) := (Below.refl _ _).alloc (Nat.le_refl _) _
  have hR1 := hR.below hb1
  have hT1 := hT.below hb1
  have hbig := Lib.hid hR.big
  have HB : Hid (cls r a &&& cls (bk r) b = betw r a b) := rfl
  go_enter Tryz.func64, Tryz.ntmps64
  go_wp2_with (first | (go_at_call 91; refine (checks_ok _ _ _ r _ _ _ [a, b] _ hR1 (rows_two w a b)).mono ?_; rw [H.out]; rintro e w' ⟨rfl, rfl⟩) | (go_at_call 92; refine (from_all _ _ _ r HV.out a (chks_in H1.out (by simp)) _ hR1 hT1).mono ?_; rintro e w' ⟨rfl, rfl⟩))
  refine (back_ok p n c r HV.out _ hR1 hT1).mono ?_
  rintro e w1 ⟨g, cg, rfl, hown, hb2⟩
  have hR2 := rows_own hown (by rw [bk_len]; exact HL.out) hbig.out
  have hT2 := hT1.below hb2
  have hb := below_next hb1 hb2
  clear hown hb1 hb2 hT1 hT hR hR1
  go_wp2_with fail
  refine (from_all _ _ _ (bk r) (valid_bk HV.out) b (chks_in H3.out (by simp)) _ hR2 hT2).mono ?_
  rintro e w' ⟨rfl, rfl⟩
  go_wp2
  go_ret2
  exact ⟨rfl, hb⟩
set_option maxHeartbeats 1000000 in
theorem Between_no (p : Option Addr) (n c : Nat) (r : List B) (a b : B) (h : chks r [a, b] ≠ 0) (w : World) (hR : RowsAt w p n r) :
    Calls Tryz.prog 64 #[.slice p n c, .int .u64 (un a), .int .u64 (un b)] w fun e w' => e = .returned (.tuple #[.int .u64 0, .int .i64 (chks r [a, b])]) ∧ Below w.heap.size w w' := by
  obtain ⟨h1, h2⟩ := int_ne h
  clear h
  have hb1 : Below w.heap.size w (w.alloc (.cells #[.int .u64 (un a : Int), .int .u64 (un b : Int)] 24)) := (Below.refl _ _).alloc (Nat.le_refl _) _
  have hR1 := hR.below hb1
  go_enter Tryz.func64, Tryz.ntmps64
  go_wp2_with (go_at_call 91; refine (checks_ok _ _ _ r _ _ _ [a, b] _ hR1 (rows_two w a b)).mono ?_; rintro e w' ⟨rfl, rfl⟩)
  go_ret2
  exact ⟨rfl, hb1⟩
theorem has_betw {r : List B} (hv : Valid r) {a b : B} {k : Nat} : has (betw r a b) k = true ↔ has (cls r a) k = true ∧ ∃ j, has b j = true ∧ Rch r k j := by
  unfold betw
  rw [has_and, Bool.and_eq_true, has_cls (r := bk r)]
  simp only [rch_bk hv]
theorem betw_one {r : List B} (hv : Valid r) {a b : B} {k : Nat} (h : has (betw r a b) k = true) : has (cls r a) k = true ∧ cls r (1#64 <<< k) &&& b ≠ 0#64 := by
  obtain ⟨h1, j, hj, hr⟩ := (has_betw hv).1 h
  refine ⟨h1, fun h0 => ?_⟩
  have := eq_zero_iff.1 h0 j
  rw [has_and, hj, (has_cls_one (has_lt h1)).2 hr] at this
  cases this
theorem betw_ne {r : List B} (hv : Valid r) {a b : B} : betw r a b ≠ 0#64 ↔ cls r a &&& b ≠ 0#64 := by
  constructor
  · intro h h0
    obtain ⟨k, hk⟩ := exists_of_ne h
    obtain ⟨h1, j, hj, hr⟩ := (has_betw hv).1 hk
    obtain ⟨x, hx, hrx⟩ := has_cls.1 h1
    have := eq_zero_iff.1 h0 j
    rw [has_and, hj, has_cls.2 ⟨x, hx, hrx.trans hr⟩] at this
    cases this
  · intro h h0
    obtain ⟨k, hk⟩ := exists_of_ne h
    rw [has_and, Bool.and_eq_true] at hk
    have := eq_zero_iff.1 h0 k
    rw [(has_betw hv).2 ⟨hk.1, k, hk.2, .refl k⟩] at this
    cases this
theorem betw_ends {r : List B} (hv : Valid r) {a b : B} : (cls r a &&& b) &&& ~~~betw r a b = 0#64 := andNot_zero fun k hk => by
  rw [has_and, Bool.and_eq_true] at hk
  exact (has_betw hv).2 ⟨hk.1, k, hk.2, .refl k⟩
end Go.Proofs.YteefncohknclcaaGreatDoor
namespace Go.Proofs.YteefncohknclcaaGreatDoor
/-- from whom the set b is come to within so many steps -/
def DD (r : List B) (b : B) (j : Nat) : B := ball (bk r) j b
theorem DD_zero (r : List B) (b : B) : DD r b 0 = b := rfl
theorem DD_succ {r : List B} (hv : Valid r) {b : B} {j n : Nat} : has (DD r b (j + 1)) n = true ↔ has (DD r b j) n = true ∨ ∃ k, has (DD r b j) k = true ∧ has (row r n) k = true := by
  unfold DD
  rw [has_ball_succ]
  simp only [edge_bk hv]
theorem DD_mono {r : List B} {b : B} {i j : Nat} (h : i ≤ j) {k : Nat} (hk : has (DD r b i) k = true) : has (DD r b j) k = true := ball_mono h hk
theorem DD_in {r : List B} {a b : B} (h : chks r [a, b] = 0) {j k : Nat} (hk : has (DD r b j) k = true) : k < r.length := by
  obtain ⟨hv, _, _, h3⟩ := chks_two h
  have := ball_in (valid_bk hv) ((chks_zero.1 h3).2 b (by simp)) j k hk
  rwa [bk_len] at this
theorem and_ne {s t : B} : s &&& t ≠ 0#64 ↔ ∃ k, has s k = true ∧ has t k = true := by
  constructor
  · intro h
    obtain ⟨k, hk⟩ := exists_of_ne h
    rw [has_and, Bool.and_eq_true] at hk
    exact ⟨k, hk⟩
  · rintro ⟨k, h1, h2⟩ h0
    have := eq_zero_iff.1 h0 k
    rw [has_and, h1, h2] at this; cases this
/-- the distance from a into b -/
structure Dist (r : List B) (a b : B) (d : Nat) : Prop where
  at_ : a &&& DD r b d ≠ 0#64
  before : ∀ j, j < d → a &&& DD r b j = 0#64
/-- the number that the walk takes, d steps away from b -/
def wayN (r : List B) (b : B) (d : Nat) (a : B) : Nat := low (a &&& DD r b d)
theorem wayN_spec {r : List B} {a b : B} {d : Nat} (h : Dist r a b d) : has a (wayN r b d a) = true ∧ has (DD r b d) (wayN r b d a) = true ∧ (∀ j, j < d → has (DD r b j) (wayN r b d a) = false) ∧ ∀ k, has a k = true → has (DD r b d) k = true → wayN r b d a ≤ k := by
  have hl := has_low h.at_
  rw [has_and, Bool.and_eq_true] at hl
  refine ⟨hl.1, hl.2, fun j hj => ?_, fun k h1 h2 => ?_⟩
  · have := eq_zero_iff.1 (h.before j hj) (wayN r b d a)
    rw [has_and] at this
    unfold wayN at this ⊢
    rw [hl.1] at this
    simpa using this
  · rcases Nat.lt_or_ge k (wayN r b d a) with h3 | h3
    · have := low_least h.at_ h3
      rw [has_and, h1, h2] at this; cases this
    · exact h3
/-- from a number that lies d + 1 steps away, the row has one that lies d steps away -/
theorem dist_row {r : List B} (hv : Valid r) {b : B} {d n : Nat} (h1 : has (DD r b (d + 1)) n = true) (h2 : ∀ j, j < d + 1 → has (DD r b j) n = false) : Dist r (row r n) b d := by
  refine ⟨?_, fun j hj => ?_⟩
  · rcases (DD_succ hv).1 h1 with h | ⟨k, hk, hr⟩
    · rw [h2 d (by omega)] at h; cases h
    · exact and_ne.2 ⟨k, hr, hk⟩
  · by_cases h0 : row r n &&& DD r b j = 0#64
    · exact h0
    · obtain ⟨k, hr, hk⟩ := and_ne.1 h0
      have := (DD_succ (n := n) hv).2 (.inr ⟨k, hk, hr⟩)
      rw [h2 (j + 1) (by omega)] at this; cases this
theorem dist_next {r : List B} (hv : Valid r) {a b : B} {d : Nat} (h : Dist r a b (d + 1)) : Dist r (row r (wayN r b (d + 1) a)) b d := by
  obtain ⟨_, h2, h3, _⟩ := wayN_spec h
  exact dist_row hv h2 h3
/-- a walk of so many numbers -/
def wayL (r : List B) (b : B) : Nat → B → List Nat
  | 0, _ => []
  | d + 1, a => wayN r b d a :: wayL r b d (row r (wayN r b d a))
theorem wayL_len (r : List B) (b : B) (d : Nat) (a : B) : (wayL r b d a).length = d := by
  induction d generalizing a with
  | zero => rfl
  | succ d ih => show (_ :: _).length = _; rw [List.length_cons, ih]
/-- the walk's j-th number lies d - j steps away -/
theorem wayL_at {r : List B} (hv : Valid r) {a b : B} {d : Nat} (h : Dist r a b d) {j : Nat} (hj : j ≤ d) :
    has (DD r b (d - j)) ((wayL r b (d + 1) a).getD j 0) = true ∧ (∀ i, i < d - j → has (DD r b i) ((wayL r b (d + 1) a).getD j 0) = false) := by
  induction d generalizing a j with
  | zero =>
    have : j = 0 := by omega
    subst this
    exact ⟨(wayN_spec h).2.1, (wayN_spec h).2.2.1⟩
  | succ d ih =>
    cases j with
    | zero => exact ⟨(wayN_spec h).2.1, (wayN_spec h).2.2.1⟩
    | succ j =>
      have := ih (dist_next hv h) (j := j) (by omega)
      rw [show d + 1 - (j + 1) = d - j by omega]
      exact this
theorem wayL_edge {r : List B} (hv : Valid r) {a b : B} {d : Nat} (h : Dist r a b d) {j : Nat} (hj : j < d) :
    has (row r ((wayL r b (d + 1) a).getD j 0)) ((wayL r b (d + 1) a).getD (j + 1) 0) = true := by
  induction d generalizing a j with
  | zero => omega
  | succ d ih =>
    cases j with
    | zero => exact (wayN_spec (dist_next hv h)).1
    | succ j => exact ih (dist_next hv h) (j := j) (by omega)
theorem wayL_first {r : List B} {a b : B} {d : Nat} (h : Dist r a b d) : has a ((wayL r b (d + 1) a).getD 0 0) = true := (wayN_spec h).1
theorem wayL_last {r : List B} (hv : Valid r) {a b : B} {d : Nat} (h : Dist r a b d) : has b ((wayL r b (d + 1) a).getD d 0) = true := by
  have := (wayL_at hv h (j := d) (Nat.le_refl _)).1
  rw [Nat.sub_self] at this
  exact this
theorem wayL_lt {r : List B} {a b : B} (hc : chks r [a, b] = 0) {d : Nat} (h : Dist r a b d) {j : Nat} (hj : j ≤ d) : (wayL r b (d + 1) a).getD j 0 < r.length :=
  DD_in hc (wayL_at (chks_two hc).1 h hj).1
/-- no number stands twice -/
theorem wayL_ne {r : List B} (hv : Valid r) {a b : B} {d : Nat} (h : Dist r a b d) {i j : Nat} (hij : i < j) (hj : j ≤ d) : (wayL r b (d + 1) a).getD i 0 ≠ (wayL r b (d + 1) a).getD j 0 := by
  intro e
  have h1 := (wayL_at hv h (j := i) (by omega)).2 (d - j) (by omega)
  have h2 := (wayL_at hv h hj).1
  rw [← e, h1] at h2; cases h2
/-- a step along the walk: the way of its second number is the rest -/
theorem wayL_step {r : List B} (hv : Valid r) {a b : B} {d : Nat} (h : Dist r a b (d + 1)) :
    Dist r (1#64 <<< (wayL r b (d + 2) a).getD 1 0) b d ∧ wayL r b (d + 1) (1#64 <<< (wayL r b (d + 2) a).getD 1 0) = (wayL r b (d + 2) a).drop 1 := by
  have hd := dist_next hv h
  obtain ⟨_, h2, h3, _⟩ := wayN_spec hd
  have e : (wayL r b (d + 2) a).getD 1 0 = wayN r b d (row r (wayN r b (d + 1) a)) := rfl
  rw [e]
  have hD : Dist r (1#64 <<< wayN r b d (row r (wayN r b (d + 1) a))) b d := by
    refine ⟨and_ne.2 ⟨_, (by rw [has_one _ _ (has_lt h2)]; simp), h2⟩, fun j hj => eq_zero_iff.2 fun k => ?_⟩
    rw [has_and]
    cases hk : has (1#64 <<< wayN r b d (row r (wayN r b (d + 1) a))) k
    · rfl
    · rw [has_one _ _ (has_lt hk)] at hk
      have : k = wayN r b d (row r (wayN r b (d + 1) a)) := by simpa using hk
      subst this
      rw [h3 j hj]; rfl
  refine ⟨hD, ?_⟩
  have hn : wayN r b d (1#64 <<< wayN r b d (row r (wayN r b (d + 1) a))) = wayN r b d (row r (wayN r b (d + 1) a)) := by
    have := (wayN_spec hD).1
    rw [has_one _ _ (has_lt this)] at this
    simpa using this
  show wayN r b d _ :: wayL r b d _ = _
  rw [hn]; rfl
/-- there is a distance just where the closure meets the set -/
theorem dist_or {r : List B} (a b : B) (d : Nat) : (∃ k, k ≤ d ∧ Dist r a b k) ∨ ∀ j, j ≤ d → a &&& DD r b j = 0#64 := by
  induction d with
  | zero =>
    by_cases h : a &&& DD r b 0 = 0#64
    · exact .inr fun j hj => by have : j = 0 := by omega
                                subst this; exact h
    · exact .inl ⟨0, Nat.le_refl _, h, fun j hj => absurd hj (by omega)⟩
  | succ d ih =>
    rcases ih with ⟨k, hk, h⟩ | h
    · exact .inl ⟨k, by omega, h⟩
    · by_cases h2 : a &&& DD r b (d + 1) = 0#64
      · exact .inr fun j hj => by
          rcases Nat.lt_or_ge j (d + 1) with h3 | h3
          · exact h j (by omega)
          · have : j = d + 1 := by omega
            subst this; exact h2
      · exact .inl ⟨d + 1, Nat.le_refl _, h2, fun j hj => h j (by omega)⟩
/-- a ring that stops growing is closed -/
theorem DD_stop {r : List B} {b : B} {j : Nat} (h : DD r b (j + 1) = DD r b j) : Closed (bk r) (DD r b j) := by
  intro n k hn hk
  have : has (DD r b (j + 1)) k = true := has_ball_succ.2 (.inr ⟨n, hn, hk⟩)
  rw [h] at this; exact this
theorem DD_stop_all {r : List B} {b : B} {j : Nat} (h : DD r b (j + 1) = DD r b j) (i : Nat) (k : Nat) (hk : has (DD r b i) k = true) : has (DD r b j) k = true :=
  ball_least (DD_stop h) (fun _ hk => ball_self j hk) i k hk
/-- a ring that grows has more numbers -/
theorem DD_grow {r : List B} {b : B} {j : Nat} (h : DD r b (j + 1) ≠ DD r b j) : cnt (DD r b j) < cnt (DD r b (j + 1)) := by
  refine not_closed (r := bk r) (i := j) (s := b) fun hc => h ?_
  exact eq_of_iff fun k => ⟨fun hk => ball_least hc (fun k hk => ball_self j hk) (j + 1) k hk, fun hk => ball_mono (Nat.le_succ j) hk⟩
/-- no distance, then nothing between -/
theorem far_none {r : List B} (hv : Valid r) {a b : B} : (∀ j, a &&& DD r b j = 0#64) ↔ betw r a b = 0#64 := by
  constructor
  · intro h
    by_cases h0 : betw r a b = 0#64
    · exact h0
    · have := (betw_ne hv).1 h0
      obtain ⟨k, hk, hb⟩ := and_ne.1 this
      obtain ⟨x, hx, hr⟩ := has_cls.1 hk
      have h2 : has (cls (bk r) b) x = true := has_cls.2 ⟨k, hb, (rch_bk hv).2 hr⟩
      exact absurd (and_ne.2 ⟨x, hx, h2⟩) (by rw [show cls (bk r) b = DD r b 64 from rfl, h 64]; simp)
  · intro h j
    by_cases h0 : a &&& DD r b j = 0#64
    · exact h0
    · obtain ⟨x, hx, hb⟩ := and_ne.1 h0
      have hc : has (cls (bk r) b) x = true := ball_least (cls_closed (bk r) b) (fun k hk => cls_self hk) j x hb
      have : has (betw r a b) x = true := by unfold betw; rw [has_and, cls_self hx, hc]; rfl
      rw [h, has_zero] at this; cases this
theorem dist_betw {r : List B} (hv : Valid r) {a b : B} {d : Nat} (h : Dist r a b d) : betw r a b ≠ 0#64 := fun h0 => h.at_ ((far_none hv).2 h0 d)
/-- all numbers of the walk lie between -/
theorem wayL_betw {r : List B} (hv : Valid r) {a b : B} {d : Nat} (h : Dist r a b d) {j : Nat} (hj : j ≤ d) : has (betw r a b) ((wayL r b (d + 1) a).getD j 0) = true := by
  have h1 : has (cls r a) ((wayL r b (d + 1) a).getD j 0) = true := by
    induction j with
    | zero => exact cls_self (wayL_first h)
    | succ j ih => exact cls_closed r a _ _ (ih (by omega)) (wayL_edge hv h (by omega))
  have h2 : has (cls (bk r) b) ((wayL r b (d + 1) a).getD j 0) = true := ball_least (cls_closed (bk r) b) (fun k hk => cls_self hk) (d - j) _ (wayL_at hv h hj).1
  unfold betw
  rw [has_and, h1, h2]; rfl
/-- a walk into b of so many numbers starts within so many steps -/
theorem walk_in {r : List B} (hv : Valid r) {b : B} (l : List Nat) (hne : l ≠ []) (he : ∀ j, j + 1 < l.length → has (row r (l.getD j 0)) (l.getD (j + 1) 0) = true) (hb : has b (l.getD (l.length - 1) 0) = true) : has (DD r b (l.length - 1)) (l.getD 0 0) = true := by
  induction l with
  | nil => exact absurd rfl hne
  | cons x l ih =>
    cases l with
    | nil => exact hb
    | cons y l =>
      have h1 := ih (by simp) (fun j hj => he (j + 1) (by simpa using hj)) (by simpa using hb)
      have h2 := he 0 (by simp)
      have : (x :: y :: l).length - 1 = (y :: l).length - 1 + 1 := by simp
      rw [this]
      exact (DD_succ hv).2 (.inr ⟨y, h1, h2⟩)
/-- the walk is the least among those of its length -/
theorem wayL_least {r : List B} (hv : Valid r) {b : B} {d : Nat} {a : B} (h : Dist r a b d) (l : List Nat) (hl : l.length = d + 1) (ha : has a (l.getD 0 0) = true)
    (he : ∀ j, j + 1 < l.length → has (row r (l.getD j 0)) (l.getD (j + 1) 0) = true) (hb : has b (l.getD (l.length - 1) 0) = true) :
    wayL r b (d + 1) a = l ∨ ∃ k, k < d + 1 ∧ (wayL r b (d + 1) a).take k = l.take k ∧ (wayL r b (d + 1) a).getD k 0 < l.getD k 0 := by
  induction d generalizing a l with
  | zero =>
    match l, hl with
    | [x], _ =>
      have h2 := (wayN_spec h).2.2.2 x ha hb
      show [wayN r b 0 a] = [x] ∨ _
      rcases Nat.lt_or_ge (wayN r b 0 a) x with h3 | h3
      · exact .inr ⟨0, by omega, rfl, h3⟩
      · left; rw [show wayN r b 0 a = x by omega]
  | succ d ih =>
    match l, hl with
    | x :: l, hl =>
      have hl' : l.length = d + 1 := by simpa using hl
      have hne : l ≠ [] := fun e => by subst e; simp at hl'
      have hx : has (DD r b (d + 1)) x = true := by
        have := walk_in hv (x :: l) (by simp) he hb
        rw [hl] at this; exact this
      have h2 := (wayN_spec h).2.2.2 x ha hx
      rcases Nat.lt_or_ge (wayN r b (d + 1) a) x with h3 | h3
      · exact .inr ⟨0, by omega, rfl, h3⟩
      · have hxe : wayN r b (d + 1) a = x := by omega
        have he0 : has (row r x) (l.getD 0 0) = true := he 0 (by simp; omega)
        have hb' : has b (l.getD (l.length - 1) 0) = true := by
          have e : (x :: l).getD ((x :: l).length - 1) 0 = l.getD (l.length - 1) 0 := by
            rw [hl, hl']; rfl
          rw [← e]; exact hb
        have := ih (a := row r x) (hxe ▸ dist_next hv h) l hl' he0 (fun j hj => he (j + 1) (by simpa using hj)) hb'
        show wayN r b (d + 1) a :: wayL r b (d + 1) (row r (wayN r b (d + 1) a)) = _ ∨ ∃ k, k < _ ∧ (wayN r b (d + 1) a :: wayL r b (d + 1) (row r (wayN r b (d + 1) a))).take k = _ ∧ (wayN r b (d + 1) a :: wayL r b (d + 1) (row r (wayN r b (d + 1) a))).getD k 0 < _
        rw [hxe]
        rcases this with h4 | ⟨k, hk, h5, h6⟩
        · left; rw [h4]
        · right
          refine ⟨k + 1, by omega, ?_, h6⟩
          rw [List.take_succ_cons, List.take_succ_cons, h5]
end Go.Proofs.YteefncohknclcaaGreatDoor
namespace Go.Proofs.YteefncohknclcaaGreatDoor
/-- a name of the graph, as bytes -/
def gnm (g : GD) (n : Nat) : Txt := (g.names.getD n ByteArray.empty).data.toList
/-- the number of a name -/
def gidx (g : GD) (s : Txt) : Nat := g.names.findIdx fun x => x.data.toList == s
def ghas (g : GD) (s : Txt) : Prop := ∃ n, n < g.names.length ∧ gnm g n = s
theorem gidx_at {g : GD} {s : Txt} (h : ghas g s) : gidx g s < g.names.length ∧ gnm g (gidx g s) = s := by
  obtain ⟨n, hn, e⟩ := h
  have hm : ∃ x ∈ g.names, (x.data.toList == s) = true := by
    refine ⟨g.names[n], List.getElem_mem hn, ?_⟩
    unfold gnm at e
    rw [List.getD_eq_getElem?_getD, List.getElem?_eq_getElem hn] at e
    simpa using e
  have h1 : gidx g s < g.names.length := List.findIdx_lt_length_of_exists hm
  refine ⟨h1, ?_⟩
  have h2 : (g.names[gidx g s].data.toList == s) = true := List.findIdx_getElem (w := h1)
  unfold gnm
  rw [List.getD_eq_getElem?_getD, List.getElem?_eq_getElem h1]
  simpa using h2
/-- the set that a walk is -/
noncomputable def someS (r : List B) (a b : B) : B := by
  classical
  exact if h : ∃ d, Dist r a b d then ofL (wayL r b (h.choose + 1) a) else 0#64
theorem dist_one {r : List B} {a b : B} {d e : Nat} (h : Dist r a b d) (h2 : Dist r a b e) : d = e := by
  rcases Nat.lt_trichotomy d e with h3 | h3 | h3
  · exact absurd (h2.before d h3) h.at_
  · exact h3
  · exact absurd (h.before e h3) h2.at_
theorem someS_yes {r : List B} {a b : B} {d : Nat} (h : Dist r a b d) : someS r a b = ofL (wayL r b (d + 1) a) := by
  unfold someS
  have he : ∃ d, Dist r a b d := ⟨d, h⟩
  rw [dif_pos he, dist_one he.choose_spec h]
theorem someS_no {r : List B} {a b : B} (h : ∀ j, a &&& DD r b j = 0#64) : someS r a b = 0#64 := by
  unfold someS
  rw [dif_neg (fun ⟨d, hd⟩ => hd.at_ (h d))]
/-- those of a set that are so -/
def thoseS (p : Nat → Bool) (s : B) : B := ofL ((lst s).filter p)
theorem has_those {p : Nat → Bool} {s : B} {k : Nat} : has (thoseS p s) k = true ↔ has s k = true ∧ p k = true := by
  unfold thoseS
  by_cases hk : k < 64
  · rw [has_ofL _ _ hk, decide_eq_true_iff, List.mem_filter, mem_lst]
  · rw [has_ge (by omega), has_ge (by omega)]; simp
/-- the innermost set of a name -/
def qfind : List (Txt × B) → Txt → B
  | [], _ => 0#64
  | x :: e, s => if x.1 = s then x.2 else qfind e s
def qkindS (g : GD) (n : Int) : B := if n = 1 then g.made else if n = 2 then g.phony else if n = 3 then ~~~(g.made ||| g.phony) else 0#64
/-- what one ask answers, by what those in it answer -/
noncomputable def qop2 (g : GD) (k : Int) (s : Txt) (n : Int) (e : List (Txt × B)) (a b : B) : B :=
  if k = 1 then 1#64 <<< gidx g s
  else if k = 2 then belowB g.names.length
  else if k = 3 then qfind e s
  else if k = 4 then b
  else if k = 5 then a ||| b
  else if k = 6 then a &&& b
  else if k = 7 then a &&& ~~~b
  else if k = 8 then cls (rws g) a
  else if k = 9 then cls (bk (rws g)) a
  else if k = 10 then ball (rws g) n.toNat a
  else if k = 11 then ball (bk (rws g)) n.toNat a
  else if k = 12 then betw (rws g) a b
  else if k = 13 then someS (rws g) a b
  else if k = 14 then thoseS (fun m => mB s (gnm g m)) a
  else a &&& qkindS g n
def qin (k : Int) (s : Txt) (a : B) (e : List (Txt × B)) : List (Txt × B) := if k = 4 then (s, a) :: e else e
/-- what an ask answers -/
noncomputable def qval (g : GD) : QA → List (Txt × B) → B
  | .mk k s n [], e => qop2 g k s n e 0#64 0#64
  | .mk k s n [x], e => qop2 g k s n e (qval g x e) 0#64
  | .mk k s n (x :: y :: _), e => qop2 g k s n e (qval g x e) (qval g y (qin k s (qval g x e) e))
/-- are all its names there? -/
inductive Nmd (g : GD) : QA → Prop where
  | mk {k : Int} {s : Txt} {n : Int} {xs : List QA} (h : k = 1 → ghas g s) (hx : ∀ x ∈ xs, Nmd g x) : Nmd g (.mk k s n xs)
theorem Nmd.kids {g : GD} {x : QA} (h : Nmd g x) : ∀ y ∈ x.xs, Nmd g y := by cases h; assumption
theorem Nmd.name {g : GD} {k : Int} {s : Txt} {n : Int} {xs : List QA} (h : Nmd g (.mk k s n xs)) : k = 1 → ghas g s := by cases h; assumption
def InR (g : GD) (s : B) : Prop := ∀ k, has s k = true → k < g.names.length
def EnvR (g : GD) (e : List (Txt × B)) : Prop := ∀ x ∈ e, InR g x.2
theorem find_in {g : GD} {e : List (Txt × B)} (h : EnvR g e) (s : Txt) : InR g (qfind e s) := by
  induction e with
  | nil => intro k hk; rw [show qfind [] s = 0#64 from rfl, has_zero] at hk; cases hk
  | cons x e ih =>
    unfold qfind
    split
    · exact h x List.mem_cons_self
    · exact ih fun y hy => h y (List.mem_cons_of_mem _ hy)
theorem inR_zero (g : GD) : InR g 0#64 := fun k hk => by rw [has_zero] at hk; cases hk
theorem rws_inR {g : GD} (hG : Good g) {s : B} (h : InR g s) : chks (rws g) [s] = 0 :=
  chks_bits (valid_rws hG) fun t ht k hk => by
    simp at ht
    subst ht
    rw [rws_len]; exact h k hk
theorem bk_inR {g : GD} (hG : Good g) {s : B} (h : InR g s) : chks (bk (rws g)) [s] = 0 :=
  chks_bits (valid_bk (valid_rws hG)) fun t ht k hk => by
    simp at ht
    subst ht
    rw [bk_len, rws_len]; exact h k hk
theorem two_inR {g : GD} (hG : Good g) {s t : B} (h : InR g s) (h2 : InR g t) : chks (rws g) [s, t] = 0 :=
  chks_bits (valid_rws hG) fun u hu k hk => by
    simp at hu
    rw [rws_len]
    rcases hu with rfl | rfl
    · exact h k hk
    · exact h2 k hk
theorem ball_inR {g : GD} (hG : Good g) {s : B} (h : InR g s) (n : Nat) : InR g (ball (rws g) n s) ∧ InR g (ball (bk (rws g)) n s) := by
  constructor
  · intro k hk
    have := ball_in (valid_rws hG) (fun j hj => by rw [rws_len]; exact h j hj) n k hk
    rwa [rws_len] at this
  · intro k hk
    have := ball_in (valid_bk (valid_rws hG)) (fun j hj => by rw [bk_len, rws_len]; exact h j hj) n k hk
    rwa [bk_len, rws_len] at this
theorem below_inR {g : GD} (_hG : Good g) : InR g (belowB g.names.length) := fun k hk => by
  have := has_lt hk
  rw [has_below _ _ this] at hk
  exact of_decide_eq_true hk
theorem some_betw {g : GD} (hG : Good g) {a b : B} (_ha : InR g a) (_hb : InR g b) {k : Nat} (h : has (someS (rws g) a b) k = true) : has (betw (rws g) a b) k = true := by
  have hk := has_lt h
  rcases Classical.em (∃ d, Dist (rws g) a b d) with ⟨d, hd⟩ | hno
  · rw [someS_yes hd, has_ofL _ _ hk, decide_eq_true_iff] at h
    obtain ⟨j, hj, e⟩ := List.getElem_of_mem h
    have hl := wayL_len (rws g) b (d + 1) a
    have := wayL_betw (valid_rws hG) hd (j := j) (by omega)
    rw [List.getD_eq_getElem?_getD, List.getElem?_eq_getElem hj] at this
    rw [← e]
    exact this
  · unfold someS at h
    rw [dif_neg hno, has_zero] at h
    cases h
theorem some_none {g : GD} (hG : Good g) {a b : B} (ha : InR g a) (hb : InR g b) : someS (rws g) a b ≠ 0#64 ↔ betw (rws g) a b ≠ 0#64 := by
  constructor
  · intro h
    obtain ⟨k, hk⟩ := exists_of_ne h
    intro h0
    have := some_betw hG ha hb hk
    rw [h0, has_zero] at this
    cases this
  · intro h
    rcases Classical.em (∃ d, Dist (rws g) a b d) with ⟨d, hd⟩ | hno
    · rw [someS_yes hd]
      intro h0
      have hl := wayL_len (rws g) b (d + 1) a
      have hlt := wayL_lt (two_inR hG ha hb) hd (j := 0) (Nat.zero_le _)
      have h64 := hG.names
      rw [rws_len] at hlt
      have hm : (wayL (rws g) b (d + 1) a).getD 0 0 ∈ wayL (rws g) b (d + 1) a := by
        rw [List.getD_eq_getElem?_getD, List.getElem?_eq_getElem (by omega)]
        exact List.getElem_mem _
      have h2 : has (ofL (wayL (rws g) b (d + 1) a)) ((wayL (rws g) b (d + 1) a).getD 0 0) = true := by
        rw [has_ofL _ _ (by omega)]
        exact decide_eq_true hm
      rw [h0, has_zero] at h2
      cases h2
    · exfalso
      refine h ((far_none (valid_rws hG)).1 fun j => ?_)
      rcases dist_or (r := rws g) a b j with ⟨k, _, hk⟩ | h
      · exact absurd ⟨k, hk⟩ hno
      · exact h j (Nat.le_refl _)
theorem inR_ite {g : GD} {c : Prop} [Decidable c] {x y : B} (h1 : c → InR g x) (h2 : ¬ c → InR g y) : InR g (if c then x else y) := by
  by_cases h : c
  · rw [if_pos h]; exact h1 h
  · rw [if_neg h]; exact h2 h
theorem op2_in {g : GD} (hG : Good g) {k : Int} {s : Txt} {n : Int} {e : List (Txt × B)} {a b : B} (h1 : k = 1 → ghas g s) (he : EnvR g e) (ha : InR g a) (hb : InR g b) : InR g (qop2 g k s n e a b) := by
  unfold qop2
  have hbt : InR g (betw (rws g) a b) := by
    intro j hj
    unfold betw at hj
    rw [has_and, Bool.and_eq_true] at hj
    exact (ball_inR hG ha 64).1 j hj.1
  have hand : ∀ c, InR g (a &&& c) := fun c j hj => by
    rw [has_and, Bool.and_eq_true] at hj
    exact ha j hj.1
  refine inR_ite (fun hk => ?_) fun _ => inR_ite (fun _ => below_inR hG) fun _ => inR_ite (fun _ => find_in he s) fun _ => inR_ite (fun _ => hb) fun _ => inR_ite (fun _ j hj => ?_) fun _ =>
    inR_ite (fun _ => hand _) fun _ => inR_ite (fun _ => hand _) fun _ => inR_ite (fun _ => (ball_inR hG ha 64).1) fun _ => inR_ite (fun _ => (ball_inR hG ha 64).2) fun _ =>
    inR_ite (fun _ => (ball_inR hG ha _).1) fun _ => inR_ite (fun _ => (ball_inR hG ha _).2) fun _ => inR_ite (fun _ => hbt) fun _ => inR_ite (fun _ j hj => hbt j (some_betw hG ha hb hj)) fun _ =>
    inR_ite (fun _ j hj => ha j (has_those.1 hj).1) fun _ => hand _
  · have hi := (gidx_at (h1 hk)).1
    intro j hj
    have h64 := has_lt hj
    rw [has_one _ _ h64] at hj
    have := of_decide_eq_true hj
    omega
  · rw [has_or, Bool.or_eq_true] at hj
    exact hj.elim (ha j) (hb j)
theorem qin_in {g : GD} {k : Int} {s : Txt} {a : B} {e : List (Txt × B)} (he : EnvR g e) (ha : InR g a) : EnvR g (qin k s a e) := by
  unfold qin
  split
  · intro x hx
    rcases List.mem_cons.1 hx with rfl | hx
    · exact ha
    · exact he x hx
  · exact he
/-- the answer is of numbers that are there -/
theorem val_in {g : GD} (hG : Good g) (x : QA) : Nmd g x → ∀ e, EnvR g e → InR g (qval g x e) := by
  induction x using QA.ind with
  | h k s n xs ih =>
    intro hx e he
    match xs with
    | [] => rw [qval]; exact op2_in hG hx.name he (inR_zero g) (inR_zero g)
    | [x] => rw [qval]; exact op2_in hG hx.name he (ih x (by simp) (hx.kids x (show x ∈ [x] by simp)) e he) (inR_zero g)
    | x :: y :: r =>
      rw [qval]
      have ha := ih x (by simp) (hx.kids x (show x ∈ x :: y :: r by simp)) e he
      exact op2_in hG hx.name he ha (ih y (by simp) (hx.kids y (show y ∈ x :: y :: r by simp)) _ (qin_in he ha))
theorem val0 (g : GD) (k : Int) (s : Txt) (n : Int) (e : List (Txt × B)) : qval g (.mk k s n []) e = qop2 g k s n e 0#64 0#64 := by rw [qval]
theorem val1 (g : GD) (k : Int) (s : Txt) (n : Int) (x : QA) (e : List (Txt × B)) : qval g (.mk k s n [x]) e = qop2 g k s n e (qval g x e) 0#64 := by rw [qval]
theorem val2 (g : GD) (k : Int) (s : Txt) (n : Int) (x y : QA) (e : List (Txt × B)) : qval g (.mk k s n [x, y]) e = qop2 g k s n e (qval g x e) (qval g y (qin k s (qval g x e) e)) := by rw [qval]
theorem val2n (g : GD) {k : Int} (hk : k ≠ 4) (s : Txt) (n : Int) (x y : QA) (e : List (Txt × B)) : qval g (.mk k s n [x, y]) e = qop2 g k s n e (qval g x e) (qval g y e) := by
  rw [val2, qin, if_neg hk]
theorem cls_all {r : List B} (hv : Valid r) : ∀ i, ball r i (belowB r.length) = belowB r.length := by
  intro i
  have h64 : ∀ k, has (belowB r.length) k = true ↔ k < r.length := by
    intro k
    constructor
    · intro h
      have := has_lt h
      rw [has_below _ _ this] at h
      exact of_decide_eq_true h
    · intro h
      have := hv.1
      rw [has_below _ _ (by omega)]
      exact decide_eq_true h
  refine eq_of_iff fun k => ⟨fun h => ?_, ball_self i⟩
  exact (h64 k).2 (ball_in hv (fun j hj => (h64 j).1 hj) i k h)
theorem ball_cls {r : List B} (s : B) (i : Nat) : ball r i (cls r s) = cls r s :=
  eq_of_iff fun _ => ⟨ball_least (cls_closed r s) (fun _ h => h) i _, ball_self i⟩
theorem cls_ball {r : List B} (s : B) (i : Nat) : cls r (ball r i s) = cls r s :=
  eq_of_iff fun _ => ⟨cls_least (cls_closed r s) (fun _ h => ball_least (cls_closed r s) (fun _ h => cls_self h) i _ h), fun h => cls_mono (fun _ h => ball_self i h) h⟩
theorem those_twice (p : Nat → Bool) (s : B) : thoseS p (thoseS p s) = thoseS p s :=
  eq_of_iff fun _ => by simp only [has_those]; simp
theorem and_below {g : GD} {s : B} (h : InR g s) : belowB g.names.length &&& s = s ∧ s &&& belowB g.names.length = s ∧ belowB g.names.length ||| s = belowB g.names.length ∧ s ||| belowB g.names.length = belowB g.names.length := by
  have h2 : ∀ k, has s k = true → has (belowB g.names.length) k = true := fun k hk => by rw [has_below _ _ (has_lt hk)]; exact decide_eq_true (h k hk)
  refine ⟨eq_of_iff fun k => ?_, eq_of_iff fun k => ?_, eq_of_iff fun k => ?_, eq_of_iff fun k => ?_⟩ <;> simp only [has_and, has_or, Bool.and_eq_true, Bool.or_eq_true]
  · exact ⟨fun e => e.2, fun e => ⟨h2 k e, e⟩⟩
  · exact ⟨fun e => e.1, fun e => ⟨e, h2 k e⟩⟩
  · exact ⟨fun e => e.elim id (h2 k), .inl⟩
  · exact ⟨fun e => e.elim (h2 k) id, .inr⟩
/-- the walks of one way -/
def qrows (g : GD) (w : Int) : List B := if w = 8 then rws g else bk (rws g)
theorem rows_valid {g : GD} (hG : Good g) (w : Int) : Valid (qrows g w) ∧ (qrows g w).length = g.names.length := by
  unfold qrows
  split
  · exact ⟨valid_rws hG, rws_len g⟩
  · exact ⟨valid_bk (valid_rws hG), by rw [bk_len, rws_len]⟩
theorem op_walk {g : GD} {w : Int} (hw : w = 8 ∨ w = 9) (s : Txt) (n : Int) (e : List (Txt × B)) (a b : B) : qop2 g w s n e a b = cls (qrows g w) a ∧ qop2 g (w + 2) s n e a b = ball (qrows g w) n.toNat a := by
  rcases hw with rfl | rfl <;> exact ⟨rfl, rfl⟩
theorem val_walk {g : GD} {w : Int} (hw : w = 8 ∨ w = 9) (s : Txt) (n : Int) (z : QA) (e : List (Txt × B)) : qval g (.mk w s n [z]) e = cls (qrows g w) (qval g z e) ∧ qval g (.mk (w + 2) s n [z]) e = ball (qrows g w) n.toNat (qval g z e) := by
  rw [val1, val1]
  exact op_walk hw _ _ _ _ _
theorem all_val {g : GD} {y : QA} (h1 : qchk qpat y = 0) (h2 : y.kind = 2) (e : List (Txt × B)) : qval g y e = belowB g.names.length := by
  rw [all_eq h1 h2, val0]; rfl
theorem walks_val {g : GD} (hG : Good g) {w : Int} (hw : w = 8 ∨ w = 9) {k : Int} (hk : k = w ∨ k = w + 2) (s : Txt) {n : Int} (hn : 0 ≤ n) {y : QA} (cy : qchk qpat y = 0) (e : List (Txt × B)) :
    qval g (qwalks w (w + 2) k s n y).1 e = qval g (.mk k s n [y]) e := by
  have hww : w + 2 ≠ w := by omega
  obtain ⟨hv, hvl⟩ := rows_valid hG w
  have hR : qval g (.mk k s n [y]) e = if k = w then cls (qrows g w) (qval g y e) else ball (qrows g w) n.toNat (qval g y e) := by
    rcases hk with rfl | rfl
    · rw [if_pos rfl]; exact (val_walk hw s n y e).1
    · rw [if_neg hww]; exact (val_walk hw s n y e).2
  obtain ⟨ky, sy, ny, ysl⟩ := y
  have sub : ky = w ∨ ky = w + 2 → ∃ z, ysl = [z] ∧ 0 ≤ ny := by
    intro h2
    have : ysl.length = 1 ∧ 0 ≤ ny := by rcases node_cases (qchk_zero.1 cy).1 with h | h | h | h | h | h | h | h | h | h <;> first | (exfalso; omega) | exact ⟨h.2.1, by omega⟩
    obtain ⟨z, hz⟩ := len_one this.1
    exact ⟨z, hz, this.2⟩
  unfold qwalks
  split
  · rename_i h
    rw [hR, if_neg (by omega), h.2]
    rfl
  split
  · rename_i h
    rw [hR, all_val cy h e, ← hvl]
    split
    · exact (cls_all hv 64).symm
    · exact (cls_all hv _).symm
  split
  · rename_i h
    obtain ⟨z, rfl, _⟩ := sub h.2
    rw [hR, if_pos h.1]
    show qval g (.mk w [] 0 [z]) e = _
    rw [(val_walk hw [] 0 z e).1]
    have h2 : ky = w ∨ ky = w + 2 := h.2
    rcases h2 with rfl | rfl
    · rw [(val_walk hw sy ny z e).1, cls_idem]
    · rw [(val_walk hw sy ny z e).2, cls_ball]
  split
  · rename_i h2 h
    have h3 : ky = w := h
    subst h3
    obtain ⟨z, rfl, _⟩ := sub (.inl rfl)
    rw [hR, if_neg (fun h5 => h2 ⟨h5, .inl rfl⟩), (val_walk hw sy ny z e).1, ball_cls]
  split
  · rename_i h2 _ h
    have h3 : ky = w + 2 := h.1
    subst h3
    obtain ⟨z, rfl, hny⟩ := sub (.inr rfl)
    rw [hR, if_neg (fun h5 => h2 ⟨h5, .inr rfl⟩), (val_walk hw sy ny z e).2, ball_add]
    show qval g (.mk (w + 2) [] (n + ny) [z]) e = _
    rw [(val_walk hw [] (n + ny) z e).2, show (n + ny).toNat = ny.toNat + n.toNat by omega]
  · rfl
theorem two_val {g : GD} {k : Int} (hk : k = 5 ∨ k = 6) (s : Txt) (n : Int) {a b : QA} (ca : qchk qpat a = 0) (cb : qchk qpat b = 0) {e : List (Txt × B)} (ha : InR g (qval g a e)) (hb : InR g (qval g b e)) :
    qval g (qtwo k s n a b).1 e = qval g (.mk k s n [a, b]) e := by
  have e2 : ∀ (s : Txt) (n : Int) (a b : QA), qval g (.mk k s n [a, b]) e = if k = 5 then qval g a e ||| qval g b e else qval g a e &&& qval g b e := by
    intro s n a b
    rw [val2n g (by omega)]
    rcases hk with rfl | rfl <;> rfl
  obtain ⟨a1, a2, a3, a4⟩ := and_below ha
  obtain ⟨b1, b2, b3, b4⟩ := and_below hb
  rw [e2]
  unfold qtwo
  split
  · rename_i ht
    rw [qtxt_inj qpat_sep ca cb ht]
    split
    · rw [BitVec.or_self]
    · rw [BitVec.and_self]
  split
  · rename_i h5
    rw [if_pos h5.1]
    show qval g (.mk 2 [] 0 []) e = _
    rw [val0, show qop2 g 2 [] 0 e 0#64 0#64 = belowB g.names.length from rfl]
    rcases h5.2 with h6 | h6
    · rw [all_val ca h6, b3]
    · rw [all_val cb h6, a4]
  rename_i h5
  split
  · rename_i h6
    rw [if_neg (fun h7 => h5 ⟨h7, .inl h6⟩), all_val ca h6, b1]
  split
  · rename_i h6
    rw [if_neg (fun h7 => h5 ⟨h7, .inr h6⟩), all_val cb h6, a2]
  split
  · show qval g (.mk k [] 0 [b, a]) e = _
    rw [e2, BitVec.or_comm, BitVec.and_comm]
  · rw [e2]
/-- A RULE CHANGES NO ANSWER -/
theorem rule_val {g : GD} (hG : Good g) {x : QA} (h : qchk qpat x = 0) (hn : Nmd g x) (e : List (Txt × B)) (he : EnvR g e) : qval g (qrule x).1 e = qval g x e := by
  have hk : ∀ y ∈ x.xs, qchk qpat y = 0 := by cases x; exact (qchk_zero.1 h).2
  have hi : ∀ y ∈ x.xs, InR g (qval g y e) := fun y hy => val_in hG y (hn.kids y hy) e he
  obtain ⟨k, s, n, xs⟩ := x
  obtain ⟨hnd, _⟩ := qchk_zero.1 h
  by_cases k1 : k = 5 ∨ k = 6
  · have hm : xs.length = 2 := by rcases node_cases hnd with h | h | h | h | h | h | h | h | h | h <;> first | (exfalso; omega) | exact h.2.1
    obtain ⟨a, b, rfl⟩ := len_two hm
    have e1 : qrule (.mk k s n [a, b]) = qtwo k s n a b := by rw [qrule, if_pos k1]
    rw [e1]
    exact two_val k1 s n (hk a (show a ∈ [a, b] by simp)) (hk b (show b ∈ [a, b] by simp)) (hi a (show a ∈ [a, b] by simp)) (hi b (show b ∈ [a, b] by simp))
  by_cases k2 : k = 8 ∨ k = 10 ∨ k = 9 ∨ k = 11
  · have hm : xs.length = 1 ∧ 0 ≤ n := by rcases node_cases hnd with h | h | h | h | h | h | h | h | h | h <;> first | (exfalso; omega) | exact ⟨h.2.1, by omega⟩
    obtain ⟨hm, hn0⟩ := hm
    obtain ⟨y, rfl⟩ := len_one hm
    obtain ⟨w, hw, hkw⟩ : ∃ w : Int, (w = 8 ∨ w = 9) ∧ (k = w ∨ k = w + 2) := by
      rcases k2 with h | h | h | h
      · exact ⟨8, .inl rfl, .inl h⟩
      · exact ⟨8, .inl rfl, .inr h⟩
      · exact ⟨9, .inr rfl, .inl h⟩
      · exact ⟨9, .inr rfl, .inr h⟩
    have e2 : qrule (.mk k s n [y]) = qwalks w (w + 2) k s n y := by
      unfold qrule
      dsimp only
      rw [if_neg k1]
      rcases hw with rfl | rfl
      · rw [if_pos (by omega)]; rfl
      · rw [if_neg (by omega), if_pos (by omega)]; rfl
    rw [e2]
    exact walks_val hG hw hkw s hn0 (hk y (show y ∈ [y] by simp)) e
  by_cases k3 : k = 14 ∨ k = 15
  · have hm : xs.length = 1 := by rcases node_cases hnd with h | h | h | h | h | h | h | h | h | h <;> first | (exfalso; omega) | exact h.2.1
    obtain ⟨y, rfl⟩ := len_one hm
    have e1 : qrule (.mk k s n [y]) = if y.kind = k ∧ y.name = s ∧ y.num = n then (y, true) else (.mk k s n [y], false) := by
      unfold qrule
      dsimp only
      rw [if_neg k1, if_neg (by omega), if_neg (by omega), if_pos k3]
    rw [e1]
    split
    · rename_i h4
      obtain ⟨ky, sy, ny, ysl⟩ := y
      obtain ⟨rfl, rfl, rfl⟩ := h4
      have cy := hk (.mk ky sy ny ysl) (show _ ∈ [QA.mk ky sy ny ysl] by simp)
      have k4 : ky = 14 ∨ ky = 15 := k3
      have hm2 : ysl.length = 1 := by rcases node_cases (qchk_zero.1 cy).1 with h | h | h | h | h | h | h | h | h | h <;> first | (exfalso; omega) | exact h.2.1
      obtain ⟨z, rfl⟩ := len_one hm2
      show qval g (.mk ky sy ny [z]) e = qval g (.mk ky sy ny [.mk ky sy ny [z]]) e
      rw [val1 g ky sy ny (.mk ky sy ny [z]), val1]
      rcases k4 with rfl | rfl
      · exact (those_twice _ _).symm
      · show _ = (_ &&& _) &&& _
        rw [BitVec.and_assoc, BitVec.and_self]
        rfl
    · rfl
  by_cases k4 : k = 7
  · subst k4
    rcases rule_cases h with e1 | ⟨y, hy, e1⟩ | ⟨_, _, _, a, b, hx, h5, e1⟩ | ⟨k', a, b, hx, h1, _, e1⟩ | ⟨w, n', k2, n2, z, h1, hx, h2, e1⟩ | ⟨w, n', n2, z, h1, hx, h2, h3, h4, e1⟩ | ⟨a, b, c, hx, h1, e1⟩
    · rw [e1]
    · exfalso
      have hm : xs.length = 2 := by rcases node_cases hnd with h | h | h | h | h | h | h | h | h | h <;> first | (exfalso; omega) | exact h.2.1
      obtain ⟨a, b, rfl⟩ := len_two hm
      unfold qrule at e1
      simp only [show ¬ ((7 : Int) = 5 ∨ (7 : Int) = 6) by omega, show ¬ ((7 : Int) = 8 ∨ (7 : Int) = 10) by omega, show ¬ ((7 : Int) = 9 ∨ (7 : Int) = 11) by omega, show ¬ ((7 : Int) = 14 ∨ (7 : Int) = 15) by omega, if_false, if_true] at e1
      split at e1
      · split at e1
        · injection e1 with e1 _
          have h1 := hk y hy
          have h9 := congrArg qcnt e1
          have h10 := qcnt_mem (show y ∈ [a, b] from hy)
          rename_i heq hcc _
          simp only [List.cons.injEq, and_true] at heq
          obtain ⟨i1, i2⟩ := heq
          subst i1 i2
          have hy : y ∈ [a, _] := hy
          simp at hy
          rcases hy with rfl | rfl
          · rw [cnt_mk, cnts_two] at h9; omega
          · have h11 : (6 : Int) = _ := congrArg QA.kind e1
            have h12 := hcc.1
            have h13 : (6 : Int) = 7 := h11.trans h12
            exact absurd h13 (by decide)
        · injection e1 with _ e1; cases e1
      · injection e1 with _ e1; cases e1
    · injection hx with hx _; omega
    · injection hx with hx _; omega
    · injection hx with hx _; omega
    · injection hx with hx _; omega
    · rw [e1, hx]
      injection hx with _ _ _ hx
      subst hx
      have cy := hk (.mk 7 [] 0 [b, c]) (show _ ∈ [a, QA.mk 7 [] 0 [b, c]] by simp)
      have cb := (qchk_zero.1 cy).2 b (by simp)
      have ca := hk a (show _ ∈ [a, QA.mk 7 [] 0 [b, c]] by simp)
      have hba := qtxt_inj qpat_sep cb ca h1
      subst hba
      show qval g (.mk 6 [] 0 [b, c]) e = qval g (.mk 7 [] 0 [b, .mk 7 [] 0 [b, c]]) e
      rw [val2n g (by decide), val2n g (by decide) [] 0 b (.mk 7 [] 0 [b, c]), val2n g (by decide)]
      show qval g b e &&& qval g c e = qval g b e &&& ~~~(qval g b e &&& ~~~(qval g c e))
      refine set_ext fun j hj => ?_
      simp only [has_and, has_not _ _ hj]
      cases has (qval g b e) j <;> cases has (qval g c e) j <;> rfl
  · have e1 : qrule (.mk k s n xs) = (.mk k s n xs, false) := by
      unfold qrule
      dsimp only
      rw [if_neg k1, if_neg (by omega), if_neg (by omega), if_neg k3, if_neg k4]
    rw [e1]
/-- a rule brings in no name -/
theorem rule_nmd {g : GD} {x : QA} (h : qchk qpat x = 0) (hn : Nmd g x) : Nmd g (qrule x).1 := by
  have hk := hn.kids
  rcases rule_cases h with e | ⟨y, hy, e⟩ | ⟨_, _, _, a, b, hx, _, e⟩ | ⟨k, a, b, hx, h1, h2, e⟩ | ⟨w, n, k2, n2, z, h1, hx, _, e⟩ | ⟨w, n, n2, z, h1, hx, h2, h3, h4, e⟩ | ⟨a, b, c, hx, _, e⟩
  · rw [e]; exact hn
  · rw [e]; exact hk y hy
  · rw [e]; exact .mk (fun h => by omega) (fun y hy => by cases hy)
  · rw [e]
    subst hx
    refine .mk (fun h => by omega) fun y hy => hk y (show y ∈ [a, b] from ?_)
    simp at hy ⊢
    exact hy.symm
  · rw [e]
    subst hx
    exact .mk (fun h => by omega) (hk (.mk k2 [] n2 [z]) (show _ ∈ [QA.mk k2 [] n2 [z]] by simp)).kids
  · rw [e]
    subst hx
    exact .mk (fun h => by omega) (hk (.mk (w + 2) [] n2 [z]) (show _ ∈ [QA.mk (w + 2) [] n2 [z]] by simp)).kids
  · rw [e]
    subst hx
    refine .mk (fun h => by omega) fun y hy => ?_
    simp at hy
    rcases hy with rfl | rfl
    · exact hk y (show y ∈ [y, QA.mk 7 [] 0 [b, c]] by simp)
    · exact (hk (.mk 7 [] 0 [b, y]) (show _ ∈ [a, QA.mk 7 [] 0 [b, y]] by simp)).kids y (show y ∈ [b, y] by simp)
theorem again_val {g : GD} (hG : Good g) : ∀ (f : Nat) (x : QA), qchk qpat x = 0 → Nmd g x → qchk qpat (qagain f x) = 0 ∧ Nmd g (qagain f x) ∧ ∀ e, EnvR g e → qval g (qagain f x) e = qval g x e := by
  intro f
  induction f with
  | zero => exact fun x h hn => ⟨h, hn, fun _ _ => rfl⟩
  | succ f ih =>
    intro x h hn
    by_cases hr : (qrule x).2 = true
    · rw [again_step hr]
      obtain ⟨h1, h2, h3⟩ := ih _ (rule_ok h) (rule_nmd h hn)
      exact ⟨h1, h2, fun e he => (h3 e he).trans (rule_val hG h hn e he)⟩
    · rw [again_stop (by simpa using hr)]; exact ⟨h, hn, fun _ _ => rfl⟩
/-- THE NORMAL FORM ANSWERS THE SAME -/
theorem nrm_val {g : GD} (hG : Good g) (x : QA) : qchk qpat x = 0 → Nmd g x → Nmd g (qnrm x) ∧ ∀ e, EnvR g e → qval g (qnrm x) e = qval g x e := by
  induction x using QA.ind with
  | h k s n xs ih =>
    intro h hn
    obtain ⟨_, hxs⟩ := qchk_zero.1 h
    have h1 := inner_ok h fun x hx => (nrm_ok x (hxs x hx)).1
    have hn1 : Nmd g (.mk k s n (qnrms xs)) := by
      refine .mk hn.name fun y hy => ?_
      rw [qnrms_map] at hy
      obtain ⟨x, hx, rfl⟩ := List.mem_map.1 hy
      exact (ih x hx (hxs x hx) (hn.kids x hx)).1
    have hv : ∀ e, EnvR g e → qval g (.mk k s n (qnrms xs)) e = qval g (.mk k s n xs) e := by
      intro e he
      have iv : ∀ x ∈ xs, ∀ e, EnvR g e → qval g (qnrm x) e = qval g x e := fun x hx => (ih x hx (hxs x hx) (hn.kids x hx)).2
      match xs with
      | [] => rfl
      | [x] =>
        show qval g (.mk k s n [qnrm x]) e = _
        rw [val1, val1, iv x (by simp) e he]
      | x :: y :: r =>
        show qval g (.mk k s n (qnrm x :: qnrm y :: qnrms r)) e = _
        have hx := iv x (by simp) e he
        have hxi : InR g (qval g x e) := val_in hG x (hn.kids x (show x ∈ x :: y :: r by simp)) e he
        rw [qval, qval, hx, iv y (by simp) _ (qin_in he hxi)]
    rw [qnrm]
    obtain ⟨_, h3, h4⟩ := again_val hG (2 * (1 + qcnts (qnrms xs)) + 2) _ h1 hn1
    exact ⟨h3, fun e he => (h4 e he).trans (hv e he)⟩
end Go.Proofs.YteefncohknclcaaGreatDoor
namespace Go.Proofs.YteefncohknclcaaGreatDoor
def qown (k : Int) (s : Txt) (bd : List Txt) : List Txt := if k = 3 ∧ s ∉ bd then [s] else []
def qbd (k : Int) (s : Txt) (bd : List Txt) : List Txt := if k = 4 then bd ++ [s] else bd
/-- the free vars, in the order in which they stand -/
def qfree : QA → List Txt → List Txt
  | .mk k s _ [], bd => qown k s bd
  | .mk k s _ [x], bd => qown k s bd ++ qfree x bd
  | .mk k s _ (x :: y :: _), bd => qown k s bd ++ (qfree x bd ++ qfree y (qbd k s bd))
theorem free0 (k : Int) (s : Txt) (n : Int) (bd : List Txt) : qfree (.mk k s n []) bd = qown k s bd := by rw [qfree]
theorem free1 (k : Int) (s : Txt) (n : Int) (x : QA) (bd : List Txt) : qfree (.mk k s n [x]) bd = qown k s bd ++ qfree x bd := by rw [qfree]
theorem free2 (k : Int) (s : Txt) (n : Int) (x y : QA) (r : List QA) (bd : List Txt) : qfree (.mk k s n (x :: y :: r)) bd = qown k s bd ++ (qfree x bd ++ qfree y (qbd k s bd)) := by rw [qfree]
theorem mem_own {k : Int} {s t : Txt} {bd : List Txt} : t ∈ qown k s bd ↔ k = 3 ∧ t = s ∧ s ∉ bd := by
  unfold qown
  split
  · rename_i h
    simp only [List.mem_singleton]
    exact ⟨fun e => ⟨h.1, e, h.2⟩, fun e => e.2.1⟩
  · rename_i h
    constructor
    · intro e; cases e
    · rintro ⟨h1, _, h2⟩; exact absurd ⟨h1, h2⟩ h
/-- what is bound is not free, and nothing else is bound -/
theorem mem_free (x : QA) : ∀ (bd : List Txt) (t : Txt), t ∈ qfree x bd ↔ t ∈ qfree x [] ∧ t ∉ bd := by
  induction x using QA.ind with
  | h k s n xs ih =>
    intro bd t
    have own : t ∈ qown k s bd ↔ t ∈ qown k s [] ∧ t ∉ bd := by
      rw [mem_own, mem_own]
      constructor
      · rintro ⟨h1, rfl, h2⟩; exact ⟨⟨h1, rfl, by simp⟩, h2⟩
      · rintro ⟨⟨h1, rfl, _⟩, h2⟩; exact ⟨h1, rfl, h2⟩
    match xs with
    | [] => rw [free0, free0]; exact own
    | [x] =>
      rw [free1, free1, List.mem_append, List.mem_append, own, ih x (by simp) bd t, or_and_right]
    | x :: y :: r =>
      rw [free2, free2, List.mem_append, List.mem_append, List.mem_append, List.mem_append, own, ih x (by simp) bd t, ih y (by simp) (qbd k s bd) t, ih y (by simp) (qbd k s []) t]
      have hb : t ∉ qbd k s bd ↔ t ∉ qbd k s [] ∧ t ∉ bd := by
        unfold qbd
        split
        · simp only [List.mem_append, List.nil_append]
          exact ⟨fun h => ⟨fun e => h (.inr e), fun e => h (.inl e)⟩, fun h e => e.elim h.2 h.1⟩
        · simp
      rw [hb]
      constructor
      · rintro (⟨h1, h2⟩ | ⟨h1, h2⟩ | ⟨h1, h2, h3⟩)
        · exact ⟨.inl h1, h2⟩
        · exact ⟨.inr (.inl h1), h2⟩
        · exact ⟨.inr (.inr ⟨h1, h2⟩), h3⟩
      · rintro ⟨h1 | h1 | ⟨h1, h2⟩, h3⟩
        · exact .inl ⟨h1, h3⟩
        · exact .inr (.inl ⟨h1, h3⟩)
        · exact .inr (.inr ⟨h1, h2, h3⟩)
/-- an answer leans on the sets of the free vars alone -/
theorem env_val (g : GD) (x : QA) : ∀ (bd : List Txt) (e f : List (Txt × B)), (∀ s ∈ qfree x bd, qfind e s = qfind f s) → (∀ s ∈ bd, qfind e s = qfind f s) → qval g x e = qval g x f := by
  induction x using QA.ind with
  | h k s n xs ih =>
    intro bd e f h1 h2
    have hop : ∀ a b, (∀ t ∈ qown k s bd, qfind e t = qfind f t) → qop2 g k s n e a b = qop2 g k s n f a b := by
      intro a b h
      unfold qop2
      by_cases h3 : k = 3
      · have : qfind e s = qfind f s := by
          by_cases hs : s ∈ bd
          · exact h2 s hs
          · exact h s (mem_own.2 ⟨h3, rfl, hs⟩)
        rw [this]
      · rw [if_neg h3, if_neg h3]
    match xs with
    | [] =>
      rw [free0] at h1
      rw [val0, val0]
      exact hop _ _ h1
    | [x] =>
      rw [free1] at h1
      rw [val1, val1, ih x (by simp) bd e f (fun s hs => h1 s (List.mem_append_right _ hs)) h2]
      exact hop _ _ fun t ht => h1 t (List.mem_append_left _ ht)
    | x :: y :: r =>
      rw [free2] at h1
      have hx := ih x (by simp) bd e f (fun s hs => h1 s (List.mem_append_right _ (List.mem_append_left _ hs))) h2
      rw [qval, qval, hx]
      have hy : qval g y (qin k s (qval g x f) e) = qval g y (qin k s (qval g x f) f) := by
        unfold qin
        by_cases h4 : k = 4
        · rw [if_pos h4, if_pos h4]
          refine ih y (by simp) (qbd k s bd) _ _ (fun t ht => ?_) (fun t ht => ?_)
          · unfold qfind
            split
            · rfl
            · exact h1 t (List.mem_append_right _ (List.mem_append_right _ ht))
          · unfold qfind
            split
            · rfl
            · rename_i h5
              unfold qbd at ht
              rw [if_pos h4, List.mem_append] at ht
              rcases ht with ht | ht
              · exact h2 t ht
              · simp at ht; exact absurd ht.symm h5
        · rw [if_neg h4, if_neg h4]
          refine ih y (by simp) bd _ _ (fun t ht => h1 t (List.mem_append_right _ (List.mem_append_right _ ?_))) h2
          unfold qbd
          rw [if_neg h4]
          exact ht
      rw [hy]
      exact hop _ _ fun t ht => h1 t (List.mem_append_left _ ht)
/-- CHURCH: what is bound may be put in its place -/
theorem let_var (g : GD) (v : Txt) (n : Int) (a : QA) (e : List (Txt × B)) : qval g (.mk 4 v n [a, .mk 3 v n []]) e = qval g a e := by
  rw [val2, val0]
  show qfind ((v, qval g a e) :: e) v = _
  unfold qfind
  rw [if_pos rfl]
theorem let_none (g : GD) (v : Txt) (n : Int) (a x : QA) (h : v ∉ qfree x []) : qval g (.mk 4 v n [a, x]) [] = qval g x [] := by
  rw [val2]
  show qval g x ((v, qval g a []) :: []) = _
  refine env_val g x [] _ _ (fun s hs => ?_) (fun s hs => by cases hs)
  show (if (v, qval g a []).1 = s then (v, qval g a []).2 else qfind [] s) = qfind [] s
  exact if_neg fun e => h (by rw [show v = s from e]; exact hs)
/-- a rule frees no var -/
theorem rule_free {x : QA} (h : qchk qpat x = 0) (t : Txt) (ht : t ∈ qfree (qrule x).1 []) : t ∈ qfree x [] := by
  rcases rule_cases h with e | ⟨y, hy, e⟩ | ⟨_, _, _, a, b, hx, _, e⟩ | ⟨k, a, b, hx, h1, h2, e⟩ | ⟨w, n, k2, n2, z, h1, hx, h5, e⟩ | ⟨w, n, n2, z, h1, hx, h2, h3, h4, e⟩ | ⟨a, b, c, hx, _, e⟩
  · rw [e] at ht; exact ht
  · rw [e] at ht
    obtain ⟨k, s, n, xs⟩ := x
    have hy : y ∈ xs := hy
    have ht : t ∈ qfree y [] := ht
    by_cases k4 : k = 4
    · exfalso
      subst k4
      have : qrule (.mk 4 s n xs) = (.mk 4 s n xs, false) := by
        unfold qrule
        dsimp only
        rw [if_neg (by omega), if_neg (by omega), if_neg (by omega), if_neg (by omega), if_neg (by omega)]
      rw [this] at e
      injection e with _ e
      cases e
    · match xs, hy with
      | [z], hy =>
        simp at hy
        subst hy
        rw [free1]
        exact List.mem_append_right _ ht
      | z :: u :: r, hy =>
        have hr : r = [] := by
          have hn := (qchk_zero.1 h).1
          have : (z :: u :: r).length ≤ 2 := by rcases node_cases hn with h | h | h | h | h | h | h | h | h | h <;> omega
          simp at this
          exact this
        subst hr
        rw [free2]
        unfold qbd
        rw [if_neg k4]
        simp at hy
        rcases hy with rfl | rfl
        · exact List.mem_append_right _ (List.mem_append_left _ ht)
        · exact List.mem_append_right _ (List.mem_append_right _ ht)
  · rw [e] at ht
    have ht : t ∈ qfree (.mk 2 [] 0 []) [] := ht
    rw [free0, mem_own] at ht
    exact absurd ht.1 (by decide)
  · rw [e] at ht
    subst hx
    have ht : t ∈ qfree (.mk k [] 0 [b, a]) [] := ht
    rw [free2] at ht ⊢
    have hq : qbd k [] [] = [] := if_neg (by omega)
    rw [hq] at ht ⊢
    simp only [List.mem_append] at ht ⊢
    rcases ht with ht | ht | ht
    · exact .inl ht
    · exact .inr (.inr ht)
    · exact .inr (.inl ht)
  · rw [e] at ht
    subst hx
    have ht : t ∈ qfree (.mk w [] 0 [z]) [] := ht
    rw [free1, List.mem_append, mem_own] at ht
    rw [free1, free1, List.mem_append, List.mem_append]
    rcases ht with ht | ht
    · exfalso; omega
    · exact .inr (.inr ht)
  · rw [e] at ht
    subst hx
    have ht : t ∈ qfree (.mk (w + 2) [] (n + n2) [z]) [] := ht
    rw [free1, List.mem_append, mem_own] at ht
    rw [free1, free1, List.mem_append, List.mem_append]
    rcases ht with ht | ht
    · exfalso; omega
    · exact .inr (.inr ht)
  · rw [e] at ht
    subst hx
    have ht : t ∈ qfree (.mk 6 [] 0 [a, c]) [] := ht
    rw [free2, show qbd 6 [] [] = [] from rfl] at ht
    rw [free2, free2, show qbd 7 [] [] = [] from rfl]
    simp only [List.mem_append, mem_own] at ht ⊢
    rcases ht with ht | ht | ht
    · exfalso; omega
    · exact .inr (.inl ht)
    · exact .inr (.inr (.inr (.inr ht)))
theorem again_free : ∀ (f : Nat) (x : QA), qchk qpat x = 0 → ∀ t, t ∈ qfree (qagain f x) [] → t ∈ qfree x [] := by
  intro f
  induction f with
  | zero => exact fun x _ t h => h
  | succ f ih =>
    intro x h t ht
    by_cases hr : (qrule x).2 = true
    · rw [again_step hr] at ht
      exact rule_free h t (ih _ (rule_ok h) t ht)
    · rwa [again_stop (by simpa using hr)] at ht
theorem nrm_free (x : QA) : qchk qpat x = 0 → ∀ t, t ∈ qfree (qnrm x) [] → t ∈ qfree x [] := by
  induction x using QA.ind with
  | h k s n xs ih =>
    intro h t ht
    obtain ⟨_, hxs⟩ := qchk_zero.1 h
    have h1 := inner_ok h fun x hx => (nrm_ok x (hxs x hx)).1
    rw [qnrm] at ht
    have ht := again_free _ _ h1 t ht
    match xs with
    | [] => exact ht
    | [x] =>
      have ht : t ∈ qfree (.mk k s n [qnrm x]) [] := ht
      rw [free1, List.mem_append] at ht ⊢
      exact ht.imp id (ih x (by simp) (hxs x (by simp)) t)
    | x :: y :: r =>
      have ht : t ∈ qfree (.mk k s n (qnrm x :: qnrm y :: qnrms r)) [] := ht
      rw [free2, List.mem_append, List.mem_append] at ht ⊢
      refine ht.imp id (Or.imp (ih x (by simp) (hxs x (by simp)) t) fun h => ?_)
      rw [mem_free] at h ⊢
      exact ⟨ih y (by simp) (hxs y (by simp)) t h.1, h.2⟩
/-- what Eval lets pass -/
structure Qev (g : GD) (x : QA) : Prop where
  good : Good g
  ok : qE qpat x = 0
  free : qfree x [] = []
  named : Nmd g x
theorem Qev.chk {g : GD} {x : QA} (h : Qev g x) : qchk qpat x = 0 := by
  have := h.ok
  unfold qE at this
  split at this
  · cases this
  · exact this
theorem env0 (g : GD) : EnvR g [] := fun x hx => by cases hx
/-- THE LAW NormSame, plainly -/
theorem same_law {g : GD} {x : QA} (h : Qev g x) : Qev g (qnrm x) ∧ qval g (qnrm x) [] = qval g x [] := by
  have hc := h.chk
  obtain ⟨h1, h2, h3⟩ := nrm_ok x hc
  obtain ⟨h4, h5⟩ := nrm_val h.good x hc h.named
  refine ⟨⟨h.good, ?_, ?_, h4⟩, h5 [] (env0 g)⟩
  · have := h.ok
    unfold qE at this ⊢
    split at this
    · cases this
    · rw [if_neg (by omega)]; exact h1
  · refine List.eq_nil_iff_forall_not_mem.2 fun t ht => ?_
    have := nrm_free x hc t ht
    rw [h.free] at this
    cases this
theorem not_below {g : GD} {s : B} (h : InR g s) : s &&& belowB g.names.length = s := (and_below h).2.1
/-- THE LAW EvalSets, plainly -/
theorem sets_law (g : GD) (x y : QA) : qval g (.mk 5 [] 0 [x, y]) [] = qval g x [] ||| qval g y [] ∧ qval g (.mk 6 [] 0 [x, y]) [] = qval g x [] &&& qval g y [] ∧ qval g (.mk 7 [] 0 [x, y]) [] = qval g x [] &&& ~~~(qval g y [])
    ∧ qval g (.mk 7 [] 0 [.mk 2 [] 0 [], .mk 5 [] 0 [x, y]]) [] = qval g (.mk 6 [] 0 [.mk 7 [] 0 [.mk 2 [] 0 [], x], .mk 7 [] 0 [.mk 2 [] 0 [], y]]) [] := by
  have o : ∀ x y, qval g (.mk 5 [] 0 [x, y]) [] = qval g x [] ||| qval g y [] := fun x y => by rw [val2n g (by decide)]; rfl
  have n : ∀ x y, qval g (.mk 6 [] 0 [x, y]) [] = qval g x [] &&& qval g y [] := fun x y => by rw [val2n g (by decide)]; rfl
  have b : ∀ x y, qval g (.mk 7 [] 0 [x, y]) [] = qval g x [] &&& ~~~(qval g y []) := fun x y => by rw [val2n g (by decide)]; rfl
  refine ⟨o x y, n x y, b x y, ?_⟩
  rw [b, o, n, b, b]
  refine set_ext fun j hj => ?_
  simp only [has_and, has_or, has_not _ _ hj]
  cases has (qval g (.mk 2 [] 0 []) []) j <;> cases has (qval g x []) j <;> cases has (qval g y []) j <;> rfl
/-- THE LAW EvalWalks, plainly -/
theorem walks_law {g : GD} {x y : QA} (hx : Qev g x) (hy : Qev g y) :
    qval g x [] &&& ~~~(qval g (.mk 8 [] 0 [x]) []) = 0#64 ∧ qval g (.mk 8 [] 0 [.mk 5 [] 0 [x, y]]) [] = qval g (.mk 8 [] 0 [x]) [] ||| qval g (.mk 8 [] 0 [y]) []
    ∧ qval g (.mk 8 [] 0 [.mk 8 [] 0 [x]]) [] = qval g (.mk 8 [] 0 [x]) [] ∧ qval g (.mk 12 [] 0 [x, y]) [] = qval g (.mk 8 [] 0 [x]) [] &&& qval g (.mk 9 [] 0 [y]) []
    ∧ qval g (.mk 13 [] 0 [x, y]) [] &&& ~~~(qval g (.mk 12 [] 0 [x, y]) []) = 0#64 ∧ (qval g (.mk 13 [] 0 [x, y]) [] ≠ 0#64 ↔ qval g (.mk 12 [] 0 [x, y]) [] ≠ 0#64) := by
  have hG := hx.good
  have d : ∀ x, qval g (.mk 8 [] 0 [x]) [] = cls (rws g) (qval g x []) := fun x => by rw [val1]; rfl
  have u : ∀ x, qval g (.mk 9 [] 0 [x]) [] = cls (bk (rws g)) (qval g x []) := fun x => by rw [val1]; rfl
  have o : qval g (.mk 5 [] 0 [x, y]) [] = qval g x [] ||| qval g y [] := (sets_law g x y).1
  have wy : qval g (.mk 12 [] 0 [x, y]) [] = betw (rws g) (qval g x []) (qval g y []) := by rw [val2n g (by decide)]; rfl
  have sm : qval g (.mk 13 [] 0 [x, y]) [] = someS (rws g) (qval g x []) (qval g y []) := by rw [val2n g (by decide)]; rfl
  have ix := val_in hG x hx.named [] (env0 g)
  have iy := val_in hG y hy.named [] (env0 g)
  have sub : ∀ {s t : B}, (∀ k, has s k = true → has t k = true) → s &&& ~~~t = 0#64 := fun {s t} h => eq_zero_iff.2 fun k => by
    rw [has_and]
    cases hs : has s k
    · rfl
    · rw [has_not _ _ (has_lt hs), h k hs]; rfl
  refine ⟨?_, ?_, ?_, ?_, ?_, ?_⟩
  · rw [d]; exact sub fun k => cls_self
  · rw [d, d, d, o, cls_or]
  · rw [d, d, cls_idem]
  · rw [wy, d, u]; rfl
  · rw [sm, wy]; exact sub fun k => some_betw hG ix iy
  · rw [sm, wy]; exact some_none hG ix iy
/-- THE LAW EvalKinds, plainly -/
theorem kinds_law (g : GD) (x : QA) : (qval g (.mk 15 [] 1 [x]) [] ||| qval g (.mk 15 [] 2 [x]) [] ||| qval g (.mk 15 [] 3 [x]) [] = qval g x []) ∧ qval g (.mk 15 [] 3 [x]) [] &&& (qval g (.mk 15 [] 1 [x]) [] ||| qval g (.mk 15 [] 2 [x]) []) = 0#64 := by
  have k : ∀ n, qval g (.mk 15 [] n [x]) [] = qval g x [] &&& qkindS g n := fun n => by rw [val1]; rfl
  rw [k, k, k]
  have e1 : qkindS g 1 = g.made := rfl
  have e2 : qkindS g 2 = g.phony := rfl
  have e3 : qkindS g 3 = ~~~(g.made ||| g.phony) := rfl
  rw [e1, e2, e3]
  refine ⟨set_ext fun j hj => ?_, set_ext fun j hj => ?_⟩
  · simp only [has_and, has_or, has_not _ _ hj]
    cases has (qval g x []) j <;> cases has g.made j <;> cases has g.phony j <;> rfl
  · simp only [has_and, has_or, has_not _ _ hj, has_zero]
    cases has (qval g x []) j <;> cases has g.made j <;> cases has g.phony j <;> rfl
theorem star_all {g : GD} (hG : Good g) (n : Nat) : mB [42] (gnm g n) = true ∨ g.names.length ≤ n := by
  rcases Nat.lt_or_ge n g.names.length with h | h
  · refine .inl ?_
    have h1 : prs [42] = some [pcAny] := by rw [prs_star, prs_nil]; rfl
    rw [(m_good (p := [42]) (by decide) h1 _).1]
    have hl : (gnm g n).length ≤ 40 := by
      have := hG.ok n h
      unfold gnm
      have hb := ba_len (g.names.getD n ByteArray.empty)
      unfold nameE at this
      split at this
      · exact absurd this (by decide)
      · omega
    rw [if_neg (by omega)]
    exact mt_any _
  · exact .inr h
theorem match_law {g : GD} {x : QA} (hx : Qev g x) (p : Txt) : qval g (.mk 14 p 0 [x]) [] &&& ~~~(qval g x []) = 0#64 ∧ qval g (.mk 14 p 0 [.mk 14 p 0 [x]]) [] = qval g (.mk 14 p 0 [x]) [] ∧ qval g (.mk 14 [42] 0 [x]) [] = qval g x [] := by
  have m : ∀ p x, qval g (.mk 14 p 0 [x]) [] = thoseS (fun j => mB p (gnm g j)) (qval g x []) := fun p x => by rw [val1]; rfl
  rw [m, m, m, m]
  refine ⟨eq_zero_iff.2 fun k => ?_, those_twice _ _, eq_of_iff fun k => ?_⟩
  · rw [has_and]
    cases hs : has (thoseS (fun j => mB p (gnm g j)) (qval g x [])) k
    · rfl
    · rw [has_not _ _ (has_lt hs), (has_those.1 hs).1]; rfl
  · rw [has_those]
    refine ⟨fun h => h.1, fun h => ⟨h, ?_⟩⟩
    have := val_in hx.good x hx.named [] (env0 g) k h
    rcases star_all hx.good k with h1 | h1
    · exact h1
    · omega
end Go.Proofs.YteefncohknclcaaGreatDoor
namespace Go.Proofs.YteefncohknclcaaGreatDoor
open Go.RowKit
/-- an ask as it lies in memory: its list's place and room besides -/
inductive QT where
  | mk (kind : Int) (name : ByteArray) (num : Int) (p : Option Addr) (cap : Nat) (xs : List QT)
namespace QT
def kind : QT → Int | mk k _ _ _ _ _ => k
def name : QT → ByteArray | mk _ s _ _ _ _ => s
def num : QT → Int | mk _ _ n _ _ _ => n
def p : QT → Option Addr | mk _ _ _ p _ _ => p
def cap : QT → Nat | mk _ _ _ _ c _ => c
def xs : QT → List QT | mk _ _ _ _ _ l => l
/-- the list's value -/
def sl (t : QT) : Value := .slice t.p t.xs.length t.cap
def v (t : QT) : Value := .agg #[.int .i64 t.kind, .string t.name, .int .i64 t.num, .slice t.p t.xs.length t.cap]
end QT
mutual
/-- the plain ask of it -/
def qabs : QT → QA
  | .mk k s n _ _ xs => .mk k s.data.toList n (qabss xs)
def qabss : List QT → List QA
  | [] => []
  | x :: r => qabs x :: qabss r
end
theorem qabss_map (l : List QT) : qabss l = l.map qabs := by
  induction l with
  | nil => rfl
  | cons x l ih => rw [qabss, ih]; rfl
theorem qabss_len (l : List QT) : (qabss l).length = l.length := by rw [qabss_map, List.length_map]
/-- four cells of a block -/
def Four (w : World) (b o : Nat) (t : QT) : Prop :=
  w.cell? ⟨b, o, none⟩ = some (.int .i64 t.kind) ∧ w.cell? ⟨b, o + 1, none⟩ = some (.string t.name) ∧ w.cell? ⟨b, o + 2, none⟩ = some (.int .i64 t.num) ∧ w.cell? ⟨b, o + 3, none⟩ = some (.slice t.p t.xs.length t.cap)
mutual
/-- what is in an ask lies in memory -/
def QIn (w : World) : QT → Prop
  | .mk _ s _ p c xs => s.size ≤ 1048576 ∧ xs.length ≤ c ∧ xs.length ≤ 1048576 ∧ QsIn w p 0 xs
def QsIn (w : World) (p : Option Addr) : Nat → List QT → Prop
  | _, [] => True
  | i, x :: r => ((∃ b o, p = some ⟨b, o, none⟩ ∧ b < w.heap.size ∧ Four w b (o + 4 * i) x) ∧ QIn w x) ∧ QsIn w p (i + 1) r
end
theorem QsIn.at {w : World} {p : Option Addr} : ∀ {l : List QT} {i : Nat}, QsIn w p i l → ∀ {j : Nat} {x : QT}, l[j]? = some x → (∃ b o, p = some ⟨b, o, none⟩ ∧ b < w.heap.size ∧ Four w b (o + 4 * (i + j)) x) ∧ QIn w x := by
  intro l
  induction l with
  | nil => intro i _ j x h; simp at h
  | cons y l ih =>
    intro i h j x hx
    rw [QsIn] at h
    cases j with
    | zero => simp only [List.getElem?_cons_zero, Option.some.injEq] at hx; subst hx; exact h.1
    | succ j =>
      have := ih h.2 (j := j) (x := x) (by simpa using hx)
      rwa [show i + 1 + j = i + (j + 1) by omega] at this
theorem QsIn.mk {w : World} {p : Option Addr} : ∀ {l : List QT} {i : Nat}, (∀ j x, l[j]? = some x → (∃ b o, p = some ⟨b, o, none⟩ ∧ b < w.heap.size ∧ Four w b (o + 4 * (i + j)) x) ∧ QIn w x) → QsIn w p i l := by
  intro l
  induction l with
  | nil => intro i _; trivial
  | cons y l ih =>
    intro i h
    rw [QsIn]
    refine ⟨h 0 y rfl, ih fun j x hx => ?_⟩
    have := h (j + 1) x (by simpa using hx)
    rwa [show i + (j + 1) = i + 1 + j by omega] at this
theorem QT.ind {P : QT → Prop} (h : ∀ k s n p c xs, (∀ x ∈ xs, P x) → P (.mk k s n p c xs)) : ∀ x, P x := by
  have key : ∀ (c : Nat) (x : QT), qcnt (qabs x) ≤ c → P x := by
    intro c
    induction c with
    | zero => intro x hx; have := qcnt_pos (qabs x); omega
    | succ c ih =>
      intro x hx
      cases x with
      | mk k s n p d xs =>
        refine h k s n p d xs fun y hy => ih y ?_
        have hm : qabs y ∈ qabss xs := by rw [qabss_map]; exact List.mem_map.2 ⟨y, hy, rfl⟩
        have := qcnt_mem hm
        have e : qcnt (qabs (.mk k s n p d xs)) = 1 + qcnts (qabss xs) := rfl
        omega
  exact fun x => key _ x (Nat.le_refl _)
theorem Four.below {w w' : World} {b o n : Nat} {t : QT} (h : Four w b o t) (hb : Below n w w') (hn : b < n) : Four w' b o t := by
  obtain ⟨h1, h2, h3, h4⟩ := h
  refine ⟨?_, ?_, ?_, ?_⟩
  · rw [hb.cell (p := ⟨b, o, none⟩) hn]; exact h1
  · rw [hb.cell (p := ⟨b, o + 1, none⟩) hn]; exact h2
  · rw [hb.cell (p := ⟨b, o + 2, none⟩) hn]; exact h3
  · rw [hb.cell (p := ⟨b, o + 3, none⟩) hn]; exact h4
theorem QIn.kids {w : World} {t : QT} (h : QIn w t) : QsIn w t.p 0 t.xs := by cases t; rw [QIn] at h; exact h.2.2.2
theorem QIn.small {w : World} {t : QT} (h : QIn w t) : t.name.size ≤ 1048576 ∧ t.xs.length ≤ t.cap ∧ t.xs.length ≤ 1048576 := by cases t; rw [QIn] at h; exact ⟨h.1, h.2.1, h.2.2.1⟩
theorem QIn.of {w : World} {t : QT} (h1 : t.name.size ≤ 1048576) (h2 : t.xs.length ≤ t.cap) (h3 : t.xs.length ≤ 1048576) (h4 : QsIn w t.p 0 t.xs) : QIn w t := by cases t; rw [QIn]; exact ⟨h1, h2, h3, h4⟩
/-- asks stay where nothing below is written -/
theorem QIn.below {w w' : World} (hb : Below w.heap.size w w') : ∀ {t : QT}, QIn w t → QIn w' t := by
  intro t
  induction t using QT.ind with
  | h k s n p c xs ih =>
    intro h
    rw [QIn] at h ⊢
    refine ⟨h.1, h.2.1, h.2.2.1, QsIn.mk fun j x hx => ?_⟩
    obtain ⟨⟨b, o, h1, h2, h3⟩, h4⟩ := h.2.2.2.at hx
    exact ⟨⟨b, o, h1, Nat.lt_of_lt_of_le h2 hb.size, h3.below hb h2⟩, ih x (List.mem_of_getElem? hx) h4⟩
theorem QsIn.below {w w' : World} (hb : Below w.heap.size w w') {p : Option Addr} {l : List QT} (h : QsIn w p 0 l) : QsIn w' p 0 l :=
  QsIn.mk fun j x hx => by
    obtain ⟨⟨b, o, h1, h2, h3⟩, h4⟩ := h.at hx
    exact ⟨⟨b, o, h1, Nat.lt_of_lt_of_le h2 hb.size, h3.below hb h2⟩, h4.below hb⟩
/-- an ask all of whose lists are blocks of their own, laid at n or behind -/
inductive QOw (w : World) (n : Nat) : QT → Prop where
  | mk {k : Int} {s : ByteArray} {m : Int} {p : Option Addr} {c : Nat} {xs : List QT}
    (h : (p = none ∧ c = 0 ∧ xs = []) ∨ ∃ b cur, p = some ⟨b, 0, none⟩ ∧ n ≤ b ∧ b < w.heap.size ∧ w.heap[b]? = some (.cells cur 29 (0, 0)) ∧ cur.size = 4 * c ∧ c ≤ 9223372036854775807)
    (hx : ∀ x ∈ xs, QOw w n x) : QOw w n (.mk k s m p c xs)
theorem QOw.kids {w : World} {n : Nat} {t : QT} (h : QOw w n t) : ∀ x ∈ t.xs, QOw w n x := by cases h; assumption
theorem QOw.place {w : World} {n : Nat} {t : QT} (h : QOw w n t) : (t.p = none ∧ t.cap = 0 ∧ t.xs = []) ∨ ∃ b cur, t.p = some ⟨b, 0, none⟩ ∧ n ≤ b ∧ b < w.heap.size ∧ w.heap[b]? = some (.cells cur 29 (0, 0)) ∧ cur.size = 4 * t.cap ∧ t.cap ≤ 9223372036854775807 := by cases h; assumption
theorem QOw.of {w : World} {n : Nat} {t : QT} (h : (t.p = none ∧ t.cap = 0 ∧ t.xs = []) ∨ ∃ b cur, t.p = some ⟨b, 0, none⟩ ∧ n ≤ b ∧ b < w.heap.size ∧ w.heap[b]? = some (.cells cur 29 (0, 0)) ∧ cur.size = 4 * t.cap ∧ t.cap ≤ 9223372036854775807) (hx : ∀ x ∈ t.xs, QOw w n x) : QOw w n t := by cases t; exact .mk h hx
/-- they stay where their blocks stay -/
theorem QOw.keep {w w' : World} {n : Nat} (hs : w.heap.size ≤ w'.heap.size) {t : QT} (h : QOw w n t) (hk : ∀ b, n ≤ b → b < w.heap.size → w'.heap[b]? = w.heap[b]?) : QOw w' n t := by
  induction t using QT.ind with
  | h k s m p c xs ih =>
    refine .mk ?_ fun x hx => ih x hx (h.kids x hx)
    rcases h.place with h1 | ⟨b, cur, h1, h2, h3, h4, h5⟩
    · exact .inl h1
    · exact .inr ⟨b, cur, h1, h2, by omega, (hk b h2 h3).trans h4, h5⟩
theorem QOw.later {w w' : World} {n : Nat} {t : QT} (h : QOw w n t) (hb : Below w.heap.size w w') : QOw w' n t := h.keep hb.size fun b _ h2 => hb.block b h2
theorem QOw.lower {w : World} {n m : Nat} {t : QT} (h : QOw w n t) (hm : m ≤ n) : QOw w m t := by
  induction t using QT.ind with
  | h k s q p c xs ih =>
    refine .mk ?_ fun x hx => ih x hx (h.kids x hx)
    rcases h.place with h1 | ⟨b, cur, h1, h2, h3⟩
    · exact .inl h1
    · exact .inr ⟨b, cur, h1, by omega, h3⟩
/-- what is in an ask of its own stays where the blocks from n on stay, but for one that is none of its -/
theorem QIn.keep {w w' : World} {n : Nat} (hs : w.heap.size ≤ w'.heap.size) {t : QT} (h : QIn w t) (ho : QOw w n t) (hk : ∀ b, n ≤ b → b < w.heap.size → w'.heap[b]? = w.heap[b]?) : QIn w' t := by
  induction t using QT.ind with
  | h k s m p c xs ih =>
    refine QIn.of h.small.1 h.small.2.1 h.small.2.2 (QsIn.mk fun j x hx => ?_)
    obtain ⟨⟨b, o, h1, h2, h3⟩, h4⟩ := h.kids.at hx
    have hm := List.mem_of_getElem? hx
    refine ⟨⟨b, o, h1, by omega, ?_⟩, ih x hm h4 (ho.kids x hm)⟩
    rcases ho.place with ⟨_, _, hno⟩ | ⟨b', cur, h5, h6, h7, _⟩
    · rw [hno] at hx; simp at hx
    · have e : (some ⟨b', 0, none⟩ : Option Addr) = some ⟨b, o, none⟩ := h5.symm.trans h1
      injection e with e
      injection e with e1 e2
      subst e1
      have hc : ∀ i, w'.cell? ⟨b', i, none⟩ = w.cell? ⟨b', i, none⟩ := fun i => by simp only [World.cell?, hk b' h6 h7]
      obtain ⟨q0, q1, q2, q3⟩ := h3
      exact ⟨(hc _).trans q0, (hc _).trans q1, (hc _).trans q2, (hc _).trans q3⟩
/-- none of its lists lies at a block -/
inductive QAv (g : Nat) : QT → Prop where
  | mk {k : Int} {s : ByteArray} {m : Int} {p : Option Addr} {c : Nat} {xs : List QT} (h : ∀ b o, p = some ⟨b, o, none⟩ → b ≠ g) (hx : ∀ x ∈ xs, QAv g x) : QAv g (.mk k s m p c xs)
theorem QAv.kids {g : Nat} {t : QT} (h : QAv g t) : ∀ x ∈ t.xs, QAv g x := by cases h; assumption
theorem QAv.place {g : Nat} {t : QT} (h : QAv g t) : ∀ b o, t.p = some ⟨b, o, none⟩ → b ≠ g := by cases h; assumption
theorem QAv.of {g : Nat} {t : QT} (h : ∀ b o, t.p = some ⟨b, o, none⟩ → b ≠ g) (hx : ∀ x ∈ t.xs, QAv g x) : QAv g t := by cases t; exact .mk h hx
theorem QOw.av_lt {w : World} {n g : Nat} {t : QT} (h : QOw w n t) (hg : g < n) : QAv g t := by
  induction t using QT.ind with
  | h k s m p c xs ih =>
    refine .mk (fun b o e => ?_) fun x hx => ih x hx (h.kids x hx)
    rcases h.place with ⟨h1, _⟩ | ⟨b', cur, h1, h2, _⟩
    · rw [show p = none from h1] at e; cases e
    · rw [show p = _ from h1] at e; injection e with e; injection e with e _; omega
theorem QOw.av_ge {w : World} {n g : Nat} {t : QT} (h : QOw w n t) (hg : w.heap.size ≤ g) : QAv g t := by
  induction t using QT.ind with
  | h k s m p c xs ih =>
    refine .mk (fun b o e => ?_) fun x hx => ih x hx (h.kids x hx)
    rcases h.place with ⟨h1, _⟩ | ⟨b', cur, h1, _, h2, _⟩
    · rw [show p = none from h1] at e; cases e
    · rw [show p = _ from h1] at e; injection e with e; injection e with e _; omega
/-- asks of their own stay where one block grows that is none of theirs -/
theorem QOw.grown {w w' : World} {n : Nat} {row : Option Nat} {t : QT} (ho : QOw w n t) (hs : w.heap.size ≤ w'.heap.size) (hb : ∀ k, k < w.heap.size → some k ≠ row → w'.heap[k]? = w.heap[k]?) (hne : ∀ b, row = some b → QAv b t) : QOw w' n t := by
  induction t using QT.ind with
  | h k s m p c xs ih =>
    refine .mk ?_ fun x hx => ih x hx (ho.kids x hx) fun b e => (hne b e).kids x hx
    rcases ho.place with h1 | ⟨b, cur, h1, h2, h3, h4, h5⟩
    · exact .inl h1
    · exact .inr ⟨b, cur, h1, h2, by omega, (hb b h3 fun e => (hne b e.symm).place b 0 h1 rfl).trans h4, h5⟩
theorem QIn.grown {w w' : World} {n : Nat} {row : Option Nat} {t : QT} (h : QIn w t) (ho : QOw w n t) (hs : w.heap.size ≤ w'.heap.size) (hb : ∀ k, k < w.heap.size → some k ≠ row → w'.heap[k]? = w.heap[k]?) (hne : ∀ b, row = some b → QAv b t) : QIn w' t := by
  induction t using QT.ind with
  | h k s m p c xs ih =>
    refine QIn.of h.small.1 h.small.2.1 h.small.2.2 (QsIn.mk fun j x hx => ?_)
    obtain ⟨⟨b, o, h1, h2, h3⟩, h4⟩ := h.kids.at hx
    have hm := List.mem_of_getElem? hx
    refine ⟨⟨b, o, h1, by omega, ?_⟩, ih x hm h4 (ho.kids x hm) fun b e => (hne b e).kids x hm⟩
    have hc : ∀ i, w'.cell? ⟨b, i, none⟩ = w.cell? ⟨b, i, none⟩ := fun i => by simp only [World.cell?, hb b h2 fun e => (hne b e.symm).place b o h1 rfl]
    obtain ⟨q0, q1, q2, q3⟩ := h3
    exact ⟨(hc _).trans q0, (hc _).trans q1, (hc _).trans q2, (hc _).trans q3⟩
/-- the ask of a law, by value -/
def AskAt (w : World) (v : Value) (t : QT) : Prop := v = t.v ∧ QIn w t
end Go.Proofs.YteefncohknclcaaGreatDoor
