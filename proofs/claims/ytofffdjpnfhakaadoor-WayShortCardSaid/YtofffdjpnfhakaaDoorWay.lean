/- The shortest way from one set into another: the rings around the second, and the walk through them. Conditions: none. -/
import Derived.Test.YtofffdjpnfhakaaDoorBetweenW
namespace Go.Proofs.YtofffdjpnfhakaaDoor
/-- from whom the set b is come to within so many steps -/
def DD (r : List B) (b : B) (j : Nat) : B := ball (bk r) j b
theorem DD_zero (r : List B) (b : B) : DD r b 0 = b := rfl
theorem DD_succ {r : List B} (hv : Valid r) {b : B} {j n : Nat} : has (DD r b (j + 1)) n = true ↔ has (DD r b j) n = true ∨ ∃ k, has (DD r b j) k = true ∧ has (row r n) k = true := by
  unfold DD
  rw [has_ball_succ]
  simp only [edge_bk hv]
theorem DD_mono {r : List B} {b : B} {i j : Nat} (h : i ≤ j) {k : Nat} (hk : has (DD r b i) k = true) : has (DD r b j) k = true := ball_mono h hk
theorem DD_in {r : List B} {a b : B} (h : chks r [a, b] = 0) {j k : Nat} (hk : has (DD r b j) k = true) : k < r.length := by
  obtain ⟨hv, _, _, h3⟩ := chks_two h
  have := ball_in (valid_bk hv) ((chks_zero.1 h3).2 b (by simp)) j k hk
  rwa [bk_len] at this
theorem and_ne {s t : B} : s &&& t ≠ 0#64 ↔ ∃ k, has s k = true ∧ has t k = true := by
  constructor
  · intro h
    obtain ⟨k, hk⟩ := exists_of_ne h
    rw [has_and, Bool.and_eq_true] at hk
    exact ⟨k, hk⟩
  · rintro ⟨k, h1, h2⟩ h0
    have := eq_zero_iff.1 h0 k
    rw [has_and, h1, h2] at this; cases this
/-- the distance from a into b -/
structure Dist (r : List B) (a b : B) (d : Nat) : Prop where
  at_ : a &&& DD r b d ≠ 0#64
  before : ∀ j, j < d → a &&& DD r b j = 0#64
/-- the number that the walk takes, d steps away from b -/
def wayN (r : List B) (b : B) (d : Nat) (a : B) : Nat := low (a &&& DD r b d)
theorem wayN_spec {r : List B} {a b : B} {d : Nat} (h : Dist r a b d) : has a (wayN r b d a) = true ∧ has (DD r b d) (wayN r b d a) = true ∧ (∀ j, j < d → has (DD r b j) (wayN r b d a) = false) ∧ ∀ k, has a k = true → has (DD r b d) k = true → wayN r b d a ≤ k := by
  have hl := has_low h.at_
  rw [has_and, Bool.and_eq_true] at hl
  refine ⟨hl.1, hl.2, fun j hj => ?_, fun k h1 h2 => ?_⟩
  · have := eq_zero_iff.1 (h.before j hj) (wayN r b d a)
    rw [has_and] at this
    unfold wayN at this ⊢
    rw [hl.1] at this
    simpa using this
  · rcases Nat.lt_or_ge k (wayN r b d a) with h3 | h3
    · have := low_least h.at_ h3
      rw [has_and, h1, h2] at this; cases this
    · exact h3
/-- from a number that lies d + 1 steps away, the row has one that lies d steps away -/
theorem dist_row {r : List B} (hv : Valid r) {b : B} {d n : Nat} (h1 : has (DD r b (d + 1)) n = true) (h2 : ∀ j, j < d + 1 → has (DD r b j) n = false) : Dist r (row r n) b d := by
  refine ⟨?_, fun j hj => ?_⟩
  · rcases (DD_succ hv).1 h1 with h | ⟨k, hk, hr⟩
    · rw [h2 d (by omega)] at h; cases h
    · exact and_ne.2 ⟨k, hr, hk⟩
  · by_cases h0 : row r n &&& DD r b j = 0#64
    · exact h0
    · obtain ⟨k, hr, hk⟩ := and_ne.1 h0
      have := (DD_succ (n := n) hv).2 (.inr ⟨k, hk, hr⟩)
      rw [h2 (j + 1) (by omega)] at this; cases this
theorem dist_next {r : List B} (hv : Valid r) {a b : B} {d : Nat} (h : Dist r a b (d + 1)) : Dist r (row r (wayN r b (d + 1) a)) b d := by
  obtain ⟨_, h2, h3, _⟩ := wayN_spec h
  exact dist_row hv h2 h3
/-- a walk of so many numbers -/
def wayL (r : List B) (b : B) : Nat → B → List Nat
  | 0, _ => []
  | d + 1, a => wayN r b d a :: wayL r b d (row r (wayN r b d a))
theorem wayL_len (r : List B) (b : B) (d : Nat) (a : B) : (wayL r b d a).length = d := by
  induction d generalizing a with
  | zero => rfl
  | succ d ih => show (_ :: _).length = _; rw [List.length_cons, ih]
/-- the walk's j-th number lies d - j steps away -/
theorem wayL_at {r : List B} (hv : Valid r) {a b : B} {d : Nat} (h : Dist r a b d) {j : Nat} (hj : j ≤ d) :
    has (DD r b (d - j)) ((wayL r b (d + 1) a).getD j 0) = true ∧ (∀ i, i < d - j → has (DD r b i) ((wayL r b (d + 1) a).getD j 0) = false) := by
  induction d generalizing a j with
  | zero =>
    have : j = 0 := by omega
    subst this
    exact ⟨(wayN_spec h).2.1, (wayN_spec h).2.2.1⟩
  | succ d ih =>
    cases j with
    | zero => exact ⟨(wayN_spec h).2.1, (wayN_spec h).2.2.1⟩
    | succ j =>
      have := ih (dist_next hv h) (j := j) (by omega)
      rw [show d + 1 - (j + 1) = d - j by omega]
      exact this
theorem wayL_edge {r : List B} (hv : Valid r) {a b : B} {d : Nat} (h : Dist r a b d) {j : Nat} (hj : j < d) :
    has (row r ((wayL r b (d + 1) a).getD j 0)) ((wayL r b (d + 1) a).getD (j + 1) 0) = true := by
  induction d generalizing a j with
  | zero => omega
  | succ d ih =>
    cases j with
    | zero => exact (wayN_spec (dist_next hv h)).1
    | succ j => exact ih (dist_next hv h) (j := j) (by omega)
theorem wayL_first {r : List B} {a b : B} {d : Nat} (h : Dist r a b d) : has a ((wayL r b (d + 1) a).getD 0 0) = true := (wayN_spec h).1
theorem wayL_last {r : List B} (hv : Valid r) {a b : B} {d : Nat} (h : Dist r a b d) : has b ((wayL r b (d + 1) a).getD d 0) = true := by
  have := (wayL_at hv h (j := d) (Nat.le_refl _)).1
  rw [Nat.sub_self] at this
  exact this
theorem wayL_lt {r : List B} {a b : B} (hc : chks r [a, b] = 0) {d : Nat} (h : Dist r a b d) {j : Nat} (hj : j ≤ d) : (wayL r b (d + 1) a).getD j 0 < r.length :=
  DD_in hc (wayL_at (chks_two hc).1 h hj).1
/-- no number stands twice -/
theorem wayL_ne {r : List B} (hv : Valid r) {a b : B} {d : Nat} (h : Dist r a b d) {i j : Nat} (hij : i < j) (hj : j ≤ d) : (wayL r b (d + 1) a).getD i 0 ≠ (wayL r b (d + 1) a).getD j 0 := by
  intro e
  have h1 := (wayL_at hv h (j := i) (by omega)).2 (d - j) (by omega)
  have h2 := (wayL_at hv h hj).1
  rw [← e, h1] at h2; cases h2
/-- a step along the walk: the way of its second number is the rest -/
theorem wayL_step {r : List B} (hv : Valid r) {a b : B} {d : Nat} (h : Dist r a b (d + 1)) :
    Dist r (1#64 <<< (wayL r b (d + 2) a).getD 1 0) b d ∧ wayL r b (d + 1) (1#64 <<< (wayL r b (d + 2) a).getD 1 0) = (wayL r b (d + 2) a).drop 1 := by
  have hd := dist_next hv h
  obtain ⟨_, h2, h3, _⟩ := wayN_spec hd
  have e : (wayL r b (d + 2) a).getD 1 0 = wayN r b d (row r (wayN r b (d + 1) a)) := rfl
  rw [e]
  have hD : Dist r (1#64 <<< wayN r b d (row r (wayN r b (d + 1) a))) b d := by
    refine ⟨and_ne.2 ⟨_, (by rw [has_one _ _ (has_lt h2)]; simp), h2⟩, fun j hj => eq_zero_iff.2 fun k => ?_⟩
    rw [has_and]
    cases hk : has (1#64 <<< wayN r b d (row r (wayN r b (d + 1) a))) k
    · rfl
    · rw [has_one _ _ (has_lt hk)] at hk
      have : k = wayN r b d (row r (wayN r b (d + 1) a)) := by simpa using hk
      subst this
      rw [h3 j hj]; rfl
  refine ⟨hD, ?_⟩
  have hn : wayN r b d (1#64 <<< wayN r b d (row r (wayN r b (d + 1) a))) = wayN r b d (row r (wayN r b (d + 1) a)) := by
    have := (wayN_spec hD).1
    rw [has_one _ _ (has_lt this)] at this
    simpa using this
  show wayN r b d _ :: wayL r b d _ = _
  rw [hn]; rfl
/-- there is a distance just where the closure meets the set -/
theorem dist_or {r : List B} (a b : B) (d : Nat) : (∃ k, k ≤ d ∧ Dist r a b k) ∨ ∀ j, j ≤ d → a &&& DD r b j = 0#64 := by
  induction d with
  | zero =>
    by_cases h : a &&& DD r b 0 = 0#64
    · exact .inr fun j hj => by have : j = 0 := by omega
                                subst this; exact h
    · exact .inl ⟨0, Nat.le_refl _, h, fun j hj => absurd hj (by omega)⟩
  | succ d ih =>
    rcases ih with ⟨k, hk, h⟩ | h
    · exact .inl ⟨k, by omega, h⟩
    · by_cases h2 : a &&& DD r b (d + 1) = 0#64
      · exact .inr fun j hj => by
          rcases Nat.lt_or_ge j (d + 1) with h3 | h3
          · exact h j (by omega)
          · have : j = d + 1 := by omega
            subst this; exact h2
      · exact .inl ⟨d + 1, Nat.le_refl _, h2, fun j hj => h j (by omega)⟩
/-- a ring that stops growing is closed -/
theorem DD_stop {r : List B} {b : B} {j : Nat} (h : DD r b (j + 1) = DD r b j) : Closed (bk r) (DD r b j) := by
  intro n k hn hk
  have : has (DD r b (j + 1)) k = true := has_ball_succ.2 (.inr ⟨n, hn, hk⟩)
  rw [h] at this; exact this
theorem DD_stop_all {r : List B} {b : B} {j : Nat} (h : DD r b (j + 1) = DD r b j) (i : Nat) (k : Nat) (hk : has (DD r b i) k = true) : has (DD r b j) k = true :=
  ball_least (DD_stop h) (fun _ hk => ball_self j hk) i k hk
/-- a ring that grows has more numbers -/
theorem DD_grow {r : List B} {b : B} {j : Nat} (h : DD r b (j + 1) ≠ DD r b j) : cnt (DD r b j) < cnt (DD r b (j + 1)) := by
  refine not_closed (r := bk r) (i := j) (s := b) fun hc => h ?_
  exact eq_of_iff fun k => ⟨fun hk => ball_least hc (fun k hk => ball_self j hk) (j + 1) k hk, fun hk => ball_mono (Nat.le_succ j) hk⟩
/-- no distance, then nothing between -/
theorem far_none {r : List B} (hv : Valid r) {a b : B} : (∀ j, a &&& DD r b j = 0#64) ↔ betw r a b = 0#64 := by
  constructor
  · intro h
    by_cases h0 : betw r a b = 0#64
    · exact h0
    · have := (betw_ne hv).1 h0
      obtain ⟨k, hk, hb⟩ := and_ne.1 this
      obtain ⟨x, hx, hr⟩ := has_cls.1 hk
      have h2 : has (cls (bk r) b) x = true := has_cls.2 ⟨k, hb, (rch_bk hv).2 hr⟩
      exact absurd (and_ne.2 ⟨x, hx, h2⟩) (by rw [show cls (bk r) b = DD r b 64 from rfl, h 64]; simp)
  · intro h j
    by_cases h0 : a &&& DD r b j = 0#64
    · exact h0
    · obtain ⟨x, hx, hb⟩ := and_ne.1 h0
      have hc : has (cls (bk r) b) x = true := ball_least (cls_closed (bk r) b) (fun k hk => cls_self hk) j x hb
      have : has (betw r a b) x = true := by unfold betw; rw [has_and, cls_self hx, hc]; rfl
      rw [h, has_zero] at this; cases this
theorem dist_betw {r : List B} (hv : Valid r) {a b : B} {d : Nat} (h : Dist r a b d) : betw r a b ≠ 0#64 := fun h0 => h.at_ ((far_none hv).2 h0 d)
/-- all numbers of the walk lie between -/
theorem wayL_betw {r : List B} (hv : Valid r) {a b : B} {d : Nat} (h : Dist r a b d) {j : Nat} (hj : j ≤ d) : has (betw r a b) ((wayL r b (d + 1) a).getD j 0) = true := by
  have h1 : has (cls r a) ((wayL r b (d + 1) a).getD j 0) = true := by
    induction j with
    | zero => exact cls_self (wayL_first h)
    | succ j ih => exact cls_closed r a _ _ (ih (by omega)) (wayL_edge hv h (by omega))
  have h2 : has (cls (bk r) b) ((wayL r b (d + 1) a).getD j 0) = true := ball_least (cls_closed (bk r) b) (fun k hk => cls_self hk) (d - j) _ (wayL_at hv h hj).1
  unfold betw
  rw [has_and, h1, h2]; rfl
/-- a walk into b of so many numbers starts within so many steps -/
theorem walk_in {r : List B} (hv : Valid r) {b : B} (l : List Nat) (hne : l ≠ []) (he : ∀ j, j + 1 < l.length → has (row r (l.getD j 0)) (l.getD (j + 1) 0) = true) (hb : has b (l.getD (l.length - 1) 0) = true) : has (DD r b (l.length - 1)) (l.getD 0 0) = true := by
  induction l with
  | nil => exact absurd rfl hne
  | cons x l ih =>
    cases l with
    | nil => exact hb
    | cons y l =>
      have h1 := ih (by simp) (fun j hj => he (j + 1) (by simpa using hj)) (by simpa using hb)
      have h2 := he 0 (by simp)
      have : (x :: y :: l).length - 1 = (y :: l).length - 1 + 1 := by simp
      rw [this]
      exact (DD_succ hv).2 (.inr ⟨y, h1, h2⟩)
/-- the walk is the least among those of its length -/
theorem wayL_least {r : List B} (hv : Valid r) {b : B} {d : Nat} {a : B} (h : Dist r a b d) (l : List Nat) (hl : l.length = d + 1) (ha : has a (l.getD 0 0) = true)
    (he : ∀ j, j + 1 < l.length → has (row r (l.getD j 0)) (l.getD (j + 1) 0) = true) (hb : has b (l.getD (l.length - 1) 0) = true) :
    wayL r b (d + 1) a = l ∨ ∃ k, k < d + 1 ∧ (wayL r b (d + 1) a).take k = l.take k ∧ (wayL r b (d + 1) a).getD k 0 < l.getD k 0 := by
  induction d generalizing a l with
  | zero =>
    match l, hl with
    | [x], _ =>
      have h2 := (wayN_spec h).2.2.2 x ha hb
      show [wayN r b 0 a] = [x] ∨ _
      rcases Nat.lt_or_ge (wayN r b 0 a) x with h3 | h3
      · exact .inr ⟨0, by omega, rfl, h3⟩
      · left; rw [show wayN r b 0 a = x by omega]
  | succ d ih =>
    match l, hl with
    | x :: l, hl =>
      have hl' : l.length = d + 1 := by simpa using hl
      have hne : l ≠ [] := fun e => by subst e; simp at hl'
      have hx : has (DD r b (d + 1)) x = true := by
        have := walk_in hv (x :: l) (by simp) he hb
        rw [hl] at this; exact this
      have h2 := (wayN_spec h).2.2.2 x ha hx
      rcases Nat.lt_or_ge (wayN r b (d + 1) a) x with h3 | h3
      · exact .inr ⟨0, by omega, rfl, h3⟩
      · have hxe : wayN r b (d + 1) a = x := by omega
        have he0 : has (row r x) (l.getD 0 0) = true := he 0 (by simp; omega)
        have hb' : has b (l.getD (l.length - 1) 0) = true := by
          have e : (x :: l).getD ((x :: l).length - 1) 0 = l.getD (l.length - 1) 0 := by
            rw [hl, hl']; rfl
          rw [← e]; exact hb
        have := ih (a := row r x) (hxe ▸ dist_next hv h) l hl' he0 (fun j hj => he (j + 1) (by simpa using hj)) hb'
        show wayN r b (d + 1) a :: wayL r b (d + 1) (row r (wayN r b (d + 1) a)) = _ ∨ ∃ k, k < _ ∧ (wayN r b (d + 1) a :: wayL r b (d + 1) (row r (wayN r b (d + 1) a))).take k = _ ∧ (wayN r b (d + 1) a :: wayL r b (d + 1) (row r (wayN r b (d + 1) a))).getD k 0 < _
        rw [hxe]
        rcases this with h4 | ⟨k, hk, h5, h6⟩
        · left; rw [h4]
        · right
          refine ⟨k + 1, by omega, ?_, h6⟩
          rw [List.take_succ_cons, List.take_succ_cons, h5]
end Go.Proofs.YtofffdjpnfhakaaDoor
