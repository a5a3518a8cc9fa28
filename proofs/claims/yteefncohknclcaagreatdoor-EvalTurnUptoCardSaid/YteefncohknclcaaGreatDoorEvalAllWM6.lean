/- Texts joined: KahnW, KnotW, StaleP, BetweenW, Way. Conditions: theirs. -/
import Derived.Test.YteefncohknclcaaGreatDoorEvalAllWM5
import Derived.Deep.LoopGhost
import Derived.Test.YteefncohknclcaaGreatDoorEvalAllWM3
namespace Go.Proofs.YteefncohknclcaaGreatDoor
open Go.RowKit
end Go.Proofs.YteefncohknclcaaGreatDoor
namespace Go.Proofs.YteefncohknclcaaGreatDoor
open Go.RowKit
/-- where a number first stands in a list, or -1 -/
def firstAt (xs : List Nat) (x : Nat) : Int := if x ∈ xs then (xs.idxOf x : Int) else -1
theorem firstAt_hit {xs : List Nat} {x k : Nat} (hk : k < xs.length) (hx : xs[k] = x) (hno : x ∉ xs.take k) : firstAt xs x = (k : Int) := by
  have hm : x ∈ xs := by rw [← hx]; exact List.getElem_mem hk
  unfold firstAt
  rw [if_pos hm]
  have h1 : xs.idxOf x = k := by
    clear hm
    induction xs generalizing k with
    | nil => simp at hk
    | cons y ys ih =>
      cases k with
      | zero => simp at hx; subst hx; simp
      | succ k =>
        simp at hk hx hno
        have h2 := ih hk hx hno.2
        have h3 : (y == x) = false := by simp only [beq_eq_false_iff_ne, ne_eq]; exact fun h => hno.1 h.symm
        rw [List.idxOf_cons, h3, h2]
        simp
  rw [h1]
def isIn (xs : List Nat) (x : Nat) : Bool := decide (x ∈ xs)
theorem firstAt_sign (xs : List Nat) (x : Nat) : decide (0 ≤ firstAt xs x) = isIn xs x := by
  unfold firstAt isIn
  by_cases h : x ∈ xs <;> simp [h]
/-- what Order answers of right rows -/
def OrderPost (r : List B) (w : World) (e : Ending) (w' : World) : Prop :=
  (∃ (o : List Nat) (g : Option Addr) (cg : Nat), e = .returned (.tuple #[.slice g o.length cg, .int .i64 0]) ∧ KOrd r o 0#64 ∧ Stuck r 0#64 ∧ w'.ownsRow w.heap.size 3 1 (.slice g o.length cg) o.length (ints o) ∧ Below w.heap.size w w') ∨
  (∃ (o : List Nat) (left : B), e = .returned (.tuple #[.slice none 0 0, .int .i64 8]) ∧ left ≠ 0#64 ∧ KOrd r o left ∧ Stuck r left ∧ Below w.heap.size w w')
theorem knots_rows : chkR [2#64, 0#64] = 0 := by decide +kernel
theorem knots_order {o : List Nat} {left : B} (h : KOrd [2#64, 0#64] o left) (hs : Stuck [2#64, 0#64] left) : o = [1, 0] ∧ left = 0#64 := by
  have row0 : ∀ k, has (row [2#64, 0#64] 0) k = true → k = 1 := by
    intro k hk
    have hlt := has_lt hk
    revert hk; revert hlt; revert k
    decide +kernel
  have row1 : ∀ n k, 1 ≤ n → has (row [2#64, 0#64] n) k = true → False := by
    intro n k hn hk
    have := row_lt hk
    have hn1 : n = 1 := by simp at this; omega
    subst hn1
    have hlt := has_lt hk
    revert hk; revert hlt; revert k
    decide +kernel
  have hl0 : ∀ n, has left n = true → False := by
    intro n hn
    obtain ⟨k, h1, h2⟩ := hs n hn
    rcases Nat.lt_or_ge n 1 with h3 | h3
    · have hn0 : n = 0 := by omega
      subst hn0
      have hk1 := row0 k h1
      subst hk1
      obtain ⟨j, h4, _⟩ := hs 1 h2
      exact row1 1 j (by omega) h4
    · exact row1 n k h3 h1
  have hleft : left = 0#64 := eq_zero_iff.2 fun n => by
    by_cases hn : has left n = true
    · exact absurd (hl0 n hn) id
    · simpa using hn
  subst hleft
  have hlen := kord_all h
  simp at hlen
  refine ⟨?_, rfl⟩
  match o, hlen, h with
  | [a, b], _, h =>
    have ha := h.lt a (by simp)
    have hb := h.lt b (by simp)
    have hne : a ≠ b := by have := h.nodup; simp at this; exact this
    simp at ha hb
    have h01 : has (row [2#64, 0#64] 0) 1 = true := by decide +kernel
    rcases (show a = 0 ∨ a = 1 by omega) with rfl | rfl
    · have := h.needs 0 (by simp) 1 h01
      simp at this
    · have : b = 0 := by omega
      subst this; rfl
end Go.Proofs.YteefncohknclcaaGreatDoor
namespace Go.Proofs.YteefncohknclcaaGreatDoor
open Go.RowKit
/-- what is seen of a graph -/
structure SD where
  at_ : List Int
  dirty : B
def iv (l : List Int) : List Value := l.map (Value.int .i64)
/-- it as the call can read it -/
structure SnAt (w : World) (v : Value) (x : SD) : Prop where
  at_ : ∃ (p : Option Addr) (n c : Nat), v = .agg #[.slice p n c, .int .u64 (un x.dirty : Int)] ∧ x.at_.length = n ∧ Reads w w.heap.size 1 p n (iv x.at_) ∧ n ≤ 17592186044416
theorem SnAt.below {w w' : World} {v : Value} {x : SD} (h : SnAt w v x) (hb : Below w.heap.size w w') : SnAt w' v x := by
  obtain ⟨p, n, c, h1, h2, h3, h4⟩ := h.at_
  exact ⟨p, n, c, h1, h2, (h3.below hb).more hb.size, h4⟩
theorem iv_at {w : World} {b n : Nat} {p : Option Addr} {l : List Int} (h : Reads w b 1 p n (iv l)) {k : Nat} (hk : k < n) : ∃ ad, p = some ad ∧ ad.block < b ∧ w.cell? (ad.add k) = some (.int .i64 (l.getD k 0)) := by
  obtain ⟨ad, u, rfl, hb, hu, hc⟩ := h.at_ hk
  refine ⟨ad, rfl, hb, ?_⟩
  have hl : k < l.length := by have := h.1; simp [iv] at this; omega
  rw [hc, ← hu]
  unfold iv
  rw [List.getElem?_map, List.getD_eq_getElem?_getD, List.getElem?_eq_getElem hl]
  rfl
def rws (g : GD) : List B := rowsE g.names.length g.edges
theorem rws_len (g : GD) : (rws g).length = g.names.length := rowsE_len _ _
theorem row_rws {g : GD} {a : Nat} (h : a < g.names.length) : row (rws g) a = rowE g.edges a := rowsE_get _ h
theorem has_rws {g : GD} (hg : Good g) {a b : Nat} : has (row (rws g) a) b = true ↔ ((a : Int), (b : Int)) ∈ g.edges := by
  constructor
  · intro h
    have ha : a < g.names.length := by have := row_lt h; rwa [rws_len] at this
    have hb := has_lt h
    rw [row_rws ha, has_rowE hb (fun x hx => ⟨(hg.edges x hx).2.2.1, by have := (hg.edges x hx).2.2.2; have := hg.names; omega⟩)] at h
    exact of_decide_eq_true h
  · intro h
    have h1 := hg.edges _ h
    have ha : a < g.names.length := by have := h1.2.1; simp only at this; omega
    have hb : b < 64 := by have := h1.2.2.2; have := hg.names; simp only at *; omega
    rw [row_rws ha, has_rowE hb (fun x hx => ⟨(hg.edges x hx).2.2.1, by have := (hg.edges x hx).2.2.2; have := hg.names; omega⟩)]
    exact decide_eq_true h
theorem valid_rws {g : GD} (hg : Good g) : Valid (rws g) := by
  refine ⟨by rw [rws_len]; exact hg.names, fun i k h => ?_⟩
  rw [rws_len]
  have := hg.edges _ ((has_rws hg).1 h)
  have := this.2.2.2
  simp only at this
  omega
/-- why a number is stale, where s tells of the others -/
def Why (g : GD) (x : SD) (s : B) (n : Nat) : Prop :=
  x.at_.getD n 0 < 0 ∨ has g.phony n = true ∨ ∃ k, has (row (rws g) n) k = true ∧ (has x.dirty k = true ∨ has s k = true ∨ x.at_.getD n 0 < x.at_.getD k 0)
/-- the stale numbers -/
def Stale (g : GD) (x : SD) (s : B) : Prop := ∀ n, has s n = true ↔ n < g.names.length ∧ has (g.made ||| g.phony) n = true ∧ Why g x s n
/-- what stale.check lets pass -/
structure Right (g : GD) (x : SD) : Prop where
  good : Good g
  len : x.at_.length = g.names.length
  range : ∀ n, n < g.names.length → -1 ≤ x.at_.getD n 0 ∧ x.at_.getD n 0 ≤ 1099511627776
  dirty : ∀ k, has x.dirty k = true → k < g.names.length
  there : ∀ n, n < g.names.length → x.at_.getD n 0 < 0 → has (g.made ||| g.phony) n = true
/-- right, and without a cycle -/
def Fit (g : GD) (x : SD) : Prop := Right g x ∧ ∃ o, KOrd (rws g) o 0#64
/-- along an order, one more dirty set makes no less stale -/
theorem stale_more {g : GD} {x y : SD} {s t : B} {o : List Nat} (ho : KOrd (rws g) o 0#64) (hat : x.at_ = y.at_) (hd : ∀ k, has x.dirty k = true → has y.dirty k = true) (hs : Stale g x s) (ht : Stale g y t) : s &&& ~~~t = 0#64 := by
  have key : ∀ i, i ≤ o.length → ∀ n ∈ o.take i, has s n = true → has t n = true := by
    intro i
    induction i with
    | zero => intro _ n hn; simp at hn
    | succ i ih =>
      intro hi n hn hsn
      rw [List.take_succ_eq_append_getElem (by omega)] at hn
      rcases List.mem_append.1 hn with hn | hn
      · exact ih (by omega) n hn hsn
      · have hne : n = o[i] := List.mem_singleton.1 hn
        obtain ⟨h1, h2, h3⟩ := (hs n).1 hsn
        refine (ht n).2 ⟨h1, h2, ?_⟩
        rcases h3 with h3 | h3 | ⟨k, h3, h4⟩
        · exact .inl (by rw [← hat]; exact h3)
        · exact .inr (.inl h3)
        · refine .inr (.inr ⟨k, h3, ?_⟩)
          rcases h4 with h4 | h4 | h4
          · exact .inl (hd k h4)
          · have hk := ho.needs i (by omega) k (by rw [← hne]; exact h3)
            exact .inr (.inl (ih (by omega) k hk h4))
          · exact .inr (.inr (by rw [← hat]; exact h4))
  refine eq_zero_iff.2 fun n => ?_
  rw [Bool.eq_false_iff]
  intro h
  have hn := has_lt h
  rw [has_and, has_not _ _ hn, Bool.and_eq_true] at h
  have hlt := ((hs n).1 h.1).1
  have hmem : n ∈ o := by
    have hiff := ho.left_iff n
    rw [has_zero, rws_len] at hiff
    by_cases hm : n ∈ o
    · exact hm
    · exact absurd (hiff.2 ⟨hlt, hm⟩) (by simp)
  have := key o.length (Nat.le_refl _) n (by rw [List.take_length]; exact hmem) h.1
  rw [this] at h
  simp at h
end Go.Proofs.YteefncohknclcaaGreatDoor
namespace Go.Proofs.YteefncohknclcaaGreatDoor
open Go.RowKit
def betw (r : List B) (a b : B) : B := cls r a &&& cls (bk r) b
theorem chks_two {r : List B} {a b : B} (h : chks r [a, b] = 0) : Valid r ∧ chks r [a] = 0 ∧ chks r [b] = 0 ∧ chks (bk r) [b] = 0 := by
  obtain ⟨hv, hs⟩ := chks_zero.1 h
  refine ⟨hv, chks_bits hv fun s hs' => ?_, chks_bits hv fun s hs' => ?_, chks_bits (valid_bk hv) fun s hs' => ?_⟩
  · exact hs s (by simp at hs'; simp [hs'])
  · exact hs s (by simp at hs'; simp [hs'])
  · rw [bk_len]; exact hs s (by simp at hs'; simp [hs'])
set_option maxHeartbeats 1000000 in
theorem Between_yes (p : Option Addr) (n c : Nat) (r : List B) (a b : B) (h : chks r [a, b] = 0) (w : World) (hR : RowsAt w p n r) (hT : Tab w) :
    Calls Tryz.prog 64 #[.slice p n c, .int .u64 (un a), .int .u64 (un b)] w fun e w' => e = .returned (.tuple #[.int .u64 (un (betw r a b)), .int .i64 0]) ∧ Below w.heap.size w w' := by
  have H := Lib.hid h
  obtain ⟨hv, h1, _, h3⟩ := chks_two h
  have HV := Lib.hid hv
  have H1 := Lib.hid h1
  have H3 := Lib.hid h3
  have HL := Lib.hid hR.len
  clear h hv h1 h3
  have hb1 : Below w.heap.size w (w.alloc (.cells #[.int .u64 (un a : Int), .int .u64 (un b : Int)] 24)) := (Below.refl _ _).alloc (Nat.le_refl _) _
  have hR1 := hR.below hb1
  have hT1 := hT.below hb1
  have hbig := Lib.hid hR.big
  have HB : Hid (cls r a &&& cls (bk r) b = betw r a b) := rfl
  go_enter Tryz.func64, Tryz.ntmps64
  go_wp2_with (first | (go_at_call 91; refine (checks_ok _ _ _ r _ _ _ [a, b] _ hR1 (rows_two w a b)).mono ?_; rw [H.out]; rintro e w' ⟨rfl, rfl⟩) | (go_at_call 92; refine (from_all _ _ _ r HV.out a (chks_in H1.out (by simp)) _ hR1 hT1).mono ?_; rintro e w' ⟨rfl, rfl⟩))
  refine (back_ok p n c r HV.out _ hR1 hT1).mono ?_
  rintro e w1 ⟨g, cg, rfl, hown, hb2⟩
  have hR2 := rows_own hown (by rw [bk_len]; exact HL.out) hbig.out
  have hT2 := hT1.below hb2
  have hb := below_next hb1 hb2
  clear hown hb1 hb2 hT1 hT hR hR1
  go_wp2_with fail
  refine (from_all _ _ _ (bk r) (valid_bk HV.out) b (chks_in H3.out (by simp)) _ hR2 hT2).mono ?_
  rintro e w' ⟨rfl, rfl⟩
  go_wp2
  go_ret2
  exact ⟨rfl, hb⟩
set_option maxHeartbeats 1000000 in
theorem Between_no (p : Option Addr) (n c : Nat) (r : List B) (a b : B) (h : chks r [a, b] ≠ 0) (w : World) (hR : RowsAt w p n r) :
    Calls Tryz.prog 64 #[.slice p n c, .int .u64 (un a), .int .u64 (un b)] w fun e w' => e = .returned (.tuple #[.int .u64 0, .int .i64 (chks r [a, b])]) ∧ Below w.heap.size w w' := by
  obtain ⟨h1, h2⟩ := int_ne h
  clear h
  have hb1 : Below w.heap.size w (w.alloc (.cells #[.int .u64 (un a : Int), .int .u64 (un b : Int)] 24)) := (Below.refl _ _).alloc (Nat.le_refl _) _
  have hR1 := hR.below hb1
  go_enter Tryz.func64, Tryz.ntmps64
  go_wp2_with (go_at_call 91; refine (checks_ok _ _ _ r _ _ _ [a, b] _ hR1 (rows_two w a b)).mono ?_; rintro e w' ⟨rfl, rfl⟩)
  go_ret2
  exact ⟨rfl, hb1⟩
theorem has_betw {r : List B} (hv : Valid r) {a b : B} {k : Nat} : has (betw r a b) k = true ↔ has (cls r a) k = true ∧ ∃ j, has b j = true ∧ Rch r k j := by
  unfold betw
  rw [has_and, Bool.and_eq_true, has_cls (r := bk r)]
  simp only [rch_bk hv]
theorem betw_one {r : List B} (hv : Valid r) {a b : B} {k : Nat} (h : has (betw r a b) k = true) : has (cls r a) k = true ∧ cls r (1#64 <<< k) &&& b ≠ 0#64 := by
  obtain ⟨h1, j, hj, hr⟩ := (has_betw hv).1 h
  refine ⟨h1, fun h0 => ?_⟩
  have := eq_zero_iff.1 h0 j
  rw [has_and, hj, (has_cls_one (has_lt h1)).2 hr] at this
  cases this
theorem betw_ne {r : List B} (hv : Valid r) {a b : B} : betw r a b ≠ 0#64 ↔ cls r a &&& b ≠ 0#64 := by
  constructor
  · intro h h0
    obtain ⟨k, hk⟩ := exists_of_ne h
    obtain ⟨h1, j, hj, hr⟩ := (has_betw hv).1 hk
    obtain ⟨x, hx, hrx⟩ := has_cls.1 h1
    have := eq_zero_iff.1 h0 j
    rw [has_and, hj, has_cls.2 ⟨x, hx, hrx.trans hr⟩] at this
    cases this
  · intro h h0
    obtain ⟨k, hk⟩ := exists_of_ne h
    rw [has_and, Bool.and_eq_true] at hk
    have := eq_zero_iff.1 h0 k
    rw [(has_betw hv).2 ⟨hk.1, k, hk.2, .refl k⟩] at this
    cases this
theorem betw_ends {r : List B} (hv : Valid r) {a b : B} : (cls r a &&& b) &&& ~~~betw r a b = 0#64 := andNot_zero fun k hk => by
  rw [has_and, Bool.and_eq_true] at hk
  exact (has_betw hv).2 ⟨hk.1, k, hk.2, .refl k⟩
end Go.Proofs.YteefncohknclcaaGreatDoor
namespace Go.Proofs.YteefncohknclcaaGreatDoor
/-- from whom the set b is come to within so many steps -/
def DD (r : List B) (b : B) (j : Nat) : B := ball (bk r) j b
theorem DD_zero (r : List B) (b : B) : DD r b 0 = b := rfl
theorem DD_succ {r : List B} (hv : Valid r) {b : B} {j n : Nat} : has (DD r b (j + 1)) n = true ↔ has (DD r b j) n = true ∨ ∃ k, has (DD r b j) k = true ∧ has (row r n) k = true := by
  unfold DD
  rw [has_ball_succ]
  simp only [edge_bk hv]
theorem DD_mono {r : List B} {b : B} {i j : Nat} (h : i ≤ j) {k : Nat} (hk : has (DD r b i) k = true) : has (DD r b j) k = true := ball_mono h hk
theorem DD_in {r : List B} {a b : B} (h : chks r [a, b] = 0) {j k : Nat} (hk : has (DD r b j) k = true) : k < r.length := by
  obtain ⟨hv, _, _, h3⟩ := chks_two h
  have := ball_in (valid_bk hv) ((chks_zero.1 h3).2 b (by simp)) j k hk
  rwa [bk_len] at this
theorem and_ne {s t : B} : s &&& t ≠ 0#64 ↔ ∃ k, has s k = true ∧ has t k = true := by
  constructor
  · intro h
    obtain ⟨k, hk⟩ := exists_of_ne h
    rw [has_and, Bool.and_eq_true] at hk
    exact ⟨k, hk⟩
  · rintro ⟨k, h1, h2⟩ h0
    have := eq_zero_iff.1 h0 k
    rw [has_and, h1, h2] at this; cases this
/-- the distance from a into b -/
structure Dist (r : List B) (a b : B) (d : Nat) : Prop where
  at_ : a &&& DD r b d ≠ 0#64
  before : ∀ j, j < d → a &&& DD r b j = 0#64
/-- the number that the walk takes, d steps away from b -/
def wayN (r : List B) (b : B) (d : Nat) (a : B) : Nat := low (a &&& DD r b d)
theorem wayN_spec {r : List B} {a b : B} {d : Nat} (h : Dist r a b d) : has a (wayN r b d a) = true ∧ has (DD r b d) (wayN r b d a) = true ∧ (∀ j, j < d → has (DD r b j) (wayN r b d a) = false) ∧ ∀ k, has a k = true → has (DD r b d) k = true → wayN r b d a ≤ k := by
  have hl := has_low h.at_
  rw [has_and, Bool.and_eq_true] at hl
  refine ⟨hl.1, hl.2, fun j hj => ?_, fun k h1 h2 => ?_⟩
  · have := eq_zero_iff.1 (h.before j hj) (wayN r b d a)
    rw [has_and] at this
    unfold wayN at this ⊢
    rw [hl.1] at this
    simpa using this
  · rcases Nat.lt_or_ge k (wayN r b d a) with h3 | h3
    · have := low_least h.at_ h3
      rw [has_and, h1, h2] at this; cases this
    · exact h3
/-- from a number that lies d + 1 steps away, the row has one that lies d steps away -/
theorem dist_row {r : List B} (hv : Valid r) {b : B} {d n : Nat} (h1 : has (DD r b (d + 1)) n = true) (h2 : ∀ j, j < d + 1 → has (DD r b j) n = false) : Dist r (row r n) b d := by
  refine ⟨?_, fun j hj => ?_⟩
  · rcases (DD_succ hv).1 h1 with h | ⟨k, hk, hr⟩
    · rw [h2 d (by omega)] at h; cases h
    · exact and_ne.2 ⟨k, hr, hk⟩
  · by_cases h0 : row r n &&& DD r b j = 0#64
    · exact h0
    · obtain ⟨k, hr, hk⟩ := and_ne.1 h0
      have := (DD_succ (n := n) hv).2 (.inr ⟨k, hk, hr⟩)
      rw [h2 (j + 1) (by omega)] at this; cases this
theorem dist_next {r : List B} (hv : Valid r) {a b : B} {d : Nat} (h : Dist r a b (d + 1)) : Dist r (row r (wayN r b (d + 1) a)) b d := by
  obtain ⟨_, h2, h3, _⟩ := wayN_spec h
  exact dist_row hv h2 h3
/-- a walk of so many numbers -/
def wayL (r : List B) (b : B) : Nat → B → List Nat
  | 0, _ => []
  | d + 1, a => wayN r b d a :: wayL r b d (row r (wayN r b d a))
theorem wayL_len (r : List B) (b : B) (d : Nat) (a : B) : (wayL r b d a).length = d := by
  induction d generalizing a with
  | zero => rfl
  | succ d ih => show (_ :: _).length = _; rw [List.length_cons, ih]
/-- the walk's j-th number lies d - j steps away -/
theorem wayL_at {r : List B} (hv : Valid r) {a b : B} {d : Nat} (h : Dist r a b d) {j : Nat} (hj : j ≤ d) :
    has (DD r b (d - j)) ((wayL r b (d + 1) a).getD j 0) = true ∧ (∀ i, i < d - j → has (DD r b i) ((wayL r b (d + 1) a).getD j 0) = false) := by
  induction d generalizing a j with
  | zero =>
    have : j = 0 := by omega
    subst this
    exact ⟨(wayN_spec h).2.1, (wayN_spec h).2.2.1⟩
  | succ d ih =>
    cases j with
    | zero => exact ⟨(wayN_spec h).2.1, (wayN_spec h).2.2.1⟩
    | succ j =>
      have := ih (dist_next hv h) (j := j) (by omega)
      rw [show d + 1 - (j + 1) = d - j by omega]
      exact this
theorem wayL_edge {r : List B} (hv : Valid r) {a b : B} {d : Nat} (h : Dist r a b d) {j : Nat} (hj : j < d) :
    has (row r ((wayL r b (d + 1) a).getD j 0)) ((wayL r b (d + 1) a).getD (j + 1) 0) = true := by
  induction d generalizing a j with
  | zero => omega
  | succ d ih =>
    cases j with
    | zero => exact (wayN_spec (dist_next hv h)).1
    | succ j => exact ih (dist_next hv h) (j := j) (by omega)
theorem wayL_first {r : List B} {a b : B} {d : Nat} (h : Dist r a b d) : has a ((wayL r b (d + 1) a).getD 0 0) = true := (wayN_spec h).1
theorem wayL_last {r : List B} (hv : Valid r) {a b : B} {d : Nat} (h : Dist r a b d) : has b ((wayL r b (d + 1) a).getD d 0) = true := by
  have := (wayL_at hv h (j := d) (Nat.le_refl _)).1
  rw [Nat.sub_self] at this
  exact this
theorem wayL_lt {r : List B} {a b : B} (hc : chks r [a, b] = 0) {d : Nat} (h : Dist r a b d) {j : Nat} (hj : j ≤ d) : (wayL r b (d + 1) a).getD j 0 < r.length :=
  DD_in hc (wayL_at (chks_two hc).1 h hj).1
/-- no number stands twice -/
theorem wayL_ne {r : List B} (hv : Valid r) {a b : B} {d : Nat} (h : Dist r a b d) {i j : Nat} (hij : i < j) (hj : j ≤ d) : (wayL r b (d + 1) a).getD i 0 ≠ (wayL r b (d + 1) a).getD j 0 := by
  intro e
  have h1 := (wayL_at hv h (j := i) (by omega)).2 (d - j) (by omega)
  have h2 := (wayL_at hv h hj).1
  rw [← e, h1] at h2; cases h2
/-- a step along the walk: the way of its second number is the rest -/
theorem wayL_step {r : List B} (hv : Valid r) {a b : B} {d : Nat} (h : Dist r a b (d + 1)) :
    Dist r (1#64 <<< (wayL r b (d + 2) a).getD 1 0) b d ∧ wayL r b (d + 1) (1#64 <<< (wayL r b (d + 2) a).getD 1 0) = (wayL r b (d + 2) a).drop 1 := by
  have hd := dist_next hv h
  obtain ⟨_, h2, h3, _⟩ := wayN_spec hd
  have e : (wayL r b (d + 2) a).getD 1 0 = wayN r b d (row r (wayN r b (d + 1) a)) := rfl
  rw [e]
  have hD : Dist r (1#64 <<< wayN r b d (row r (wayN r b (d + 1) a))) b d := by
    refine ⟨and_ne.2 ⟨_, (by rw [has_one _ _ (has_lt h2)]; simp), h2⟩, fun j hj => eq_zero_iff.2 fun k => ?_⟩
    rw [has_and]
    cases hk : has (1#64 <<< wayN r b d (row r (wayN r b (d + 1) a))) k
    · rfl
    · rw [has_one _ _ (has_lt hk)] at hk
      have : k = wayN r b d (row r (wayN r b (d + 1) a)) := by simpa using hk
      subst this
      rw [h3 j hj]; rfl
  refine ⟨hD, ?_⟩
  have hn : wayN r b d (1#64 <<< wayN r b d (row r (wayN r b (d + 1) a))) = wayN r b d (row r (wayN r b (d + 1) a)) := by
    have := (wayN_spec hD).1
    rw [has_one _ _ (has_lt this)] at this
    simpa using this
  show wayN r b d _ :: wayL r b d _ = _
  rw [hn]; rfl
/-- there is a distance just where the closure meets the set -/
theorem dist_or {r : List B} (a b : B) (d : Nat) : (∃ k, k ≤ d ∧ Dist r a b k) ∨ ∀ j, j ≤ d → a &&& DD r b j = 0#64 := by
  induction d with
  | zero =>
    by_cases h : a &&& DD r b 0 = 0#64
    · exact .inr fun j hj => by have : j = 0 := by omega
                                subst this; exact h
    · exact .inl ⟨0, Nat.le_refl _, h, fun j hj => absurd hj (by omega)⟩
  | succ d ih =>
    rcases ih with ⟨k, hk, h⟩ | h
    · exact .inl ⟨k, by omega, h⟩
    · by_cases h2 : a &&& DD r b (d + 1) = 0#64
      · exact .inr fun j hj => by
          rcases Nat.lt_or_ge j (d + 1) with h3 | h3
          · exact h j (by omega)
          · have : j = d + 1 := by omega
            subst this; exact h2
      · exact .inl ⟨d + 1, Nat.le_refl _, h2, fun j hj => h j (by omega)⟩
/-- a ring that stops growing is closed -/
theorem DD_stop {r : List B} {b : B} {j : Nat} (h : DD r b (j + 1) = DD r b j) : Closed (bk r) (DD r b j) := by
  intro n k hn hk
  have : has (DD r b (j + 1)) k = true := has_ball_succ.2 (.inr ⟨n, hn, hk⟩)
  rw [h] at this; exact this
theorem DD_stop_all {r : List B} {b : B} {j : Nat} (h : DD r b (j + 1) = DD r b j) (i : Nat) (k : Nat) (hk : has (DD r b i) k = true) : has (DD r b j) k = true :=
  ball_least (DD_stop h) (fun _ hk => ball_self j hk) i k hk
/-- a ring that grows has more numbers -/
theorem DD_grow {r : List B} {b : B} {j : Nat} (h : DD r b (j + 1) ≠ DD r b j) : cnt (DD r b j) < cnt (DD r b (j + 1)) := by
  refine not_closed (r := bk r) (i := j) (s := b) fun hc => h ?_
  exact eq_of_iff fun k => ⟨fun hk => ball_least hc (fun k hk => ball_self j hk) (j + 1) k hk, fun hk => ball_mono (Nat.le_succ j) hk⟩
/-- no distance, then nothing between -/
theorem far_none {r : List B} (hv : Valid r) {a b : B} : (∀ j, a &&& DD r b j = 0#64) ↔ betw r a b = 0#64 := by
  constructor
  · intro h
    by_cases h0 : betw r a b = 0#64
    · exact h0
    · have := (betw_ne hv).1 h0
      obtain ⟨k, hk, hb⟩ := and_ne.1 this
      obtain ⟨x, hx, hr⟩ := has_cls.1 hk
      have h2 : has (cls (bk r) b) x = true := has_cls.2 ⟨k, hb, (rch_bk hv).2 hr⟩
      exact absurd (and_ne.2 ⟨x, hx, h2⟩) (by rw [show cls (bk r) b = DD r b 64 from rfl, h 64]; simp)
  · intro h j
    by_cases h0 : a &&& DD r b j = 0#64
    · exact h0
    · obtain ⟨x, hx, hb⟩ := and_ne.1 h0
      have hc : has (cls (bk r) b) x = true := ball_least (cls_closed (bk r) b) (fun k hk => cls_self hk) j x hb
      have : has (betw r a b) x = true := by unfold betw; rw [has_and, cls_self hx, hc]; rfl
      rw [h, has_zero] at this; cases this
theorem dist_betw {r : List B} (hv : Valid r) {a b : B} {d : Nat} (h : Dist r a b d) : betw r a b ≠ 0#64 := fun h0 => h.at_ ((far_none hv).2 h0 d)
/-- all numbers of the walk lie between -/
theorem wayL_betw {r : List B} (hv : Valid r) {a b : B} {d : Nat} (h : Dist r a b d) {j : Nat} (hj : j ≤ d) : has (betw r a b) ((wayL r b (d + 1) a).getD j 0) = true := by
  have h1 : has (cls r a) ((wayL r b (d + 1) a).getD j 0) = true := by
    induction j with
    | zero => exact cls_self (wayL_first h)
    | succ j ih => exact cls_closed r a _ _ (ih (by omega)) (wayL_edge hv h (by omega))
  have h2 : has (cls (bk r) b) ((wayL r b (d + 1) a).getD j 0) = true := ball_least (cls_closed (bk r) b) (fun k hk => cls_self hk) (d - j) _ (wayL_at hv h hj).1
  unfold betw
  rw [has_and, h1, h2]; rfl
/-- a walk into b of so many numbers starts within so many steps -/
theorem walk_in {r : List B} (hv : Valid r) {b : B} (l : List Nat) (hne : l ≠ []) (he : ∀ j, j + 1 < l.length → has (row r (l.getD j 0)) (l.getD (j + 1) 0) = true) (hb : has b (l.getD (l.length - 1) 0) = true) : has (DD r b (l.length - 1)) (l.getD 0 0) = true := by
  induction l with
  | nil => exact absurd rfl hne
  | cons x l ih =>
    cases l with
    | nil => exact hb
    | cons y l =>
      have h1 := ih (by simp) (fun j hj => he (j + 1) (by simpa using hj)) (by simpa using hb)
      have h2 := he 0 (by simp)
      have : (x :: y :: l).length - 1 = (y :: l).length - 1 + 1 := by simp
      rw [this]
      exact (DD_succ hv).2 (.inr ⟨y, h1, h2⟩)
/-- the walk is the least among those of its length -/
theorem wayL_least {r : List B} (hv : Valid r) {b : B} {d : Nat} {a : B} (h : Dist r a b d) (l : List Nat) (hl : l.length = d + 1) (ha : has a (l.getD 0 0) = true)
    (he : ∀ j, j + 1 < l.length → has (row r (l.getD j 0)) (l.getD (j + 1) 0) = true) (hb : has b (l.getD (l.length - 1) 0) = true) :
    wayL r b (d + 1) a = l ∨ ∃ k, k < d + 1 ∧ (wayL r b (d + 1) a).take k = l.take k ∧ (wayL r b (d + 1) a).getD k 0 < l.getD k 0 := by
  induction d generalizing a l with
  | zero =>
    match l, hl with
    | [x], _ =>
      have h2 := (wayN_spec h).2.2.2 x ha hb
      show [wayN r b 0 a] = [x] ∨ _
      rcases Nat.lt_or_ge (wayN r b 0 a) x with h3 | h3
      · exact .inr ⟨0, by omega, rfl, h3⟩
      · left; rw [show wayN r b 0 a = x by omega]
  | succ d ih =>
    match l, hl with
    | x :: l, hl =>
      have hl' : l.length = d + 1 := by simpa using hl
      have hne : l ≠ [] := fun e => by subst e; simp at hl'
      have hx : has (DD r b (d + 1)) x = true := by
        have := walk_in hv (x :: l) (by simp) he hb
        rw [hl] at this; exact this
      have h2 := (wayN_spec h).2.2.2 x ha hx
      rcases Nat.lt_or_ge (wayN r b (d + 1) a) x with h3 | h3
      · exact .inr ⟨0, by omega, rfl, h3⟩
      · have hxe : wayN r b (d + 1) a = x := by omega
        have he0 : has (row r x) (l.getD 0 0) = true := he 0 (by simp; omega)
        have hb' : has b (l.getD (l.length - 1) 0) = true := by
          have e : (x :: l).getD ((x :: l).length - 1) 0 = l.getD (l.length - 1) 0 := by
            rw [hl, hl']; rfl
          rw [← e]; exact hb
        have := ih (a := row r x) (hxe ▸ dist_next hv h) l hl' he0 (fun j hj => he (j + 1) (by simpa using hj)) hb'
        show wayN r b (d + 1) a :: wayL r b (d + 1) (row r (wayN r b (d + 1) a)) = _ ∨ ∃ k, k < _ ∧ (wayN r b (d + 1) a :: wayL r b (d + 1) (row r (wayN r b (d + 1) a))).take k = _ ∧ (wayN r b (d + 1) a :: wayL r b (d + 1) (row r (wayN r b (d + 1) a))).getD k 0 < _
        rw [hxe]
        rcases this with h4 | ⟨k, hk, h5, h6⟩
        · left; rw [h4]
        · right
          refine ⟨k + 1, by omega, ?_, h6⟩
          rw [List.take_succ_cons, List.take_succ_cons, h5]
end Go.Proofs.YteefncohknclcaaGreatDoor
