/- Texts joined: SearchLay, SearchW, BitsW, Of, Reach. Conditions: theirs. -/
import Derived.Shelf.Spec.SearchS
import Derived.Test.YteefncohknclcaaGreatDoorProg
import Derived.Test.YteefncohknclcaaGreatDoorNLSetW
import Derived.Sort.Walk0
import Derived.Test.YteefncohknclcaaGreatDoorRows
import Derived.Test.YteefncohknclcaaGreatDoorUn
import Derived.Test.YteefncohknclcaaGreatDoorEven
import Derived.Test.YteefncohknclcaaGreatDoorMem
import Derived.Outline
import Derived.Test.YteefncohknclcaaGreatDoorSets
namespace Go.Proofs
open Go.Shelf Go.RowKit
def Tryz.laysBs_ren : Go.Shelf.Ren := ⟨fun | 26 => 89 | 33 => 106 | 34 => 127 | 38 => 111 | n => n, fun | 0 => 0 | 3 => 3 | 4 => 4 | 9 => 9 | 24 => 22 | 40 => 119 | n => n, fun | n => n⟩
theorem Tryz.laysBs : Go.Proofs.Lays2.n26 Tryz.prog Tryz.laysBs_ren := {
  mixed := by kernel_rfl
  f26 := Tryz.func89.trans (congrArg some (by kernel_rfl))
  f33 := Tryz.func106.trans (congrArg some (by kernel_rfl))
  f34 := Tryz.func127.trans (congrArg some (by kernel_rfl))
  f38 := Tryz.func111.trans (congrArg some (by kernel_rfl))
  t0 := Tryz.underlying0
  a0 := Tryz.isAgg0
  z0 := Tryz.sizeOf0
  v0 := Tryz.zeroValue0
  t3 := Tryz.underlying3
  a3 := Tryz.isAgg3
  z3 := Tryz.sizeOf3
  v3 := Tryz.zeroValue3
  t4 := Tryz.underlying4
  a4 := Tryz.isAgg4
  z4 := Tryz.sizeOf4
  v4 := Tryz.zeroValue4
  t9 := Tryz.underlying9
  a9 := Tryz.isAgg9
  z9 := Tryz.sizeOf9
  v9 := Tryz.zeroValue9
  t24 := Tryz.underlying22
  a24 := Tryz.isAgg22
  z24 := Tryz.sizeOf22
  v24 := Tryz.zeroValue22
  t40 := Tryz.underlying119
  a40 := Tryz.isAgg119
  z40 := Tryz.sizeOf119
  v40 := Tryz.zeroValue119 }
end Go.Proofs
namespace Go.Proofs.YteefncohknclcaaGreatDoor
open Go.RowKit Go.Shelf
/-- where a falling test falls -/
theorem falls (less : Nat → Bool) : ∀ n, ∃ k, k ≤ n ∧ (∀ t, t < k → less t = true) ∧ (k = n ∨ less k = false)
  | 0 => ⟨0, Nat.le_refl _, fun t ht => by omega, .inl rfl⟩
  | n + 1 => by
    obtain ⟨k, h1, h2, h3⟩ := falls less n
    rcases h3 with rfl | h3
    · cases h : less k
      · exact ⟨k, by omega, h2, .inr h⟩
      · exact ⟨k + 1, Nat.le_refl _, fun t ht => by
          rcases Nat.lt_or_ge t k with g | g
          · exact h2 t g
          · rw [show t = k from by omega]; exact h, .inl rfl⟩
    · exact ⟨k, by omega, h2, .inr h3⟩
def Rise (ls : List ByteArray) : Prop := ∀ i j, i < j → j < ls.length → (ls.getD i ByteArray.empty).data.toList < (ls.getD j ByteArray.empty).data.toList
theorem rise_sorted (zs : List ByteArray) : Rise (bz (sortN zs)) := by
  intro i j hij hj
  have h2 := sortN_strict zs
  have h1 : sortN zs = byt (bz (sortN zs)) := (byt_bz _).symm
  rw [h1] at h2
  have h3 := List.pairwise_iff_getElem.1 h2 i j (by rw [byt_len]; omega) (by rw [byt_len]; omega) hij
  unfold byt at h3
  rw [List.getElem_map, List.getElem_map] at h3
  rw [List.getD_eq_getElem?_getD, List.getD_eq_getElem?_getD, List.getElem?_eq_getElem hj, List.getElem?_eq_getElem (by omega : i < (bz (sortN zs)).length)]
  exact h3
theorem ba_ext {x y : ByteArray} (h : x.data.toList = y.data.toList) : x = y := by
  cases x; cases y
  exact congrArg ByteArray.mk (Array.toList_inj.1 h)
/-- what the search answers -/
def Found (ls : List ByteArray) (x : ByteArray) (k : Nat) (b : Bool) : Prop := (b = true ∧ k < ls.length ∧ ls.getD k ByteArray.empty = x) ∨ (b = false ∧ Lib.containsS ls x = false)
theorem getD_else {ls : List ByteArray} {t : Nat} (x : ByteArray) (h : t < ls.length) : ls.getD t x = ls.getD t ByteArray.empty := by
  rw [List.getD_eq_getElem?_getD, List.getD_eq_getElem?_getD, List.getElem?_eq_getElem h]; rfl
theorem search_plain (ls : List ByteArray) (x : ByteArray) (hr : Rise ls) :
    Found ls x (Lib.bsGo (fun t => Op.bytesLess (ls.getD t x).toList x.toList) ls.length 0 ls.length) (decide (Lib.bsGo (fun t => Op.bytesLess (ls.getD t x).toList x.toList) ls.length 0 ls.length < ls.length ∧ ls.getD (Lib.bsGo (fun t => Op.bytesLess (ls.getD t x).toList x.toList) ls.length 0 ls.length) x = x)) := by
  obtain ⟨k, h1, h2, h3⟩ := falls (fun t => Op.bytesLess (ls.getD t x).toList x.toList) ls.length
  have hlt : ∀ t, Op.bytesLess (ls.getD t x).toList x.toList = decide ((ls.getD t x).data.toList < x.data.toList) := fun t => by rw [Proofs.bytesLess_eq, Lib.toList_data, Lib.toList_data]
  have hge : ∀ t, k ≤ t → Op.bytesLess (ls.getD t x).toList x.toList = false := by
    intro t ht
    rw [hlt, decide_eq_false_iff_not]
    rcases Nat.lt_or_ge t ls.length with h | h
    · rcases h3 with h3 | h3
      · omega
      · rw [hlt, decide_eq_false_iff_not] at h3
        rcases Nat.lt_or_ge k t with h4 | h4
        · have h5 := hr k t h4 h
          rw [getD_else x (by omega)] at h3
          rw [getD_else x h]
          intro h6
          exact h3 (List.lt_trans h5 h6)
        · rw [show t = k from by omega]; exact h3
    · rw [List.getD_eq_getElem?_getD, List.getElem?_eq_none h]
      exact fun h6 => lt_irr h6
  have hk : Lib.bsGo (fun t => Op.bytesLess (ls.getD t x).toList x.toList) ls.length 0 ls.length = k := Lib.bsGo_spec _ k h2 hge _ _ _ (by omega) (Nat.zero_le _) h1
  rw [hk]
  by_cases hx : k < ls.length ∧ ls.getD k x = x
  · exact .inl ⟨decide_eq_true hx, hx.1, by rw [← getD_else x hx.1]; exact hx.2⟩
  · refine .inr ⟨decide_eq_false hx, ?_⟩
    rw [Bool.eq_false_iff]
    intro hc
    obtain ⟨j, hj, e⟩ := List.mem_iff_getElem.1 (has_iff.1 hc)
    have hjx : ls.getD j x = x := by rw [List.getD_eq_getElem?_getD, List.getElem?_eq_getElem hj]; exact e
    rcases Nat.lt_trichotomy j k with h | h | h
    · have := h2 j h
      simp only [hjx] at this
      rw [Proofs.bytesLess_eq, decide_eq_true_eq] at this
      exact lt_irr this
    · exact hx ⟨by omega, by rw [← h]; exact hjx⟩
    · have h5 := hr k j h hj
      rw [← getD_else x hj, hjx, ← getD_else x (by omega)] at h5
      have := hge k (Nat.le_refl _)
      rw [hlt, decide_eq_false_iff_not] at this
      exact this h5
theorem search_ok {w : World} {p : Option Addr} {n c : Nat} {ls : List ByteArray} (h : NL w p n c ls) (hr : Rise ls) (x : ByteArray) :
    Calls Tryz.prog 89 #[.slice p n c, .string x] w fun e w' => (∃ (k : Nat) (b : Bool), e = .returned (.tuple #[.int .i64 k, .bool b]) ∧ Found ls x k b) ∧ ∃ q, w' = w.drewN q := by
  have hl := h.at_.len
  have hb := h.at_.big
  subst hl
  rcases Nat.eq_zero_or_pos ls.length with h0 | h0
  · have : ls = [] := List.length_eq_zero_iff.1 h0
    subst this
    refine (Any2.slices_BinarySearch_string_empty Tryz.laysBs p c x w).mono ?_
    rintro e w' ⟨rfl, rfl⟩
    exact ⟨⟨0, false, rfl, .inr ⟨rfl, by rfl⟩⟩, 0, rfl⟩
  · obtain ⟨ad, rfl, _⟩ := h.at_.reads.2 h0
    obtain ⟨b, o, rfl, _⟩ := h.plain _ rfl
    refine (Any2.slices_BinarySearch_string Tryz.laysBs b o ls.length c (fun t => ls.getD t x) x w (by omega) (fun j hj => ?_)).mono ?_
    · rw [h.cellAt j hj, getD_else x hj]
    · rintro e w' ⟨rfl, hq⟩
      exact ⟨⟨_, _, rfl, search_plain ls x hr⟩, hq⟩
end Go.Proofs.YteefncohknclcaaGreatDoor
namespace Go.Proofs.YteefncohknclcaaGreatDoor
open Go.RowKit
theorem ret_un2 {x y : B} {v : Value} (h : x = y) : Ending.returned (.tuple #[.int .u64 (un x : Int), v]) = .returned (.tuple #[.int .u64 (un y : Int), v]) := by rw [h]
def ofL (xs : List Nat) : B := xs.foldl (fun s x => s ||| 1#64 <<< x) 0#64
theorem ofL_snoc (xs : List Nat) (x : Nat) : ofL (xs ++ [x]) = ofL xs ||| 1#64 <<< x := by simp [ofL]
theorem ofL_take (xs : List Nat) (k : Nat) (h : k < xs.length) : ofL (xs.take (k + 1)) = ofL (xs.take k) ||| 1#64 <<< xs[k] := by
  rw [List.take_succ_eq_append_getElem h, ofL_snoc]
def ints (xs : List Nat) : List Value := xs.map fun x : Nat => Value.int .i64 (x : Int)
set_option maxHeartbeats 400000 in
theorem of_ok (xs : List Nat) (hx : ∀ x ∈ xs, x < 64) (p : Option Addr) (n c b : Nat) (w : World) (hr : Reads w b 1 p n (ints xs)) (hn : n ≤ maxLen) :
    Calls Tryz.prog 66 #[.slice p n c] w fun e w' => e = .returned (.tuple #[.int .u64 (un (ofL xs)), .int .i64 0]) ∧ w = w' := by
  unfold maxLen at hn
  have hl : xs.length = n := by have := hr.1; simpa [ints] using this
  subst hl
  go_enter Tryz.func66, Tryz.ntmps66
  go_wp2
  go_loop [4, 9] (fun s i => ∃ k : Nat, k ≤ xs.length ∧ i = .int .i64 k ∧ s = .int .u64 (un (ofL (xs.take k)))) (fun _ i => xs.length - (intOf i).toNat)
  case atStart => exact ⟨0, Nat.zero_le _, rfl, rfl⟩
  case round =>
    obtain ⟨k, hk, rfl, rfl⟩ := hrel
    by_cases hlt : k < xs.length
    · obtain ⟨ad, u, rfl, _, hu, hc⟩ := hr.at_ hlt
      have hxk : xs[k] < 64 := hx _ (List.getElem_mem hlt)
      obtain ⟨x, hxe⟩ : ∃ x, x = xs[k] := ⟨_, rfl⟩
      have HT : Hid (ofL (xs.take (k + 1)) = ofL (xs.take k) ||| 1#64 <<< x) := by rw [hxe]; exact ofL_take xs k hlt
      have hcell : w.cell? (ad.add k) = some (.int .i64 (x : Int)) := by
        rw [hc]; rw [← hu]; simp [ints, List.getElem?_eq_getElem hlt, hxe]
      rw [← hxe] at hxk
      clear hu hc hxe hr hx
      go_wp2
      go_round
      case rel => exact ⟨k + 1, by omega, by go_num, by rw [HT.out]⟩
      case measure => simp [intOf]; omega
    · go_wp2
      go_ret2
      exact ⟨ret_un2 (by rw [List.take_of_length_le (by omega)]), rfl⟩
set_option maxHeartbeats 400000 in
theorem below_ok (n : Nat) (hn : n ≤ 64) (w : World) : Calls Tryz.prog 90 #[.int .i64 (n : Int)] w fun e w' => e = .returned (.int .u64 (un (belowB n))) ∧ w = w' := by
  go_enter Tryz.func90, Tryz.ntmps90
  go_wp2
  go_ret
  exact ⟨rfl, rfl⟩
set_option maxHeartbeats 400000 in
theorem Below_ok (n : Nat) (hn : n ≤ 64) (w : World) : Calls Tryz.prog 60 #[.int .i64 (n : Int)] w fun e w' => e = .returned (.tuple #[.int .u64 (un (belowB n)), .int .i64 0]) ∧ w = w' := by
  go_enter Tryz.func60, Tryz.ntmps60
  go_wp2_with (go_at_call 90; refine (below_ok _ hn _).mono ?_; rintro e w' ⟨rfl, rfl⟩)
  go_ret2
  exact ⟨rfl, rfl⟩
end Go.Proofs.YteefncohknclcaaGreatDoor
namespace Go.Proofs.YteefncohknclcaaGreatDoor
theorem has_one (x n : Nat) (hn : n < 64) : has (1#64 <<< x) n = decide (n = x) := by
  unfold has
  rw [BitVec.getLsbD_shiftLeft]
  by_cases h : n = x
  · subst h; simp [hn]
  · by_cases h2 : n < x
    · simp [h, h2]
    · have h3 : n - x ≠ 0 := by omega
      simp [h, h2]
      intro _ h4
      have : n - x < 1 := by
        rcases Nat.lt_or_ge (n - x) 1 with h5 | h5
        · exact h5
        · exfalso; revert h4; simp; omega
      omega
theorem has_ofL (xs : List Nat) (n : Nat) (hn : n < 64) : has (ofL xs) n = decide (n ∈ xs) := by
  unfold ofL
  suffices h : ∀ (xs : List Nat) (s : B), has (xs.foldl (fun s x => s ||| 1#64 <<< x) s) n = (has s n || decide (n ∈ xs)) by
    rw [h, has_zero]; simp
  intro xs
  induction xs with
  | nil => intro s; simp
  | cons x xs ih =>
    intro s
    rw [List.foldl_cons, ih, has_or, has_one x n hn]
    by_cases h1 : n = x <;> by_cases h2 : n ∈ xs <;> simp [h1, h2]
theorem ofL_lst (s : B) : ofL (lst s) = s := set_ext fun n hn => by
  rw [has_ofL _ _ hn]
  by_cases h : has s n = true
  · rw [h]; simpa using mem_lst.2 h
  · have : n ∉ lst s := fun hc => h (mem_lst.1 hc)
    simp [this]
    simpa using h
end Go.Proofs.YteefncohknclcaaGreatDoor
namespace Go.Proofs.YteefncohknclcaaGreatDoor
/-- row n, none if there is none -/
def row (r : List B) (n : Nat) : B := r.getD n 0#64
theorem row_lt {r : List B} {n k : Nat} (h : has (row r n) k = true) : n < r.length := by
  rcases Nat.lt_or_ge n r.length with h1 | h1
  · exact h1
  · unfold row at h
    rw [List.getD_eq_getElem?_getD, List.getElem?_eq_none h1] at h
    simp [has] at h
/-- all of a set are numbers of rows -/
def inB (n : Nat) (s : B) : Bool := decide (s &&& ~~~belowB n = 0#64)
theorem inB_iff {n : Nat} {s : B} : inB n s = true ↔ ∀ k, has s k = true → k < n := by
  unfold inB
  rw [decide_eq_true_iff, eq_zero_iff]
  constructor
  · intro h k hk
    have h1 := h k
    rw [has_and, hk, has_not _ _ (has_lt hk), has_below _ _ (has_lt hk)] at h1
    simpa using h1
  · intro h k
    rw [has_and]
    by_cases hk : has s k = true
    · rw [has_not _ _ (has_lt hk), has_below _ _ (has_lt hk)]
      simp [h k hk]
    · have : has s k = false := by simpa using hk
      simp [this]
def okSets (n : Nat) (ss : List B) : Bool := ss.all (inB n)
def chkN (n : Nat) (ss : List B) : Int := if okSets n ss = true then 0 else 4
def chkR (r : List B) : Int := if 64 < r.length then 2 else chkN r.length r
def chks (r ss : List B) : Int := if chkR r ≠ 0 then chkR r else chkN r.length ss
/-- the rows are a graph -/
def Valid (r : List B) : Prop := r.length ≤ 64 ∧ ∀ i k, has (row r i) k = true → k < r.length
theorem okSets_rows {r : List B} : okSets r.length r = true ↔ ∀ i k, has (row r i) k = true → k < r.length := by
  unfold okSets
  rw [List.all_eq_true]
  constructor
  · intro h i k hk
    have hi := row_lt hk
    have e : row r i = r[i] := by unfold row; simp [hi]
    exact inB_iff.1 (h _ (List.getElem_mem hi)) k (by rw [← e]; exact hk)
  · intro h s hs
    obtain ⟨i, hi, rfl⟩ := List.mem_iff_getElem.1 hs
    refine inB_iff.2 fun k hk => h i k ?_
    have e : row r i = r[i] := by unfold row; simp [hi]
    rw [e]; exact hk
theorem chkR_zero {r : List B} : chkR r = 0 ↔ Valid r := by
  unfold chkR chkN Valid
  rw [← okSets_rows]
  by_cases h : 64 < r.length
  · simp [h]; omega
  · by_cases h2 : okSets r.length r = true <;> simp [h, h2]; omega
theorem chks_zero {r ss : List B} : chks r ss = 0 ↔ Valid r ∧ ∀ s ∈ ss, ∀ k, has s k = true → k < r.length := by
  unfold chks
  have hs : okSets r.length ss = true ↔ ∀ s ∈ ss, ∀ k, has s k = true → k < r.length := by
    unfold okSets; rw [List.all_eq_true]
    exact ⟨fun h s hs => inB_iff.1 (h s hs), fun h s hs => inB_iff.2 (h s hs)⟩
  rw [← hs, ← chkR_zero]
  by_cases h : chkR r = 0
  · unfold chkN
    by_cases h2 : okSets r.length ss = true <;> simp [h, h2]
  · simp [h]
/-- one step from a set -/
def stp (r : List B) (s : B) : B := (lst s).foldl (fun a n => a ||| row r n) 0#64
theorem has_foldl (f : Nat → B) (l : List Nat) (a : B) (k : Nat) : has (l.foldl (fun a n => a ||| f n) a) k = true ↔ has a k = true ∨ ∃ n ∈ l, has (f n) k = true := by
  induction l generalizing a with
  | nil => simp
  | cons x l ih =>
    rw [List.foldl_cons, ih, has_or]
    simp only [Bool.or_eq_true, List.mem_cons]
    constructor
    · rintro ((h | h) | ⟨n, hn, h⟩)
      · exact .inl h
      · exact .inr ⟨x, .inl rfl, h⟩
      · exact .inr ⟨n, .inr hn, h⟩
    · rintro (h | ⟨n, rfl | hn, h⟩)
      · exact .inl (.inl h)
      · exact .inl (.inr h)
      · exact .inr ⟨n, hn, h⟩
theorem has_stp {r : List B} {s : B} {k : Nat} : has (stp r s) k = true ↔ ∃ n, has s n = true ∧ has (row r n) k = true := by
  unfold stp
  rw [has_foldl, has_zero]
  constructor
  · rintro (h | ⟨n, hn, h⟩)
    · cases h
    · exact ⟨n, mem_lst.1 hn, h⟩
  · rintro ⟨n, hn, h⟩
    exact .inr ⟨n, mem_lst.2 hn, h⟩
theorem eq_of_iff {s t : B} (h : ∀ k, has s k = true ↔ has t k = true) : s = t := set_ext fun k _ => by
  have := h k
  cases h1 : has s k <;> cases h2 : has t k <;> simp [h1, h2] at this <;> rfl
/-- within so many steps -/
def ball (r : List B) : Nat → B → B
  | 0, s => s
  | k + 1, s => ball r k s ||| stp r (ball r k s)
theorem has_ball_succ {r : List B} {i : Nat} {s : B} {k : Nat} : has (ball r (i + 1) s) k = true ↔ has (ball r i s) k = true ∨ ∃ n, has (ball r i s) n = true ∧ has (row r n) k = true := by
  show has (ball r i s ||| stp r (ball r i s)) k = true ↔ _
  rw [has_or, Bool.or_eq_true, has_stp]
theorem ball_add (r : List B) (i k : Nat) (s : B) : ball r k (ball r i s) = ball r (i + k) s := by
  induction k with
  | zero => rfl
  | succ k ih =>
    show ball r k (ball r i s) ||| stp r (ball r k (ball r i s)) = ball r (i + k + 1) s
    rw [ih]; rfl
theorem ball_mono {r : List B} {i j : Nat} (h : i ≤ j) {s : B} {k : Nat} (hk : has (ball r i s) k = true) : has (ball r j s) k = true := by
  induction j with
  | zero => have : i = 0 := by omega
            subst this; exact hk
  | succ j ih =>
    rcases Nat.lt_or_ge i (j + 1) with h1 | h1
    · exact has_ball_succ.2 (.inl (ih (by omega)))
    · have : i = j + 1 := by omega
      subst this; exact hk
theorem ball_self {r : List B} (i : Nat) {s : B} {k : Nat} (hk : has s k = true) : has (ball r i s) k = true := ball_mono (i := 0) (Nat.zero_le _) hk
/-- closed: what any of it needs is in it -/
def Closed (r : List B) (x : B) : Prop := ∀ n k, has x n = true → has (row r n) k = true → has x k = true
theorem ball_least {r : List B} {s x : B} (hx : Closed r x) (hs : ∀ k, has s k = true → has x k = true) (i : Nat) (k : Nat) (h : has (ball r i s) k = true) : has x k = true := by
  induction i generalizing k with
  | zero => exact hs k h
  | succ i ih =>
    rcases has_ball_succ.1 h with h | ⟨n, hn, h⟩
    · exact ih k h
    · exact hx n k (ih n hn) h
theorem ball_stable {r : List B} {i : Nat} {s : B} (h : Closed r (ball r i s)) (j : Nat) (hj : i ≤ j) : ball r j s = ball r i s := by
  obtain ⟨d, rfl⟩ : ∃ d, j = i + d := ⟨j - i, by omega⟩
  rw [← ball_add]
  apply eq_of_iff
  intro k
  exact ⟨fun hk => ball_least h (fun _ hh => hh) d k hk, fun hk => ball_self d hk⟩
/-- each step that is not closed brings one more number -/
theorem cnt_lt_of {s t : B} (h : ∀ k, has s k = true → has t k = true) {x : Nat} (hx : has t x = true) (hs : has s x = false) : cnt s < cnt t := by
  rw [cnt_lst, cnt_lst]
  have hsub : lst s = (lst t).filter (has s) := by
    unfold lst
    rw [List.filter_filter]
    apply List.filter_congr
    intro k _
    cases h1 : has s k
    · simp
    · simp [h k h1]
  rw [hsub]
  rcases Nat.lt_or_ge ((lst t).filter (has s)).length (lst t).length with h1 | h1
  · exact h1
  · have h2 := List.length_filter_eq_length_iff.1 (Nat.le_antisymm (List.length_filter_le _ _) h1) x (mem_lst.2 hx)
    rw [hs] at h2; cases h2
theorem not_closed {r : List B} {i : Nat} {s : B} (h : ¬ Closed r (ball r i s)) : cnt (ball r i s) < cnt (ball r (i + 1) s) := by
  unfold Closed at h
  simp only [Classical.not_forall] at h
  obtain ⟨n, k, h1, h2, h3⟩ := h
  exact cnt_lt_of (fun k hk => has_ball_succ.2 (.inl hk)) (has_ball_succ.2 (.inr ⟨n, h1, h2⟩)) (by simpa using h3)
theorem ball_grow {r : List B} {i : Nat} {s : B} : (∃ j, j ≤ i ∧ Closed r (ball r j s)) ∨ cnt s + i + 1 ≤ cnt (ball r (i + 1) s) := by
  induction i with
  | zero =>
    by_cases h : Closed r (ball r 0 s)
    · exact .inl ⟨0, Nat.le_refl _, h⟩
    · right; have := not_closed h; show cnt s + 1 ≤ _; exact this
  | succ i ih =>
    rcases ih with ⟨j, hj, h⟩ | h
    · exact .inl ⟨j, by omega, h⟩
    · by_cases hc : Closed r (ball r (i + 1) s)
      · exact .inl ⟨i + 1, Nat.le_refl _, hc⟩
      · right; have := not_closed hc; omega
/-- all that is come to -/
def cls (r : List B) (s : B) : B := ball r 64 s
theorem cls_closed (r : List B) (s : B) : Closed r (cls r s) := by
  rcases @ball_grow r 64 s with ⟨j, hj, h⟩ | h
  · unfold cls; rw [ball_stable h 64 hj]; exact h
  · have := cnt_le (ball r (64 + 1) s); omega
theorem cls_eq {r : List B} {s : B} {i : Nat} (h : Closed r (ball r i s)) : cls r s = ball r i s := by
  unfold cls
  rcases Nat.lt_or_ge i 64 with h1 | h1
  · exact ball_stable h 64 (by omega)
  · exact (ball_stable (cls_closed r s) i h1).symm
theorem cls_self {r : List B} {s : B} {k : Nat} (h : has s k = true) : has (cls r s) k = true := ball_self _ h
theorem cls_least {r : List B} {s x : B} (hx : Closed r x) (hs : ∀ k, has s k = true → has x k = true) {k : Nat} (h : has (cls r s) k = true) : has x k = true := ball_least hx hs _ k h
theorem cls_idem (r : List B) (s : B) : cls r (cls r s) = cls r s := eq_of_iff fun _ => ⟨cls_least (cls_closed r s) (fun _ h => h), cls_self⟩
theorem cls_mono {r : List B} {s t : B} (h : ∀ k, has s k = true → has t k = true) {k : Nat} (hk : has (cls r s) k = true) : has (cls r t) k = true :=
  cls_least (cls_closed r t) (fun k hk => cls_self (h k hk)) hk
theorem cls_or (r : List B) (s t : B) : cls r (s ||| t) = cls r s ||| cls r t := by
  apply eq_of_iff
  intro k
  rw [has_or, Bool.or_eq_true]
  constructor
  · intro h
    have hc : Closed r (cls r s ||| cls r t) := by
      intro n k hn hr
      rw [has_or, Bool.or_eq_true] at hn ⊢
      rcases hn with hn | hn
      · exact .inl (cls_closed r s n k hn hr)
      · exact .inr (cls_closed r t n k hn hr)
    have := cls_least hc (fun k hk => by
      rw [has_or, Bool.or_eq_true] at hk ⊢
      rcases hk with hk | hk
      · exact .inl (cls_self hk)
      · exact .inr (cls_self hk)) h
    rwa [has_or, Bool.or_eq_true] at this
  · rintro (h | h)
    · exact cls_mono (fun k hk => by rw [has_or, hk]; rfl) h
    · exact cls_mono (fun k hk => by rw [has_or, hk]; simp) h
/-- the closure lies among the rows' numbers -/
theorem ball_in {r : List B} (hv : Valid r) {s : B} (hs : ∀ k, has s k = true → k < r.length) (i : Nat) (k : Nat) (h : has (ball r i s) k = true) : k < r.length := by
  induction i generalizing k with
  | zero => exact hs k h
  | succ i ih =>
    rcases has_ball_succ.1 h with h | ⟨n, _, h⟩
    · exact ih k h
    · exact hv.2 n k h
theorem cnt_le_of {s : B} {n : Nat} (h : ∀ k, has s k = true → k < n) : cnt s ≤ n := by
  have h1 : cnt s = rnk s n := by
    rw [rnk_eq, cnt_lst]
    congr 1
    symm
    rw [List.filter_eq_self]
    intro a ha
    simpa using h a (mem_lst.1 ha)
  rw [h1, rnk_eq]
  have h2 : ((lst s).filter (fun k => decide (k < n))) = (List.range 64).filter (fun k => decide (k < n) && has s k) := by
    unfold lst; rw [List.filter_filter]
  rw [h2]
  have h3 : ((List.range 64).filter (fun k => decide (k < n) && has s k)).length ≤ ((List.range 64).filter (fun k => decide (k < n))).length := by
    rw [← List.filter_filter, ]
    have : ((List.range 64).filter (has s)).filter (fun k => decide (k < n)) = ((List.range 64).filter (fun k => decide (k < n))).filter (has s) := by
      rw [List.filter_filter, List.filter_filter]
      apply List.filter_congr; intro x _; rw [Bool.and_comm]
    rw [this]
    exact List.length_filter_le _ _
  have h4 : ∀ m, ((List.range m).filter (fun k => decide (k < n))).length ≤ n := by
    intro m
    induction m with
    | zero => simp
    | succ m ih =>
      rw [List.range_succ, List.filter_append, List.length_append]
      by_cases hm : m < n
      · have : ((List.range m).filter (fun k => decide (k < n))).length ≤ m := by
          have := List.length_filter_le (fun k => decide (k < n)) (List.range m); simpa using this
        simp [hm]; omega
      · simp [hm]; exact ih
  exact Nat.le_trans h3 (h4 64)
/-- as many steps as there are rows come to all -/
theorem ball_rows {r : List B} (hv : Valid r) {s : B} (hs : ∀ k, has s k = true → k < r.length) : ball r r.length s = cls r s := by
  by_cases h0 : s = 0#64
  · subst h0
    have hc : Closed r (ball r 0 0#64) := by
      intro n k hn _
      have : has (0#64 : B) n = true := hn
      rw [has_zero] at this; cases this
    rw [cls_eq hc, ball_stable hc r.length (Nat.zero_le _)]
  · have h1 : 1 ≤ cnt s := by
      have := cnt_lt_of (s := 0#64) (t := s) (fun k hk => by rw [has_zero] at hk; cases hk) (has_low h0) (has_zero _)
      omega
    rcases @ball_grow r r.length s with ⟨j, hj, h⟩ | h
    · rw [cls_eq h, ball_stable h r.length hj]
    · have := cnt_le_of (ball_in hv hs (r.length + 1))
      omega
end Go.Proofs.YteefncohknclcaaGreatDoor
