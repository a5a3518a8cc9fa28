/- Texts joined: FromW, ReachLeastW, GoodP, GoodW, ReachDepthW, ListW. Conditions: theirs. -/
import Derived.Test.YtlhhcgiifgkngaaDoorGraphPartLawM1
import Derived.Test.YtlhhcgiifgkngaaDoorRows
import Derived.Test.YtlhhcgiifgkngaaDoorMem
import Derived.WalkKit
import Derived.OpenShut
namespace Go.Proofs.YtlhhcgiifgkngaaDoor
open Go.RowKit
/-- the state of the search: what is come to, and the edge of it -/
def FromInv (r : List B) (s : B) (i : Nat) (cur edge : B) : Prop :=
  cur = ball r i s ∧ (∀ k, has edge k = true → has cur k = true) ∧ (∀ n k, has cur n = true → has edge n = false → has (row r n) k = true → has cur k = true) ∧ i ≤ cnt cur + (if edge = 0#64 then 1 else 0)
theorem from_start (r : List B) (s : B) : FromInv r s 0 s s := ⟨rfl, fun _ h => h, (fun n k h1 h2 => by rw [h1] at h2; cases h2), Nat.zero_le _⟩
theorem from_round {r : List B} {s cur edge : B} {i : Nat} (h : FromInv r s i cur edge) (he : edge ≠ 0#64) : FromInv r s (i + 1) (cur ||| (stp r edge &&& ~~~cur)) (stp r edge &&& ~~~cur) := by
  obtain ⟨h1, h2, h3, h4⟩ := h
  rw [if_neg he] at h4
  have hor : ∀ k, has (cur ||| (stp r edge &&& ~~~cur)) k = true ↔ has cur k = true ∨ has (stp r edge) k = true := by
    intro k
    rw [has_or, has_and, Bool.or_eq_true, Bool.and_eq_true]
    constructor
    · rintro (h | ⟨h, _⟩)
      · exact .inl h
      · exact .inr h
    · rintro (h | h)
      · exact .inl h
      · by_cases hc : has cur k = true
        · exact .inl hc
        · refine .inr ⟨h, ?_⟩
          rw [has_not _ _ (has_lt h)]; simpa using hc
  have e1 : cur ||| (stp r edge &&& ~~~cur) = ball r (i + 1) s := by
    apply eq_of_iff
    intro k
    rw [hor, has_ball_succ, ← h1, has_stp]
    constructor
    · rintro (h | ⟨n, hn, h⟩)
      · exact .inl h
      · exact .inr ⟨n, h2 n hn, h⟩
    · rintro (h | ⟨n, hn, h⟩)
      · exact .inl h
      · by_cases hne : has edge n = true
        · exact .inr ⟨n, hne, h⟩
        · exact .inl (h3 n k hn (by simpa using hne) h)
  refine ⟨e1, fun k hk => ?_, fun n k hn hne hk => ?_, ?_⟩
  · rw [has_or, hk]; simp
  · rw [hor] at hn ⊢
    have hcn : has cur n = true := by
      rcases hn with h | h
      · exact h
      · rw [has_and, h] at hne
        by_cases hc : has cur n = true
        · exact hc
        · rw [has_not _ _ (has_lt h)] at hne
          simp at hne; exact hne
    by_cases hen : has edge n = true
    · exact .inr (has_stp.2 ⟨n, hen, hk⟩)
    · exact .inl (h3 n k hcn (by simpa using hen) hk)
  · by_cases h0 : stp r edge &&& ~~~cur = 0#64
    · rw [if_pos h0, h0]
      have : cur ||| 0#64 = cur := by simp
      rw [this]; omega
    · rw [if_neg h0]
      obtain ⟨x, hx⟩ := exists_of_ne h0
      have hx2 := hx
      rw [has_and, Bool.and_eq_true, has_not _ _ (has_lt hx)] at hx2
      have := cnt_lt_of (s := cur) (t := cur ||| (stp r edge &&& ~~~cur)) (fun k hk => by rw [has_or, hk]; rfl) (x := x) (by rw [has_or, hx]; simp) (by simpa using hx2.2)
      omega
theorem from_closed {r : List B} {s cur : B} {i : Nat} (h : FromInv r s i cur 0#64) : Closed r (ball r i s) := by
  obtain ⟨h1, _, h3, _⟩ := h
  rw [← h1]
  intro n k hn hk
  exact h3 n k hn (has_zero _) hk
theorem from_le {r : List B} {s cur edge : B} {i : Nat} (h : FromInv r s i cur edge) : i ≤ 65 := by
  have := cnt_le cur
  have h4 := h.2.2.2
  split at h4 <;> omega
def fromD (r : List B) (s : B) (d : Int) : B := if d < 0 then cls r s else ball r d.toNat s
set_option maxHeartbeats 1000000 in
theorem from_core (p : Option Addr) (n c : Nat) (r : List B) (hv : Valid r) (s : B) (hs : ∀ k, has s k = true → k < r.length) (d : Int) (hd : -1 ≤ d ∧ d ≤ 9223372036854775807) (w : World) (hR : RowsAt w p n r) (hT : Tab w) :
    Calls Tryd.prog 75 #[.slice p n c, .int .u64 (un s), .int .i64 d] w fun e w' => e = .returned (.int .u64 (un (fromD r s d))) ∧ w = w' := by
  have HS := Lib.hid hs
  have HV := Lib.hid hv
  clear hs hv
  go_enter Tryd.func75, Tryd.ntmps75
  go_wp2
  go_loop [1, 2, 7] (fun x y z => ∃ (i : Nat) (cur edge : B), i ≤ 65 ∧ (0 ≤ d → (i : Int) ≤ d) ∧ x = .int .u64 (un cur) ∧ y = .int .i64 (d - i) ∧ z = .int .u64 (un edge) ∧ Hid (FromInv r s i cur edge)) (fun _ y _ => (intOf y - d + 66).toNat)
  case atStart => exact ⟨0, s, s, by omega, by omega, rfl, by simp, rfl, from_start r s⟩
  case round =>
    obtain ⟨i, cur, edge, hi, hid, rfl, rfl, rfl, HF⟩ := hrel
    by_cases he : edge = 0#64
    · have e0 : (un edge : Int) = 0 := un_zero_int he
      have HE : Hid (fromD r s d = cur) := by
        show fromD r s d = cur
        unfold fromD
        have hF := HF.out
        rw [he] at hF
        have hcl := from_closed hF
        split
        · rw [cls_eq hcl, hF.1]
        · rw [ball_stable hcl d.toNat (by omega), hF.1]
      clear he HF
      go_wp2
      go_ret
      exact ⟨by rw [HE.out]; rfl, rfl⟩
    · have e0 := un_ne0 he
      have e1 := un_ne1 he
      by_cases hz : d - (i : Int) = 0
      · have HE : Hid (fromD r s d = cur) := by
          show fromD r s d = cur
          unfold fromD
          rw [if_neg (by omega), HF.out.1]
          congr 1; omega
        have hz1 : (d - (i : Int) == 0) = true := by simpa using hz
        have hz2 : (d - (i : Int) != 0) = false := by simpa using hz
        clear he HF hz
        go_wp2
        go_ret
        exact ⟨by rw [HE.out]; rfl, rfl⟩
      · have hzb : (d - (i : Int) == 0) = false := by simpa using hz
        have hzc : (d - (i : Int) != 0) = true := by simpa using hz
        have hsub : ∀ k, has edge k = true → k < r.length := fun k hk => ball_in HV.out HS.out i k (by rw [← HF.out.1]; exact HF.out.2.1 k hk)
        have HB := Lib.hid hsub
        have HN := Lib.hid (from_round HF.out he)
        have hi' : i + 1 ≤ 65 := from_le HN.out
        have hid' : 0 ≤ d → (i : Int) + 1 ≤ d := by intro h; have := hid h; omega
        clear he HF hsub hid
        go_wp2_with (go_at_call 118; refine (step_ok _ _ _ r edge HB.out _ hR hT).mono ?_; rintro e w' ⟨rfl, rfl⟩)
        go_round
        case rel => exact ⟨i + 1, _, _, by omega, fun h => by have := hid' h; omega, rfl, by go_num, rfl, HN.out⟩
        case measure => simp [intOf]; omega
theorem from_all (p : Option Addr) (n c : Nat) (r : List B) (hv : Valid r) (s : B) (hs : ∀ k, has s k = true → k < r.length) (w : World) (hR : RowsAt w p n r) (hT : Tab w) :
    Calls Tryd.prog 75 #[.slice p n c, .int .u64 (un s), .int .i64 (-1)] w fun e w' => e = .returned (.int .u64 (un (cls r s))) ∧ w = w' := from_core p n c r hv s hs (-1) (by omega) w hR hT
theorem from_some (p : Option Addr) (n c : Nat) (r : List B) (hv : Valid r) (s : B) (hs : ∀ k, has s k = true → k < r.length) (d : Int) (hd : 0 ≤ d ∧ d ≤ 9223372036854775807) (w : World) (hR : RowsAt w p n r) (hT : Tab w) :
    Calls Tryd.prog 75 #[.slice p n c, .int .u64 (un s), .int .i64 d] w fun e w' => e = .returned (.int .u64 (un (ball r d.toNat s))) ∧ w = w' := by
  have h := from_core p n c r hv s hs d (by omega) w hR hT
  unfold fromD at h
  rw [if_neg (by omega)] at h
  exact h
theorem rows_one (w : World) (s : B) : RowsAt (w.alloc (.cells #[.int .u64 (un s : Int)] 24)) (some ⟨w.heap.size, 0, none⟩) 1 [s] := by
  refine ⟨⟨rfl, fun _ => ⟨_, rfl, by simp, fun j u hj => ?_⟩⟩, rfl, by unfold maxLen; omega⟩
  match j, hj with
  | 0, hj => simp [u64s] at hj; subst hj; simp [Addr.add]
theorem rows_two (w : World) (s t : B) : RowsAt (w.alloc (.cells #[.int .u64 (un s : Int), .int .u64 (un t : Int)] 24)) (some ⟨w.heap.size, 0, none⟩) 2 [s, t] := by
  refine ⟨⟨rfl, fun _ => ⟨_, rfl, by simp, fun j u hj => ?_⟩⟩, rfl, by unfold maxLen; omega⟩
  match j, hj with
  | 0, hj => simp [u64s] at hj; subst hj; simp [Addr.add]
  | 1, hj => simp [u64s] at hj; subst hj; simp [Addr.add]
theorem chks_in {r ss : List B} {s : B} (h : chks r ss = 0) (hs : s ∈ ss) : ∀ k, has s k = true → k < r.length := (chks_zero.1 h).2 s hs
theorem int_ne {x : Int} (h : x ≠ 0) : (x == 0) = false ∧ (x != 0) = true := ⟨by simpa using h, by simpa using h⟩
set_option maxHeartbeats 1000000 in
theorem From_yes (p : Option Addr) (n c : Nat) (r : List B) (s : B) (h : chks r [s] = 0) (w : World) (hR : RowsAt w p n r) (hT : Tab w) :
    Calls Tryd.prog 35 #[.slice p n c, .int .u64 (un s)] w fun e w' => e = .returned (.tuple #[.int .u64 (un (cls r s)), .int .i64 0]) ∧ Below w.heap.size w w' := by
  have H := Lib.hid h
  clear h
  have hb1 : Below w.heap.size w (w.alloc (.cells #[.int .u64 (un s : Int)] 24)) := (Below.refl _ _).alloc (Nat.le_refl _) _
  have hR1 := hR.below hb1
  have hT1 := hT.below hb1
  go_enter Tryd.func35, Tryd.ntmps35
  go_wp2_with (first | (go_at_call 74; refine (checks_ok _ _ _ r _ _ _ [s] _ hR1 (rows_one w s)).mono ?_; rw [H.out]; rintro e w' ⟨rfl, rfl⟩) | (go_at_call 75; refine (from_all _ _ _ r (chks_zero.1 H.out).1 s (chks_in H.out (by simp)) _ hR1 hT1).mono ?_; rintro e w' ⟨rfl, rfl⟩))
  go_ret2
  exact ⟨rfl, hb1⟩
set_option maxHeartbeats 1000000 in
theorem From_no (p : Option Addr) (n c : Nat) (r : List B) (s : B) (h : chks r [s] ≠ 0) (w : World) (hR : RowsAt w p n r) :
    Calls Tryd.prog 35 #[.slice p n c, .int .u64 (un s)] w fun e w' => e = .returned (.tuple #[.int .u64 0, .int .i64 (chks r [s])]) ∧ Below w.heap.size w w' := by
  obtain ⟨h1, h2⟩ := int_ne h
  clear h
  have hb1 : Below w.heap.size w (w.alloc (.cells #[.int .u64 (un s : Int)] 24)) := (Below.refl _ _).alloc (Nat.le_refl _) _
  have hR1 := hR.below hb1
  go_enter Tryd.func35, Tryd.ntmps35
  go_wp2_with (go_at_call 74; refine (checks_ok _ _ _ r _ _ _ [s] _ hR1 (rows_one w s)).mono ?_; rintro e w' ⟨rfl, rfl⟩)
  go_ret2
  exact ⟨rfl, hb1⟩
/-- is a number in a set -/
def hasI (s : B) (n : Int) : Bool := decide (0 ≤ n) && has s n.toNat
set_option maxHeartbeats 1000000 in
theorem has_ok (s : B) (n : Int) (w : World) : Calls Tryd.prog 29 #[.int .u64 (un s), .int .i64 n] w fun e w' => e = .returned (.bool (hasI s n)) ∧ w = w' := by
  by_cases h0 : 0 ≤ n
  · obtain ⟨k, rfl⟩ := Int.eq_ofNat_of_zero_le h0
    by_cases h1 : k < 64
    · have HV : Hid (hasI s (k : Int) = has s k) := by show hasI s k = _; unfold hasI; simp
      have hb := shr_bit s k
      cases hk : has s k
      · rw [hk] at HV hb
        simp only [Bool.false_eq_true, if_false] at hb
        clear hk
        go_enter Tryd.func29, Tryd.ntmps29
        go_wp2
        go_ret
        exact ⟨by rw [HV.out]; rfl, rfl⟩
      · rw [hk] at HV hb
        simp only [if_true] at hb
        clear hk
        go_enter Tryd.func29, Tryd.ntmps29
        go_wp2
        go_ret
        exact ⟨by rw [HV.out]; rfl, rfl⟩
    · have HV : Hid (hasI s (k : Int) = false) := by show hasI s k = _; unfold hasI; rw [has_ge (by omega)]; simp
      go_enter Tryd.func29, Tryd.ntmps29
      go_wp2
      go_ret
      exact ⟨by rw [HV.out]; rfl, rfl⟩
  · have HV : Hid (hasI s n = false) := by show hasI s n = _; unfold hasI; simp [h0]
    go_enter Tryd.func29, Tryd.ntmps29
    go_wp2
    go_ret
    exact ⟨by rw [HV.out]; rfl, rfl⟩
end Go.Proofs.YtlhhcgiifgkngaaDoor
namespace Go.Proofs.YtlhhcgiifgkngaaDoor
open Go.RowKit
theorem andNot_zero {s t : B} (h : ∀ k, has s k = true → has t k = true) : s &&& ~~~t = 0#64 := eq_zero_iff.2 fun k => by
  rw [has_and]
  by_cases hk : has s k = true
  · rw [has_not _ _ (has_lt hk), h k hk]; simp
  · simp [hk]
theorem andNot_zero_iff {s t : B} : s &&& ~~~t = 0#64 ↔ ∀ k, has s k = true → has t k = true := by
  refine ⟨fun h k hk => ?_, andNot_zero⟩
  have := eq_zero_iff.1 h k
  rw [has_and, hk, has_not _ _ (has_lt hk)] at this
  simpa using this
end Go.Proofs.YtlhhcgiifgkngaaDoor
namespace Go.Proofs.YtlhhcgiifgkngaaDoor
open Go.RowKit
def errs (es : List Int) : List Value := es.map fun e => Value.int .i64 e
def allOk (es : List Int) : Bool := es.all fun x => decide (x = 0)
def errIdx (es : List Int) : Nat → Nat → Int
  | _, 0 => -1
  | k, f + 1 => if es.getD k 0 = 0 then errIdx es (k + 1) f else (k : Int)
/-- the first error's index, or -1 -/
def firstErr (es : List Int) : Int := errIdx es 0 es.length
theorem errIdx_sign (es : List Int) (f k : Nat) (hk : k + f = es.length) : decide (0 ≤ errIdx es k f) = !((es.drop k).all fun x => decide (x = 0)) := by
  induction f generalizing k with
  | zero =>
    have : es.drop k = [] := List.drop_eq_nil_of_le (by omega)
    rw [this]; simp [errIdx]
  | succ f ih =>
    have hl : k < es.length := by omega
    rw [List.drop_eq_getElem_cons hl, List.all_cons]
    unfold errIdx
    have hg : es.getD k 0 = es[k] := by simp [hl]
    rw [hg]
    by_cases h : es[k] = 0
    · rw [if_pos h, ih (k + 1) (by omega)]; simp [h]
    · rw [if_neg h]; simp [h]
theorem firstErr_sign (es : List Int) : decide (0 ≤ firstErr es) = !allOk es := by
  have := errIdx_sign es es.length 0 (by omega)
  rw [List.drop_zero] at this
  exact this
set_option maxHeartbeats 400000 in
theorem indexErr_ok (es : List Int) (p : Option Addr) (n c b : Nat) (w : World) (hr : Reads w b 1 p n (errs es)) (hn : n ≤ 100) :
    Calls Tryd.prog 111 #[.slice p n c, .func (Fn.func 65) #[] #[]] w fun e w' => e = .returned (.int .i64 (firstErr es)) ∧ w = w' := by
  have hl : es.length = n := by have := hr.1; simpa [errs] using this
  subst hl
  go_enter Tryd.func111, Tryd.ntmps111
  go_wp2
  go_loop [8] (fun i => ∃ k : Nat, k ≤ es.length ∧ i = .int .i64 k ∧ Hid (firstErr es = errIdx es k (es.length - k))) (fun i => es.length - (intOf i).toNat)
  case atStart => exact ⟨0, Nat.zero_le _, rfl, rfl⟩
  case round =>
    obtain ⟨k, hk, rfl, HK⟩ := hrel
    by_cases hlt : k < es.length
    · obtain ⟨ad, u, rfl, _, hu, hc⟩ := hr.at_ hlt
      obtain ⟨x, hx⟩ : ∃ x, x = es.getD k 0 := ⟨_, rfl⟩
      have hcell : w.cell? (ad.add k) = some (.int .i64 x) := by rw [hc, ← hu, hx]; simp [errs, hlt]
      obtain ⟨f, hf⟩ : ∃ f, es.length - k = f + 1 := ⟨es.length - k - 1, by omega⟩
      have hs : errIdx es k (es.length - k) = if x = 0 then errIdx es (k + 1) (es.length - (k + 1)) else (k : Int) := by
        rw [hf, show es.length - (k + 1) = f by omega, hx]; rfl
      by_cases h0 : x = 0
      · have HN : Hid (firstErr es = errIdx es (k + 1) (es.length - (k + 1))) := by show firstErr es = _; rw [HK.out, hs, if_pos h0]
        subst h0
        clear hu hc hs HK hr hx hf
        go_wp2
        go_round
        case rel => exact ⟨k + 1, by omega, by go_num, HN.out⟩
        case measure => simp [intOf]; omega
      · have HN : Hid (firstErr es = (k : Int)) := by show firstErr es = _; rw [HK.out, hs, if_neg h0]
        have e1 : (x == 0) = false := by simpa using h0
        have e2 : (x != 0) = true := by simpa using h0
        clear hu hc hs HK hr hx h0 hf
        go_wp2
        go_ret
        exact ⟨by rw [HN.out]; rfl, rfl⟩
    · have HN : Hid (firstErr es = -1) := by show firstErr es = _; rw [HK.out, show es.length - k = 0 by omega]; rfl
      clear HK
      go_wp2
      go_ret
      exact ⟨by rw [HN.out]; rfl, rfl⟩
set_option maxHeartbeats 400000 in
theorem good_ok (es : List Int) (p : Option Addr) (n c b : Nat) (w : World) (hr : Reads w b 1 p n (errs es)) (hn : n ≤ 100) :
    Calls Tryd.prog 17 #[.slice p n c] w fun e w' => e = .returned (.bool (allOk es)) ∧ w = w' := by
  have hs := firstErr_sign es
  go_enter Tryd.func17, Tryd.ntmps17
  go_wp2_with (first | (go_at_call 111; refine (indexErr_ok es _ _ _ _ _ hr hn).mono ?_; rintro e w' ⟨rfl, rfl⟩) | go_in)
  go_ret
  exact ⟨by simp, rfl⟩
theorem errs_reads (w : World) (es : List Int) (t : TypeId) : Reads (w.alloc (.cells (errs es).toArray t)) (w.heap.size + 1) 1 (some ⟨w.heap.size, 0, none⟩) es.length (errs es) := by
  refine ⟨by simp [errs], fun _ => ⟨_, rfl, by simp, fun j u hj => ?_⟩⟩
  have hs : (w.alloc (.cells (errs es).toArray t)).cell? ⟨w.heap.size, j, none⟩ = (errs es)[j]? := by simp
  have ha : (⟨w.heap.size, 0, none⟩ : Addr).add j = ⟨w.heap.size, j, none⟩ := by
    unfold Addr.add
    split
    · rename_i h; subst h; rfl
    · simp
  rw [ha, hs, hj]
theorem good1 (x0 : Int) (w : World) : Calls Tryd.prog 17 #[.slice (some ⟨w.heap.size, 0, none⟩) 1 1] (w.alloc (.cells #[.int .i64 x0] 28))
    fun e w' => e = .returned (.bool (allOk [x0])) ∧ w.alloc (.cells #[.int .i64 x0] 28) = w' :=
  good_ok [x0] _ 1 1 _ _ (errs_reads w [x0] 28) (by omega)
theorem good2 (x0 x1 : Int) (w : World) : Calls Tryd.prog 17 #[.slice (some ⟨w.heap.size, 0, none⟩) 2 2] (w.alloc (.cells #[.int .i64 x0, .int .i64 x1] 28))
    fun e w' => e = .returned (.bool (allOk [x0, x1])) ∧ w.alloc (.cells #[.int .i64 x0, .int .i64 x1] 28) = w' :=
  good_ok [x0, x1] _ 2 2 _ _ (errs_reads w [x0, x1] 28) (by omega)
theorem good3 (x0 x1 x2 : Int) (w : World) : Calls Tryd.prog 17 #[.slice (some ⟨w.heap.size, 0, none⟩) 3 3] (w.alloc (.cells #[.int .i64 x0, .int .i64 x1, .int .i64 x2] 28))
    fun e w' => e = .returned (.bool (allOk [x0, x1, x2])) ∧ w.alloc (.cells #[.int .i64 x0, .int .i64 x1, .int .i64 x2] 28) = w' :=
  good_ok [x0, x1, x2] _ 3 3 _ _ (errs_reads w [x0, x1, x2] 28) (by omega)
theorem good4 (x0 x1 x2 x3 : Int) (w : World) : Calls Tryd.prog 17 #[.slice (some ⟨w.heap.size, 0, none⟩) 4 4] (w.alloc (.cells #[.int .i64 x0, .int .i64 x1, .int .i64 x2, .int .i64 x3] 28))
    fun e w' => e = .returned (.bool (allOk [x0, x1, x2, x3])) ∧ w.alloc (.cells #[.int .i64 x0, .int .i64 x1, .int .i64 x2, .int .i64 x3] 28) = w' :=
  good_ok [x0, x1, x2, x3] _ 4 4 _ _ (errs_reads w [x0, x1, x2, x3] 28) (by omega)
theorem good5 (x0 x1 x2 x3 x4 : Int) (w : World) : Calls Tryd.prog 17 #[.slice (some ⟨w.heap.size, 0, none⟩) 5 5] (w.alloc (.cells #[.int .i64 x0, .int .i64 x1, .int .i64 x2, .int .i64 x3, .int .i64 x4] 28))
    fun e w' => e = .returned (.bool (allOk [x0, x1, x2, x3, x4])) ∧ w.alloc (.cells #[.int .i64 x0, .int .i64 x1, .int .i64 x2, .int .i64 x3, .int .i64 x4] 28) = w' :=
  good_ok [x0, x1, x2, x3, x4] _ 5 5 _ _ (errs_reads w [x0, x1, x2, x3, x4] 28) (by omega)
theorem good6 (x0 x1 x2 x3 x4 x5 : Int) (w : World) : Calls Tryd.prog 17 #[.slice (some ⟨w.heap.size, 0, none⟩) 6 6] (w.alloc (.cells #[.int .i64 x0, .int .i64 x1, .int .i64 x2, .int .i64 x3, .int .i64 x4, .int .i64 x5] 28))
    fun e w' => e = .returned (.bool (allOk [x0, x1, x2, x3, x4, x5])) ∧ w.alloc (.cells #[.int .i64 x0, .int .i64 x1, .int .i64 x2, .int .i64 x3, .int .i64 x4, .int .i64 x5] 28) = w' :=
  good_ok [x0, x1, x2, x3, x4, x5] _ 6 6 _ _ (errs_reads w [x0, x1, x2, x3, x4, x5] 28) (by omega)
theorem goodB1 (x0 : Int) (w : World) : Calls Tryd.prog 17 #[.slice (some ⟨w.heap.size, 0, none⟩) 1 1] (w.alloc (.cells #[.int .i64 x0] 28))
    fun e w' => e = .returned (.bool (allOk [x0])) ∧ Below w.heap.size w w' :=
  (good1 x0 w).mono fun _ _ ⟨h1, h2⟩ => ⟨h1, h2 ▸ (Below.refl _ _).alloc (Nat.le_refl _) _⟩
theorem goodB2 (x0 x1 : Int) (w : World) : Calls Tryd.prog 17 #[.slice (some ⟨w.heap.size, 0, none⟩) 2 2] (w.alloc (.cells #[.int .i64 x0, .int .i64 x1] 28))
    fun e w' => e = .returned (.bool (allOk [x0, x1])) ∧ Below w.heap.size w w' :=
  (good2 x0 x1 w).mono fun _ _ ⟨h1, h2⟩ => ⟨h1, h2 ▸ (Below.refl _ _).alloc (Nat.le_refl _) _⟩
theorem goodB3 (x0 x1 x2 : Int) (w : World) : Calls Tryd.prog 17 #[.slice (some ⟨w.heap.size, 0, none⟩) 3 3] (w.alloc (.cells #[.int .i64 x0, .int .i64 x1, .int .i64 x2] 28))
    fun e w' => e = .returned (.bool (allOk [x0, x1, x2])) ∧ Below w.heap.size w w' :=
  (good3 x0 x1 x2 w).mono fun _ _ ⟨h1, h2⟩ => ⟨h1, h2 ▸ (Below.refl _ _).alloc (Nat.le_refl _) _⟩
theorem goodB4 (x0 x1 x2 x3 : Int) (w : World) : Calls Tryd.prog 17 #[.slice (some ⟨w.heap.size, 0, none⟩) 4 4] (w.alloc (.cells #[.int .i64 x0, .int .i64 x1, .int .i64 x2, .int .i64 x3] 28))
    fun e w' => e = .returned (.bool (allOk [x0, x1, x2, x3])) ∧ Below w.heap.size w w' :=
  (good4 x0 x1 x2 x3 w).mono fun _ _ ⟨h1, h2⟩ => ⟨h1, h2 ▸ (Below.refl _ _).alloc (Nat.le_refl _) _⟩
theorem goodB5 (x0 x1 x2 x3 x4 : Int) (w : World) : Calls Tryd.prog 17 #[.slice (some ⟨w.heap.size, 0, none⟩) 5 5] (w.alloc (.cells #[.int .i64 x0, .int .i64 x1, .int .i64 x2, .int .i64 x3, .int .i64 x4] 28))
    fun e w' => e = .returned (.bool (allOk [x0, x1, x2, x3, x4])) ∧ Below w.heap.size w w' :=
  (good5 x0 x1 x2 x3 x4 w).mono fun _ _ ⟨h1, h2⟩ => ⟨h1, h2 ▸ (Below.refl _ _).alloc (Nat.le_refl _) _⟩
theorem goodB6 (x0 x1 x2 x3 x4 x5 : Int) (w : World) : Calls Tryd.prog 17 #[.slice (some ⟨w.heap.size, 0, none⟩) 6 6] (w.alloc (.cells #[.int .i64 x0, .int .i64 x1, .int .i64 x2, .int .i64 x3, .int .i64 x4, .int .i64 x5] 28))
    fun e w' => e = .returned (.bool (allOk [x0, x1, x2, x3, x4, x5])) ∧ Below w.heap.size w w' :=
  (good6 x0 x1 x2 x3 x4 x5 w).mono fun _ _ ⟨h1, h2⟩ => ⟨h1, h2 ▸ (Below.refl _ _).alloc (Nat.le_refl _) _⟩
end Go.Proofs.YtlhhcgiifgkngaaDoor
/- The walk through good, beside the rows of sets. Conditions: none. -/
namespace Go.Proofs.YtlhhcgiifgkngaaDoor
open Go.RowKit
theorem chks_ball {r : List B} {s : B} (h : chks r [s] = 0) (i : Nat) : chks r [ball r i s] = 0 := by
  obtain ⟨hv, hs⟩ := chks_zero.1 h
  refine chks_zero.2 ⟨hv, fun t ht k hk => ?_⟩
  have : t = ball r i s := by simpa using ht
  subst this
  exact ball_in hv (hs s (by simp)) i k hk
end Go.Proofs.YtlhhcgiifgkngaaDoor
namespace Go.Proofs.YtlhhcgiifgkngaaDoor
open Go.RowKit
theorem info_int : (Tryd.prog.info? 3).map (fun i => (i.zero, i.size, i.bytes)) = some (some (.int .i64 0), 1, 8) := by kernel_rfl
theorem ints_snoc (xs : List Nat) (x : Nat) : ints (xs ++ [x]) = ints xs ++ [.int .i64 (x : Int)] := by simp [ints]
theorem take_lst {s x : B} {j : Nat} (h : lst x = (lst s).drop j) (hj : j < (lst s).length) : ints ((lst s).take (j + 1)) = ints ((lst s).take j) ++ [.int .i64 (low x : Int)] := by
  obtain ⟨_, _, h3⟩ := lst_drop h hj
  have hn : nth s j = (lst s)[j] := by unfold nth; simp [hj]
  rw [List.take_succ_eq_append_getElem hj, ints_snoc, h3, hn]
theorem app_int (w : World) {ops : Array Oper} {rest : List Oper} {o : Oper} {a : Act} {Q : Exit → Act → World → Prop} (hgd : o.guard = none) (s x : Operand)
    (ho : o.op = .call { callee := .builtin .append, args := #[s, x], argTypes := #[36, 36] })
    (base : Nat) (v : Value) (n : Nat) (xs : List Value) (hs : a.eval s = v) (hown : w.ownsRow base 3 1 v n xs)
    (g : Nat) (u : Value) (hu : u.oneCell' = true) (hx : a.eval x = .slice (some ⟨g, 0, none⟩) 1 1) (hcell : w.cell? ⟨g, 0, none⟩ = some u)
    (hn : n ≤ 1099511627776) (hbase : base ≤ w.heap.size)
    (h : ∀ v' w', w'.ownsRow base 3 1 v' (n + 1) (xs ++ [u]) → w.grownBy w' v.ownBlock → wpList Tryd.prog ops Q rest (a.put o.dst v') w') : wpList Tryd.prog ops Q (o :: rest) a w := by
  obtain ⟨i0, hi, hz0, hz1, hz2⟩ := info_parts info_int
  refine wpList_append_own w hgd s x 36 ho base 3 i0 (.int .i64 0) 1 8 Tryd.underlying36 hi hz0 hz1 hz2 rfl (by decide) v n xs hs hown ⟨g, 0, none⟩ 1 1 [u] hx rfl ?_ ?_ (by unfold maxLen; omega) (by omega) hbase (fun v' w' h1 h2 _ => h v' w' h1 h2)
  · intro j q hj
    match j, hj with
    | 0, hj => simp at hj; subst hj; simpa [Addr.add] using hcell
  · intro q hq; simp at hq; subst hq; exact hu
theorem own_form {w : World} {base e n : Nat} {v : Value} {xs : List Value} (h : w.ownsRow base e 1 v n xs) : ∃ (g : Option Addr) (c : Nat), v = .slice g n c ∧ ∀ b, v.ownBlock = some b → base ≤ b ∧ b < w.heap.size := by
  rcases h.2 with ⟨rfl, rfl⟩ | ⟨g, cap, cur, rfl, hb, hh, _⟩
  · exact ⟨none, 0, rfl, fun b hb => by cases hb⟩
  · refine ⟨_, cap, rfl, fun b hb' => ?_⟩
    have : g = b := by simpa [Value.ownBlock] using hb'
    subst this
    exact ⟨hb, by
      rcases Nat.lt_or_ge g w.heap.size with h1 | h1
      · exact h1
      · rw [Array.getElem?_eq_none h1] at hh; cases hh⟩
theorem drop_lt {t : B} (h : t ≠ 0#64) : un (t &&& (t - 1#64)) < un t := by
  have h0 : un t ≠ 0 := fun e => h (un_inj (by rw [e]; rfl))
  have h1 : un (t - 1#64) = un t - 1 := by
    unfold un at h0 ⊢
    rw [BitVec.toNat_sub_of_le]
    · rfl
    · rw [BitVec.le_def]; show 1 ≤ t.toNat; omega
  have h2 : un (t &&& (t - 1#64)) ≤ un (t - 1#64) := by unfold un; rw [BitVec.toNat_and]; exact Nat.and_le_right
  omega
set_option maxRecDepth 100000 in
set_option maxHeartbeats 2000000 in
theorem List_ok (s : B) (w : World) (hT : Tab w) : Calls Tryd.prog 19 #[.int .u64 (un s)] w
    fun e w' => ∃ (g : Option Addr) (c : Nat), e = .returned (.slice g (cnt s) c) ∧ w'.ownsRow w.heap.size 3 1 (.slice g (cnt s) c) (cnt s) (ints (lst s)) ∧ Below w.heap.size w w' := by
  have hc64 := cnt_le s
  have hcl := cnt_lst s
  have HC := Lib.hid hcl
  clear hcl
  obtain ⟨i0, hi, hz0, hz1, hz2⟩ := info_parts info_int
  go_enter Tryd.func19, Tryd.ntmps19
  go_wp2_with (first | (go_at_call 32; refine (count_ok _ _).mono ?_; rintro e w' ⟨rfl, rfl⟩) | (at_make; refine wpList_make_own _ rfl _ _ 36 rfl w.heap.size 3 i0 (.int .i64 0) 1 Tryd.underlying36 hi hz0 hz1 .i64 .i64 (cnt s : Int) (cnt s) rfl rfl rfl ?b2 ?b3 (Nat.le_refl _) ?_; rotate_right; intro w1 hown hgrow))
  case b2 => rw [hz2]; omega
  case b3 => unfold maxLen; omega
  have hb1 : Below w.heap.size w w1 := (Below.refl _ _).grown hgrow (Nat.le_refl _) (fun k hk => by cases hk)
  have hT1 := hT.below hb1
  clear hgrow
  go_loopw [0, 3] (fun x v wr => ∃ (j : Nat) (t : B), j ≤ cnt s ∧ x = .int .u64 (un t) ∧ Hid (lst t = (lst s).drop j) ∧ wr.ownsRow w.heap.size 3 1 v j (ints ((lst s).take j)) ∧ Below w.heap.size w wr)
    (fun x _ _ => (intOf x).toNat)
  case atStart => exact ⟨0, s, by omega, rfl, by show lst s = _; simp, hown, hb1⟩
  case round =>
    obtain ⟨j, t, hj, rfl, HX, hownr, hbr⟩ := hrel
    have hTr := hT.below hbr
    by_cases hlt : j < cnt s
    · have hjl : j < (lst s).length := by rw [← HC.out]; exact hlt
      have HD := Lib.hid (lst_drop HX.out hjl)
      have HT := Lib.hid (take_lst HX.out hjl)
      have e0 := un_ne0 HD.out.1
      have HL := Lib.hid (drop_lt HD.out.1)
      clear HX hjl
      obtain ⟨g, c, rfl, hfb⟩ := own_form hownr
      have hsz := hbr.size
      go_wp2_with (first | (go_at_call 66; refine (least_ok t HD.out.1 _ hTr).mono ?_; rintro e w' ⟨rfl, rfl⟩) | (at_builtin; refine app_int _ rfl _ _ rfl w.heap.size _ j _ rfl (hownr.alloc _) wr.heap.size (.int .i64 (low t : Int)) rfl rfl ?c1 (by omega) ?c2 ?_; rotate_right; intro v' w2 hown2 hgrow2))
      case c1 => simp
      case c2 => simp; omega
      rw [← HT.out] at hown2
      have hb2 : Below w.heap.size w w2 := (hbr.alloc hsz _).grown hgrow2 (by simp; omega) (fun k hk => (hfb k hk).1)
      clear hown hb1 hownr hgrow2 hbr hfb hTr hT1
      go_wp2
      go_roundw
      case rel => exact ⟨j + 1, _, by omega, rfl, HD.out.2.1, hown2, hb2⟩
      case measure => simp [intOf]; exact HL.out
    · obtain rfl : j = cnt s := by omega
      have ht0 : t = 0#64 := by
        have h1 : lst t = [] := by rw [HX.out, HC.out]; simp
        by_cases h0 : t = 0#64
        · exact h0
        · rw [lst_step h0] at h1; cases h1
      have e0 : (un t : Int) = 0 := un_zero_int ht0
      have hall : (lst s).take (cnt s) = lst s := by rw [HC.out]; exact List.take_length
      rw [hall] at hownr
      clear ht0 hall HX
      obtain ⟨g, c, rfl, hfb⟩ := own_form hownr
      go_wp2
      go_ret
      exact ⟨g, c, rfl, hownr, hbr⟩
end Go.Proofs.YtlhhcgiifgkngaaDoor
