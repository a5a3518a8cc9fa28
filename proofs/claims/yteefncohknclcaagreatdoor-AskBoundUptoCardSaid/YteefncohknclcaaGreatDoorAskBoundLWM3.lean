/- Texts joined: Rows64, ReachW, BitsRankW, FromW, ReachLeastW. Conditions: theirs. -/
import Derived.Test.YteefncohknclcaaGreatDoorAskBoundLWM2
import Derived.Test.YteefncohknclcaaGreatDoorAskBoundLWM1
namespace Go.Proofs.YteefncohknclcaaGreatDoor
open Go.RowKit
def u64s (r : List B) : List Value := r.map fun x : B => Value.int .u64 (un x : Int)
/-- the slice at p with n elements reads as r -/
structure RowsAt (w : World) (p : Option Addr) (n : Nat) (r : List B) : Prop where
  reads : Reads w w.heap.size 1 p n (u64s r)
  len : r.length = n
  big : n ≤ maxLen
theorem RowsAt.below {w w' : World} {p : Option Addr} {n : Nat} {r : List B} (h : RowsAt w p n r) (hb : Below w.heap.size w w') : RowsAt w' p n r :=
  ⟨(h.reads.below hb).more hb.size, h.len, h.big⟩
theorem RowsAt.drewN {w : World} {p : Option Addr} {n : Nat} {r : List B} (h : RowsAt w p n r) (k : Nat) : RowsAt (w.drewN k) p n r := ⟨h.reads, h.len, h.big⟩
theorem RowsAt.alloc {w : World} {p : Option Addr} {n : Nat} {r : List B} (h : RowsAt w p n r) (o : Obj) : RowsAt (w.alloc o) p n r :=
  h.below ((Below.refl _ _).alloc (Nat.le_refl _) o)
theorem RowsAt.cell {w : World} {p : Option Addr} {n : Nat} {r : List B} (h : RowsAt w p n r) {k : Nat} (hk : k < n) : ∃ ad, p = some ad ∧ ad.block < w.heap.size ∧ w.cell? (ad.add k) = some (.int .u64 (un (row r k) : Int)) := by
  obtain ⟨ad, u, rfl, hb, hu, hc⟩ := h.reads.at_ hk
  refine ⟨ad, rfl, hb, ?_⟩
  have hl : k < r.length := by rw [h.len]; exact hk
  rw [hc, ← hu]
  unfold u64s row
  simp [hl]
theorem below_next {w w1 w2 : World} (h : Below w.heap.size w w1) (h2 : Below w1.heap.size w1 w2) : Below w.heap.size w w2 := h.trans (h2.mono h.size)
theorem below_draws {b : Nat} {w w1 : World} (h : Below b w w1) (k : Nat) : Below b w (w1.drewN k) := ⟨h.os, h.tape, h.output, h.size, h.block⟩
/-- from a list of numbers that fit uint64 to sets -/
theorem sets_of (zs : List Int) (h : ∀ n ∈ zs, (Lit.int .u64 n).wf = true) : ∃ r : List B, zs = r.map (fun x : B => (un x : Int)) := by
  induction zs with
  | nil => exact ⟨[], rfl⟩
  | cons z zs ih =>
    obtain ⟨r, hr⟩ := ih (fun n hn => h n (List.mem_cons_of_mem _ hn))
    obtain ⟨x, hx⟩ := un_of (h z List.mem_cons_self)
    exact ⟨x :: r, by rw [List.map_cons, ← hx, ← hr]⟩
/-- what the shell of a law tells of a slice of uint64 -/
theorem rows_of {w : World} {a : Option Addr} {len cap : Nat} {zs : List Int}
    (h : (a = none ∧ len = 0 ∧ cap = 0 ∧ zs = []) ∨
      ∃ x, a = some x ∧ len ≤ cap ∧ cap ≤ maxLen ∧ zs.length = cap ∧ (∀ i, i < zs.length → w.cell? (x.add i) = some (.int .u64 (zs.getD i 0))) ∧ ∀ n ∈ zs, (Lit.int .u64 n).wf = true) :
    ∃ r : List B, RowsAt w a len r := by
  rcases h with ⟨rfl, rfl, rfl, rfl⟩ | ⟨x, rfl, hl, hm, hz, hc, hw⟩
  · exact ⟨[], Reads.none_, rfl, Nat.zero_le _⟩
  · obtain ⟨r, rfl⟩ := sets_of zs hw
    have hrl : r.length = cap := by simpa using hz
    refine ⟨r.take len, ⟨?_, fun hn => ⟨x, rfl, ?_, fun j u hj => ?_⟩⟩, ?_, by omega⟩
    · simp [u64s]; omega
    · have h0 := hc 0 (by simp; omega)
      have hb : (x.add 0).block = x.block := block_of_add x 0
      rw [← hb]
      rcases Nat.lt_or_ge (x.add 0).block w.heap.size with h1 | h1
      · exact h1
      · unfold World.cell? at h0
        rw [Array.getElem?_eq_none h1] at h0
        cases h0
    · have hjl : j < len := by
        have := (List.getElem?_eq_some_iff.1 hj).1
        simp [u64s] at this; omega
      rw [hc j (by simp; omega), ← hj]
      have hjr : j < r.length := by omega
      simp [u64s, hjl, hjr]
    · simp; omega
end Go.Proofs.YteefncohknclcaaGreatDoor
namespace Go.Proofs.YteefncohknclcaaGreatDoor
open Go.RowKit
set_option maxHeartbeats 1000000 in
theorem rcheck_ok (q : Option Addr) (n cq : Nat) (hn : n ≤ 64) (p : Option Addr) (m cp : Nat) (ss : List B) (w : World) (hS : RowsAt w p m ss) :
    Calls Tryz.prog 126 #[.slice q n cq, .slice p m cp] w fun e w' => e = .returned (.int .i64 (chkN n ss)) ∧ w = w' := by
  have hm := hS.big
  unfold maxLen at hm
  have hl := hS.len
  subst hl
  go_enter Tryz.func126, Tryz.ntmps126
  go_wp2_with (go_at_call 60; refine (Below_ok n hn _).mono ?_; rintro e w' ⟨rfl, rfl⟩)
  go_loop [17] (fun i => ∃ k : Nat, k ≤ ss.length ∧ i = .int .i64 k ∧ Hid (okSets n (ss.take k) = true)) (fun i => ss.length - (intOf i).toNat)
  case atStart => exact ⟨0, Nat.zero_le _, rfl, by show okSets n (ss.take 0) = true; simp [okSets]⟩
  case round =>
    obtain ⟨k, hk, rfl, HK⟩ := hrel
    by_cases hlt : k < ss.length
    · obtain ⟨ad, rfl, hb, hc⟩ := hS.cell hlt
      have hrow : row ss k = ss[k] := by unfold row; simp [hlt]
      have HT : Hid (okSets n (ss.take (k + 1)) = inB n (row ss k)) := by
        show okSets _ _ = _
        have h1 : okSets n (ss.take k) = true := HK.out
        unfold okSets at h1 ⊢
        rw [List.take_succ_eq_append_getElem hlt, List.all_append, h1, hrow]; simp
      have HA : Hid (inB n (row ss k) = false → okSets n ss = false) := by
        show _ → _
        intro h
        unfold okSets
        rw [Bool.eq_false_iff]
        intro h2
        have := List.all_eq_true.1 h2 _ (List.getElem_mem hlt)
        rw [← hrow, h] at this; cases this
      clear hS hb hrow HK
      generalize row ss k = x at *
      by_cases hx : x &&& ~~~belowB n = 0#64
      · have e0 : (un (x &&& ~~~belowB n) : Int) = 0 := un_zero_int hx
        have HX : Hid (inB n x = true) := by show inB n x = true; unfold inB; simpa using hx
        clear hx
        go_wp2
        go_round
        case rel => exact ⟨k + 1, by omega, by go_num, by show _ = true; rw [HT.out, HX.out]⟩
        case measure => simp [intOf]; omega
      · have e0 := un_ne0 hx
        have HX : Hid (inB n x = false) := by show inB n x = false; unfold inB; simpa using hx
        clear hx
        go_wp2
        go_ret
        exact ⟨by unfold chkN; rw [HA.out HX.out]; rfl, rfl⟩
    · have hall : ss.take k = ss := List.take_of_length_le (by omega)
      rw [hall] at HK
      clear hall
      go_wp2
      go_ret
      exact ⟨by unfold chkN; rw [HK.out]; rfl, rfl⟩
set_option maxHeartbeats 1000000 in
theorem Check_ok (p : Option Addr) (n c : Nat) (r : List B) (w : World) (hR : RowsAt w p n r) :
    Calls Tryz.prog 87 #[.slice p n c] w fun e w' => e = .returned (.int .i64 (chkR r)) ∧ w = w' := by
  have hl := hR.len
  subst hl
  have hbig := hR.big
  unfold maxLen at hbig
  by_cases h : 64 < r.length
  · have HC : Hid (chkR r = 2) := by show chkR r = 2; unfold chkR; rw [if_pos h]
    go_enter Tryz.func87, Tryz.ntmps87
    go_wp2
    go_ret
    exact ⟨by rw [HC.out]; rfl, rfl⟩
  · have HC : Hid (chkR r = chkN r.length r) := by show chkR r = _; unfold chkR; rw [if_neg h]
    have h64 : r.length ≤ 64 := by omega
    clear h
    go_enter Tryz.func87, Tryz.ntmps87
    go_wp2_with (go_at_call 126; refine (rcheck_ok _ _ _ h64 _ _ _ r _ hR).mono ?_; rintro e w' ⟨rfl, rfl⟩)
    go_ret
    exact ⟨by rw [HC.out]; rfl, rfl⟩
set_option maxHeartbeats 1000000 in
theorem checks_ok (p : Option Addr) (n c : Nat) (r : List B) (q : Option Addr) (m cq : Nat) (ss : List B) (w : World) (hR : RowsAt w p n r) (hS : RowsAt w q m ss) :
    Calls Tryz.prog 91 #[.slice p n c, .slice q m cq] w fun e w' => e = .returned (.int .i64 (chks r ss)) ∧ w = w' := by
  have hl := hR.len
  subst hl
  have hbig := hR.big
  unfold maxLen at hbig
  by_cases h : chkR r = 0
  · have hv := (chkR_zero.1 h).1
    have HC : Hid (chks r ss = chkN r.length ss) := by show chks r ss = _; unfold chks; rw [h]; simp
    go_enter Tryz.func91, Tryz.ntmps91
    go_wp2_with (first | (go_at_call 87; refine (Check_ok _ _ _ r _ hR).mono ?_; rintro e w' ⟨rfl, rfl⟩) | (go_at_call 126; refine (rcheck_ok _ _ _ hv _ _ _ ss _ hS).mono ?_; rintro e w' ⟨rfl, rfl⟩))
    go_ret
    exact ⟨by rw [HC.out]; rfl, rfl⟩
  · have HC : Hid (chks r ss = chkR r) := by show chks r ss = _; unfold chks; rw [if_pos h]
    have h0 : (chkR r == 0) = false := by simpa using h
    have h1 : (chkR r != 0) = true := by simpa using h
    clear h
    go_enter Tryz.func91, Tryz.ntmps91
    go_wp2_with (go_at_call 87; refine (Check_ok _ _ _ r _ hR).mono ?_; rintro e w' ⟨rfl, rfl⟩)
    go_ret
    exact ⟨by rw [HC.out]; rfl, rfl⟩
/-- what Next answers, part by part -/
def nextI (s : B) (m : Nat) : Int := if frm s m = 0#64 then 0 else (low (frm s m) : Int)
def nextB (s : B) (m : Nat) : Bool := decide (frm s m ≠ 0#64)
theorem nextV_parts (s : B) (m : Nat) : nextV s m = .tuple #[.int .i64 (nextI s m), .bool (nextB s m)] := by
  unfold nextV nextI nextB
  by_cases h : frm s m = 0#64 <;> simp [h]
theorem next_true {s : B} {m : Nat} (h : nextB s m = true) : ∃ j : Nat, nextI s m = (j : Int) ∧ m ≤ j ∧ j < 64 ∧ has s j = true ∧ ∀ i, m ≤ i → i < j → has s i = false := by
  have h0 : frm s m ≠ 0#64 := by unfold nextB at h; simpa using h
  obtain ⟨h1, h2, h3, h4⟩ := low_frm h0
  exact ⟨low (frm s m), by unfold nextI; rw [if_neg h0], h2, h4, h1, h3⟩
theorem next_false {s : B} {m : Nat} (h : nextB s m = false) : ∀ i, m ≤ i → has s i = false := by
  have h0 : frm s m = 0#64 := by unfold nextB at h; simpa using h
  intro i hi
  have := eq_zero_iff.1 h0 i
  rw [has_frm] at this
  simpa [hi] using this
def muIs : Value → Value → Nat
  | .int _ q, .bool true => 64 - q.toNat
  | _, _ => 0
theorem mu_next (s : B) (j : Nat) (hj : j < 64) : muIs (.int .i64 (nextI s (j + 1))) (.bool (nextB s (j + 1))) < muIs (.int .i64 (j : Int)) (.bool true) := by
  cases h : nextB s (j + 1)
  · show 0 < 64 - (j : Int).toNat; omega
  · obtain ⟨i, h1, h2, h3, _⟩ := next_true h
    rw [h1]
    show 64 - (i : Int).toNat < 64 - (j : Int).toNat
    omega
set_option maxHeartbeats 1000000 in
theorem step_ok (p : Option Addr) (n c : Nat) (r : List B) (s : B) (hs : ∀ k, has s k = true → k < r.length) (w : World) (hR : RowsAt w p n r) (hT : Tab w) :
    Calls Tryz.prog 128 #[.slice p n c, .int .u64 (un s)] w fun e w' => e = .returned (.int .u64 (un (stp r s))) ∧ w = w' := by
  have hl := hR.len
  subst hl
  have hbig := hR.big
  unfold maxLen at hbig
  have HS := Lib.hid hs
  clear hs
  go_enter Tryz.func128, Tryz.ntmps128
  go_wp2_with (go_at_call 94; refine (Next_ok _ _ _ hT).mono ?_; rw [nextV_parts]; rintro e w' ⟨rfl, rfl⟩)
  go_loop [5, 6, 7] (fun x i b => ∃ (m : Nat) (a : B), m ≤ 64 ∧ x = .int .u64 (un a) ∧ i = .int .i64 (nextI s m) ∧ b = .bool (nextB s m) ∧ Hid (∀ k, has a k = true ↔ ∃ n, n < m ∧ has s n = true ∧ has (row r n) k = true)) (fun _ i b => muIs i b)
  case atStart => exact ⟨0, 0#64, by omega, rfl, rfl, rfl, by show ∀ k, _; intro k; rw [has_zero]; simp⟩
  case round =>
    obtain ⟨m, a, hm, rfl, rfl, rfl, HA⟩ := hrel
    cases hnb : nextB s m
    · have HF : Hid (stp r s = a) := by
        show stp r s = a
        apply eq_of_iff
        intro k
        rw [has_stp, HA.out k]
        constructor
        · rintro ⟨i, h1, h2⟩
          refine ⟨i, ?_, h1, h2⟩
          rcases Nat.lt_or_ge i m with h3 | h3
          · exact h3
          · rw [next_false hnb i h3] at h1; cases h1
        · rintro ⟨i, _, h1, h2⟩; exact ⟨i, h1, h2⟩
      clear hnb HA
      go_wp2
      go_ret
      exact ⟨by rw [HF.out]; rfl, rfl⟩
    · obtain ⟨j, hj, hmj, hj64, hsj, hno⟩ := next_true hnb
      have hjr : j < r.length := HS.out j hsj
      obtain ⟨ad, rfl, hb, hc⟩ := hR.cell hjr
      have HN : Hid (∀ k, has (a ||| row r j) k = true ↔ ∃ n, n < j + 1 ∧ has s n = true ∧ has (row r n) k = true) := by
        show ∀ k, _
        intro k
        rw [has_or, Bool.or_eq_true, HA.out k]
        constructor
        · rintro (⟨i, h1, h2, h3⟩ | h)
          · exact ⟨i, by omega, h2, h3⟩
          · exact ⟨j, by omega, hsj, h⟩
        · rintro ⟨i, h1, h2, h3⟩
          rcases Nat.lt_or_ge i m with h4 | h4
          · exact .inl ⟨i, h4, h2, h3⟩
          · rcases Nat.lt_or_ge i j with h5 | h5
            · rw [hno i h4 h5] at h2; cases h2
            · have : i = j := by omega
              subst this; exact .inr h3
      have HM := Lib.hid (mu_next s j hj64)
      rw [hj]
      clear HA hno hsj hj hb
      generalize row r j = x at *
      have e1 : ((j : Int) + 1).toNat = j + 1 := by omega
      have HE := Lib.hid e1
      clear e1 hnb
      go_wp2_with (go_at_call 94; refine (Next_ok _ _ _ hT).mono ?_; rw [HE.out, nextV_parts]; rintro e w' ⟨rfl, rfl⟩)
      go_round
      case rel => exact ⟨j + 1, a ||| x, by omega, rfl, rfl, rfl, HN.out⟩
      case measure => exact HM.out
end Go.Proofs.YteefncohknclcaaGreatDoor
namespace Go.Proofs.YteefncohknclcaaGreatDoor
open Go.RowKit
theorem shr_bit (s : B) (a : Nat) : (un (s >>> a &&& 1#64) : Int) = if has s a = true then 1 else 0 := by
  have e : un (s >>> a &&& 1#64) = un (s >>> a) % 2 := by
    unfold un; rw [BitVec.toNat_and]; exact Nat.and_one_is_mod _
  have e2 : un (s >>> a) = un s / 2 ^ a := by unfold un; rw [BitVec.toNat_ushiftRight, Nat.shiftRight_eq_div_pow]
  rw [e, e2, has_un, Nat.testBit_eq_decide_div_mod_eq]
  rcases Nat.mod_two_eq_zero_or_one (un s / 2 ^ a) with h | h <;> simp [h]
theorem nextV_none {s : B} {m : Nat} (h : frm s m = 0#64) : nextV s m = .tuple #[.int .i64 0, .bool false] := by unfold nextV; rw [if_pos h]
theorem nextV_some {s : B} {m : Nat} (h : frm s m ≠ 0#64) : nextV s m = .tuple #[.int .i64 (low (frm s m) : Int), .bool true] := by unfold nextV; rw [if_neg h]
end Go.Proofs.YteefncohknclcaaGreatDoor
namespace Go.Proofs.YteefncohknclcaaGreatDoor
open Go.RowKit
/-- the state of the search: what is come to, and the edge of it -/
def FromInv (r : List B) (s : B) (i : Nat) (cur edge : B) : Prop :=
  cur = ball r i s ∧ (∀ k, has edge k = true → has cur k = true) ∧ (∀ n k, has cur n = true → has edge n = false → has (row r n) k = true → has cur k = true) ∧ i ≤ cnt cur + (if edge = 0#64 then 1 else 0)
theorem from_start (r : List B) (s : B) : FromInv r s 0 s s := ⟨rfl, fun _ h => h, (fun n k h1 h2 => by rw [h1] at h2; cases h2), Nat.zero_le _⟩
theorem from_round {r : List B} {s cur edge : B} {i : Nat} (h : FromInv r s i cur edge) (he : edge ≠ 0#64) : FromInv r s (i + 1) (cur ||| (stp r edge &&& ~~~cur)) (stp r edge &&& ~~~cur) := by
  obtain ⟨h1, h2, h3, h4⟩ := h
  rw [if_neg he] at h4
  have hor : ∀ k, has (cur ||| (stp r edge &&& ~~~cur)) k = true ↔ has cur k = true ∨ has (stp r edge) k = true := by
    intro k
    rw [has_or, has_and, Bool.or_eq_true, Bool.and_eq_true]
    constructor
    · rintro (h | ⟨h, _⟩)
      · exact .inl h
      · exact .inr h
    · rintro (h | h)
      · exact .inl h
      · by_cases hc : has cur k = true
        · exact .inl hc
        · refine .inr ⟨h, ?_⟩
          rw [has_not _ _ (has_lt h)]; simpa using hc
  have e1 : cur ||| (stp r edge &&& ~~~cur) = ball r (i + 1) s := by
    apply eq_of_iff
    intro k
    rw [hor, has_ball_succ, ← h1, has_stp]
    constructor
    · rintro (h | ⟨n, hn, h⟩)
      · exact .inl h
      · exact .inr ⟨n, h2 n hn, h⟩
    · rintro (h | ⟨n, hn, h⟩)
      · exact .inl h
      · by_cases hne : has edge n = true
        · exact .inr ⟨n, hne, h⟩
        · exact .inl (h3 n k hn (by simpa using hne) h)
  refine ⟨e1, fun k hk => ?_, fun n k hn hne hk => ?_, ?_⟩
  · rw [has_or, hk]; simp
  · rw [hor] at hn ⊢
    have hcn : has cur n = true := by
      rcases hn with h | h
      · exact h
      · rw [has_and, h] at hne
        by_cases hc : has cur n = true
        · exact hc
        · rw [has_not _ _ (has_lt h)] at hne
          simp at hne; exact hne
    by_cases hen : has edge n = true
    · exact .inr (has_stp.2 ⟨n, hen, hk⟩)
    · exact .inl (h3 n k hcn (by simpa using hen) hk)
  · by_cases h0 : stp r edge &&& ~~~cur = 0#64
    · rw [if_pos h0, h0]
      have : cur ||| 0#64 = cur := by simp
      rw [this]; omega
    · rw [if_neg h0]
      obtain ⟨x, hx⟩ := exists_of_ne h0
      have hx2 := hx
      rw [has_and, Bool.and_eq_true, has_not _ _ (has_lt hx)] at hx2
      have := cnt_lt_of (s := cur) (t := cur ||| (stp r edge &&& ~~~cur)) (fun k hk => by rw [has_or, hk]; rfl) (x := x) (by rw [has_or, hx]; simp) (by simpa using hx2.2)
      omega
theorem from_closed {r : List B} {s cur : B} {i : Nat} (h : FromInv r s i cur 0#64) : Closed r (ball r i s) := by
  obtain ⟨h1, _, h3, _⟩ := h
  rw [← h1]
  intro n k hn hk
  exact h3 n k hn (has_zero _) hk
theorem from_le {r : List B} {s cur edge : B} {i : Nat} (h : FromInv r s i cur edge) : i ≤ 65 := by
  have := cnt_le cur
  have h4 := h.2.2.2
  split at h4 <;> omega
def fromD (r : List B) (s : B) (d : Int) : B := if d < 0 then cls r s else ball r d.toNat s
set_option maxHeartbeats 1000000 in
theorem from_core (p : Option Addr) (n c : Nat) (r : List B) (hv : Valid r) (s : B) (hs : ∀ k, has s k = true → k < r.length) (d : Int) (hd : -1 ≤ d ∧ d ≤ 9223372036854775807) (w : World) (hR : RowsAt w p n r) (hT : Tab w) :
    Calls Tryz.prog 92 #[.slice p n c, .int .u64 (un s), .int .i64 d] w fun e w' => e = .returned (.int .u64 (un (fromD r s d))) ∧ w = w' := by
  have HS := Lib.hid hs
  have HV := Lib.hid hv
  clear hs hv
  go_enter Tryz.func92, Tryz.ntmps92
  go_wp2
  go_loop [1, 2, 7] (fun x y z => ∃ (i : Nat) (cur edge : B), i ≤ 65 ∧ (0 ≤ d → (i : Int) ≤ d) ∧ x = .int .u64 (un cur) ∧ y = .int .i64 (d - i) ∧ z = .int .u64 (un edge) ∧ Hid (FromInv r s i cur edge)) (fun _ y _ => (intOf y - d + 66).toNat)
  case atStart => exact ⟨0, s, s, by omega, by omega, rfl, by simp, rfl, from_start r s⟩
  case round =>
    obtain ⟨i, cur, edge, hi, hid, rfl, rfl, rfl, HF⟩ := hrel
    by_cases he : edge = 0#64
    · have e0 : (un edge : Int) = 0 := un_zero_int he
      have HE : Hid (fromD r s d = cur) := by
        show fromD r s d = cur
        unfold fromD
        have hF := HF.out
        rw [he] at hF
        have hcl := from_closed hF
        split
        · rw [cls_eq hcl, hF.1]
        · rw [ball_stable hcl d.toNat (by omega), hF.1]
      clear he HF
      go_wp2
      go_ret
      exact ⟨by rw [HE.out]; rfl, rfl⟩
    · have e0 := un_ne0 he
      have e1 := un_ne1 he
      by_cases hz : d - (i : Int) = 0
      · have HE : Hid (fromD r s d = cur) := by
          show fromD r s d = cur
          unfold fromD
          rw [if_neg (by omega), HF.out.1]
          congr 1; omega
        have hz1 : (d - (i : Int) == 0) = true := by simpa using hz
        have hz2 : (d - (i : Int) != 0) = false := by simpa using hz
        clear he HF hz
        go_wp2
        go_ret
        exact ⟨by rw [HE.out]; rfl, rfl⟩
      · have hzb : (d - (i : Int) == 0) = false := by simpa using hz
        have hzc : (d - (i : Int) != 0) = true := by simpa using hz
        have hsub : ∀ k, has edge k = true → k < r.length := fun k hk => ball_in HV.out HS.out i k (by rw [← HF.out.1]; exact HF.out.2.1 k hk)
        have HB := Lib.hid hsub
        have HN := Lib.hid (from_round HF.out he)
        have hi' : i + 1 ≤ 65 := from_le HN.out
        have hid' : 0 ≤ d → (i : Int) + 1 ≤ d := by intro h; have := hid h; omega
        clear he HF hsub hid
        go_wp2_with (go_at_call 128; refine (step_ok _ _ _ r edge HB.out _ hR hT).mono ?_; rintro e w' ⟨rfl, rfl⟩)
        go_round
        case rel => exact ⟨i + 1, _, _, by omega, fun h => by have := hid' h; omega, rfl, by go_num, rfl, HN.out⟩
        case measure => simp [intOf]; omega
theorem from_all (p : Option Addr) (n c : Nat) (r : List B) (hv : Valid r) (s : B) (hs : ∀ k, has s k = true → k < r.length) (w : World) (hR : RowsAt w p n r) (hT : Tab w) :
    Calls Tryz.prog 92 #[.slice p n c, .int .u64 (un s), .int .i64 (-1)] w fun e w' => e = .returned (.int .u64 (un (cls r s))) ∧ w = w' := from_core p n c r hv s hs (-1) (by omega) w hR hT
theorem from_some (p : Option Addr) (n c : Nat) (r : List B) (hv : Valid r) (s : B) (hs : ∀ k, has s k = true → k < r.length) (d : Int) (hd : 0 ≤ d ∧ d ≤ 9223372036854775807) (w : World) (hR : RowsAt w p n r) (hT : Tab w) :
    Calls Tryz.prog 92 #[.slice p n c, .int .u64 (un s), .int .i64 d] w fun e w' => e = .returned (.int .u64 (un (ball r d.toNat s))) ∧ w = w' := by
  have h := from_core p n c r hv s hs d (by omega) w hR hT
  unfold fromD at h
  rw [if_neg (by omega)] at h
  exact h
theorem rows_one (w : World) (s : B) : RowsAt (w.alloc (.cells #[.int .u64 (un s : Int)] 24)) (some ⟨w.heap.size, 0, none⟩) 1 [s] := by
  refine ⟨⟨rfl, fun _ => ⟨_, rfl, by simp, fun j u hj => ?_⟩⟩, rfl, by unfold maxLen; omega⟩
  match j, hj with
  | 0, hj => simp [u64s] at hj; subst hj; simp [Addr.add]
theorem rows_two (w : World) (s t : B) : RowsAt (w.alloc (.cells #[.int .u64 (un s : Int), .int .u64 (un t : Int)] 24)) (some ⟨w.heap.size, 0, none⟩) 2 [s, t] := by
  refine ⟨⟨rfl, fun _ => ⟨_, rfl, by simp, fun j u hj => ?_⟩⟩, rfl, by unfold maxLen; omega⟩
  match j, hj with
  | 0, hj => simp [u64s] at hj; subst hj; simp [Addr.add]
  | 1, hj => simp [u64s] at hj; subst hj; simp [Addr.add]
theorem chks_in {r ss : List B} {s : B} (h : chks r ss = 0) (hs : s ∈ ss) : ∀ k, has s k = true → k < r.length := (chks_zero.1 h).2 s hs
theorem int_ne {x : Int} (h : x ≠ 0) : (x == 0) = false ∧ (x != 0) = true := ⟨by simpa using h, by simpa using h⟩
set_option maxHeartbeats 1000000 in
theorem From_yes (p : Option Addr) (n c : Nat) (r : List B) (s : B) (h : chks r [s] = 0) (w : World) (hR : RowsAt w p n r) (hT : Tab w) :
    Calls Tryz.prog 62 #[.slice p n c, .int .u64 (un s)] w fun e w' => e = .returned (.tuple #[.int .u64 (un (cls r s)), .int .i64 0]) ∧ Below w.heap.size w w' := by
  have H := Lib.hid h
  clear h
  have hb1 : Below w.heap.size w (w.alloc (.cells #[.int .u64 (un s : Int)] 24)) := (Below.refl _ _).alloc (Nat.le_refl _) _
  have hR1 := hR.below hb1
  have hT1 := hT.below hb1
  go_enter Tryz.func62, Tryz.ntmps62
  go_wp2_with (first | (go_at_call 91; refine (checks_ok _ _ _ r _ _ _ [s] _ hR1 (rows_one w s)).mono ?_; rw [H.out]; rintro e w' ⟨rfl, rfl⟩) | (go_at_call 92; refine (from_all _ _ _ r (chks_zero.1 H.out).1 s (chks_in H.out (by simp)) _ hR1 hT1).mono ?_; rintro e w' ⟨rfl, rfl⟩))
  go_ret2
  exact ⟨rfl, hb1⟩
set_option maxHeartbeats 1000000 in
theorem From_no (p : Option Addr) (n c : Nat) (r : List B) (s : B) (h : chks r [s] ≠ 0) (w : World) (hR : RowsAt w p n r) :
    Calls Tryz.prog 62 #[.slice p n c, .int .u64 (un s)] w fun e w' => e = .returned (.tuple #[.int .u64 0, .int .i64 (chks r [s])]) ∧ Below w.heap.size w w' := by
  obtain ⟨h1, h2⟩ := int_ne h
  clear h
  have hb1 : Below w.heap.size w (w.alloc (.cells #[.int .u64 (un s : Int)] 24)) := (Below.refl _ _).alloc (Nat.le_refl _) _
  have hR1 := hR.below hb1
  go_enter Tryz.func62, Tryz.ntmps62
  go_wp2_with (go_at_call 91; refine (checks_ok _ _ _ r _ _ _ [s] _ hR1 (rows_one w s)).mono ?_; rintro e w' ⟨rfl, rfl⟩)
  go_ret2
  exact ⟨rfl, hb1⟩
set_option maxHeartbeats 1000000 in
theorem Within_yes (p : Option Addr) (n c : Nat) (r : List B) (s : B) (h : chks r [s] = 0) (d : Int) (hd : 0 ≤ d ∧ d ≤ 9223372036854775807) (w : World) (hR : RowsAt w p n r) (hT : Tab w) :
    Calls Tryz.prog 63 #[.slice p n c, .int .u64 (un s), .int .i64 d] w fun e w' => e = .returned (.tuple #[.int .u64 (un (ball r d.toNat s)), .int .i64 0]) ∧ Below w.heap.size w w' := by
  have H := Lib.hid h
  clear h
  have hb1 : Below w.heap.size w (w.alloc (.cells #[.int .u64 (un s : Int)] 24)) := (Below.refl _ _).alloc (Nat.le_refl _) _
  have hR1 := hR.below hb1
  have hT1 := hT.below hb1
  go_enter Tryz.func63, Tryz.ntmps63
  go_wp2_with (first | (go_at_call 91; refine (checks_ok _ _ _ r _ _ _ [s] _ hR1 (rows_one w s)).mono ?_; rw [H.out]; rintro e w' ⟨rfl, rfl⟩) | (go_at_call 92; refine (from_some _ _ _ r (chks_zero.1 H.out).1 s (chks_in H.out (by simp)) d hd _ hR1 hT1).mono ?_; rintro e w' ⟨rfl, rfl⟩))
  go_ret2
  exact ⟨rfl, hb1⟩
set_option maxHeartbeats 1000000 in
theorem Within_arg (p : Option Addr) (n c : Nat) (r : List B) (s : B) (h : chks r [s] = 0) (d : Int) (hd : d < 0) (w : World) (hR : RowsAt w p n r) :
    Calls Tryz.prog 63 #[.slice p n c, .int .u64 (un s), .int .i64 d] w fun e w' => e = .returned (.tuple #[.int .u64 0, .int .i64 1]) ∧ Below w.heap.size w w' := by
  have H := Lib.hid h
  clear h
  have hb1 : Below w.heap.size w (w.alloc (.cells #[.int .u64 (un s : Int)] 24)) := (Below.refl _ _).alloc (Nat.le_refl _) _
  have hR1 := hR.below hb1
  go_enter Tryz.func63, Tryz.ntmps63
  go_wp2_with (go_at_call 91; refine (checks_ok _ _ _ r _ _ _ [s] _ hR1 (rows_one w s)).mono ?_; rw [H.out]; rintro e w' ⟨rfl, rfl⟩)
  go_ret2
  exact ⟨rfl, hb1⟩
set_option maxHeartbeats 1000000 in
theorem Within_no (p : Option Addr) (n c : Nat) (r : List B) (s : B) (h : chks r [s] ≠ 0) (d : Int) (w : World) (hR : RowsAt w p n r) :
    Calls Tryz.prog 63 #[.slice p n c, .int .u64 (un s), .int .i64 d] w fun e w' => e = .returned (.tuple #[.int .u64 0, .int .i64 (chks r [s])]) ∧ Below w.heap.size w w' := by
  obtain ⟨h1, h2⟩ := int_ne h
  clear h
  have hb1 : Below w.heap.size w (w.alloc (.cells #[.int .u64 (un s : Int)] 24)) := (Below.refl _ _).alloc (Nat.le_refl _) _
  have hR1 := hR.below hb1
  go_enter Tryz.func63, Tryz.ntmps63
  go_wp2_with (go_at_call 91; refine (checks_ok _ _ _ r _ _ _ [s] _ hR1 (rows_one w s)).mono ?_; rintro e w' ⟨rfl, rfl⟩)
  go_ret2
  exact ⟨rfl, hb1⟩
/-- is a number in a set -/
def hasI (s : B) (n : Int) : Bool := decide (0 ≤ n) && has s n.toNat
end Go.Proofs.YteefncohknclcaaGreatDoor
namespace Go.Proofs.YteefncohknclcaaGreatDoor
open Go.RowKit
theorem andNot_zero {s t : B} (h : ∀ k, has s k = true → has t k = true) : s &&& ~~~t = 0#64 := eq_zero_iff.2 fun k => by
  rw [has_and]
  by_cases hk : has s k = true
  · rw [has_not _ _ (has_lt hk), h k hk]; simp
  · simp [hk]
theorem andNot_zero_iff {s t : B} : s &&& ~~~t = 0#64 ↔ ∀ k, has s k = true → has t k = true := by
  refine ⟨fun h k hk => ?_, andNot_zero⟩
  have := eq_zero_iff.1 h k
  rw [has_and, hk, has_not _ _ (has_lt hk)] at this
  simpa using this
end Go.Proofs.YteefncohknclcaaGreatDoor
