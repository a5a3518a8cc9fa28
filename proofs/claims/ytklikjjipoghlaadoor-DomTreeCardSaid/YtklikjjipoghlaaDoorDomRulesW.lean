/- The walks through dom.check and dom.Rules. Conditions: the table reads as listed. -/
import Derived.Test.YtklikjjipoghlaaDoorDomW
namespace Go.Proofs.YtklikjjipoghlaaDoor
open Go.RowKit
def izs (l : List Int) : List Value := l.map (Value.int .i64)
def inR (m : Nat) (n : Int) : Bool := decide (0 ≤ n) && decide (n < (m : Int))
def chkD (r : List B) (l : List Int) : Int := if chkR r ≠ 0 then chkR r else if l.all (inR r.length) = true then 0 else 4
theorem chkD_zero {r : List B} {l : List Int} : chkD r l = 0 ↔ chkR r = 0 ∧ ∀ n ∈ l, 0 ≤ n ∧ n < r.length := by
  unfold chkD
  by_cases h : chkR r = 0
  · rw [if_neg (by simp [h])]
    by_cases h2 : l.all (inR r.length) = true
    · rw [if_pos h2]
      simp only [h, true_and, true_iff]
      intro n hn
      have := List.all_eq_true.1 h2 n hn
      unfold inR at this
      simpa using this
    · rw [if_neg h2]
      simp only [h, true_and]
      constructor
      · intro h3; cases h3
      · intro h3
        exfalso
        apply h2
        rw [List.all_eq_true]
        intro n hn
        have := h3 n hn
        unfold inR; simp [this]
  · rw [if_pos h]; simp [h]
theorem Reads.izs_at {w : World} {b n : Nat} {p : Option Addr} {l : List Int} (h : Reads w b 1 p n (izs l)) {k : Nat} (hk : k < n) : ∃ ad, p = some ad ∧ ad.block < b ∧ w.cell? (ad.add k) = some (.int .i64 (l.getD k 0)) := by
  obtain ⟨ad, u, rfl, hb, hu, hc⟩ := h.at_ hk
  refine ⟨ad, rfl, hb, ?_⟩
  have hl : k < l.length := by have := h.1; simp [izs] at this; omega
  rw [hc, ← hu]
  simp [izs, hl]
set_option maxHeartbeats 1000000 in
theorem checkD_ok (p : Option Addr) (n c : Nat) (r : List B) (q : Option Addr) (m cq b : Nat) (l : List Int) (w : World) (hR : RowsAt w p n r) (hL : Reads w b 1 q m (izs l)) (hm : m ≤ 1000) :
    Calls Tryd.prog 62 #[.slice p n c, .slice q m cq] w fun e w' => e = .returned (.int .i64 (chkD r l)) ∧ w = w' := by
  have hl := hR.len
  subst hl
  have hll : l.length = m := by have := hL.1; simpa [izs] using this
  subst hll
  have hbig := hR.big
  unfold maxLen at hbig
  by_cases h : chkR r = 0
  · have H := Lib.hid h
    have HC : Hid (chkD r l = if l.all (inR r.length) = true then 0 else 4) := by show chkD r l = _; unfold chkD; rw [if_neg (by simp [h])]
    clear h
    go_enter Tryd.func62, Tryd.ntmps62
    go_wp2_with (go_at_call 50; refine (Check_ok _ _ _ r _ hR).mono ?_; rw [H.out]; rintro e w' ⟨rfl, rfl⟩)
    go_loop [15] (fun i => ∃ k : Nat, k ≤ l.length ∧ i = .int .i64 k ∧ Hid ((l.take k).all (inR r.length) = true)) (fun i => l.length - (intOf i).toNat)
    case atStart => exact ⟨0, Nat.zero_le _, rfl, by show (l.take 0).all _ = true; simp⟩
    case round =>
      obtain ⟨k, hk, rfl, HK⟩ := hrel
      by_cases hlt : k < l.length
      · obtain ⟨ad, rfl, _, hc⟩ := hL.izs_at hlt
        have hg : l.getD k 0 = l[k] := by rw [List.getD_eq_getElem?_getD, List.getElem?_eq_getElem hlt]; rfl
        obtain ⟨x, hx⟩ : ∃ x, x = l.getD k 0 := ⟨_, rfl⟩
        rw [← hx] at hc
        have HT : Hid ((l.take (k + 1)).all (inR r.length) = inR r.length x) := by
          show List.all _ _ = _
          rw [List.take_succ_eq_append_getElem hlt, List.all_append, HK.out, hx, hg]; simp
        have HF : Hid (inR r.length x = false → l.all (inR r.length) = false) := by
          show _ → _
          intro h
          rw [Bool.eq_false_iff]
          intro h2
          have := List.all_eq_true.1 h2 _ (List.getElem_mem hlt)
          rw [← hg, ← hx, h] at this; cases this
        clear hL hg hx HK
        by_cases h0 : x < 0
        · have HX : Hid (inR r.length x = false) := by
            show inR _ _ = false
            unfold inR
            have : ¬ 0 ≤ x := by omega
            simp [this]
          go_wp2
          go_ret
          exact ⟨by rw [HC.out, HF.out HX.out]; rfl, rfl⟩
        · have h0' : 0 ≤ x := by omega
          by_cases h1 : x < r.length
          · have HX : Hid (inR r.length x = true) := by show inR _ _ = true; unfold inR; simp [h0', h1]
            go_wp2
            go_round
            case rel => exact ⟨k + 1, by omega, by go_num, by show List.all _ _ = true; rw [HT.out, HX.out]⟩
            case measure => simp [intOf]; omega
          · have HX : Hid (inR r.length x = false) := by show inR _ _ = false; unfold inR; simp [h1]
            have h1' : (r.length : Int) ≤ x := by omega
            go_wp2
            go_ret
            exact ⟨by rw [HC.out, HF.out HX.out]; rfl, rfl⟩
      · have hall : l.take k = l := List.take_of_length_le (by omega)
        rw [hall] at HK
        clear hall hL
        go_wp2
        go_ret
        exact ⟨by rw [HC.out, HK.out]; rfl, rfl⟩
  · have HC : Hid (chkD r l = chkR r) := by show chkD r l = _; unfold chkD; rw [if_pos h]
    obtain ⟨h1, h2⟩ := int_ne h
    clear h
    go_enter Tryd.func62, Tryd.ntmps62
    go_wp2_with (go_at_call 50; refine (Check_ok _ _ _ r _ hR).mono ?_; rintro e w' ⟨rfl, rfl⟩)
    go_ret
    exact ⟨by rw [HC.out]; rfl, rfl⟩
/-- does one rule another one -/
def RulesV (r : List B) (root a b : Nat) (v : Bool) : Prop := v = true ↔ Rules r root a b
theorem chkD_in {r : List B} {l : List Int} (h : chkD r l = 0) : Valid r ∧ ∀ n ∈ l, 0 ≤ n ∧ n < r.length := ⟨chkR_zero.1 (chkD_zero.1 h).1, (chkD_zero.1 h).2⟩
set_option maxHeartbeats 2000000 in
theorem Rules_yes (p : Option Addr) (n c : Nat) (r : List B) (root a b : Nat) (h : chkD r [(root : Int), a, b] = 0) (w : World) (hR : RowsAt w p n r) (hT : Tab w) :
    Calls Tryd.prog 33 #[.slice p n c, .int .i64 (root : Int), .int .i64 (a : Int), .int .i64 (b : Int)] w
      fun e w' => ∃ v : Bool, e = .returned (.tuple #[.bool v, .int .i64 0]) ∧ RulesV r root a b v ∧ Below w.heap.size w w' := by
  have hl := hR.len
  subst hl
  have HBG := Lib.hid hR.big
  have H := Lib.hid h
  obtain ⟨hv, hin⟩ := chkD_in h
  have hr : root < r.length := by have := hin (root : Int) (by simp); omega
  have ha : a < r.length := by have := hin (a : Int) (by simp); omega
  have hbb : b < r.length := by have := hin (b : Int) (by simp); omega
  have h64 := hv.1
  have HV := Lib.hid hv
  clear h hv hin
  have hb1 : Below w.heap.size w (w.alloc (.cells #[.int .i64 (root : Int), .int .i64 (a : Int), .int .i64 (b : Int)] 3)) := (Below.refl _ _).alloc (Nat.le_refl _) _
  have hR1 := hR.below hb1
  have hT1 := hT.below hb1
  go_enter Tryd.func33, Tryd.ntmps33
  go_wp2_with (go_at_call 62; refine (checkD_ok _ _ _ r _ 3 _ _ [(root : Int), a, b] _ hR1 (errs_reads w [(root : Int), a, b] _) (by omega)).mono ?_; rw [H.out]; rintro e w' ⟨rfl, rfl⟩)
  refine (over_ok p _ c r HV.out root hr _ hR1 hT1).mono ?_
  rintro e w2 ⟨D, g, cg, rfl, hD, hown, hb2⟩
  have hRD := rows_own hown hD.1.len HBG.out
  obtain ⟨ad, rfl, _, hc⟩ := hRD.cell hbb
  have hb := below_next hb1 hb2
  have HP : Hid (RulesV r root a b (has (row D b) a)) := has_dom HV.out hr hD
  clear hRD hown hD hb1 hb2 hR hR1 hT hT1
  generalize row D b = x at *
  have hsb := shr_bit x a
  cases hk : has x a
  · rw [hk] at HP hsb
    simp only [Bool.false_eq_true, if_false] at hsb
    clear hk
    go_wp2
    go_ret2
    exact ⟨false, rfl, HP.out, hb⟩
  · rw [hk] at HP hsb
    simp only [if_true] at hsb
    clear hk
    go_wp2
    go_ret2
    exact ⟨true, rfl, HP.out, hb⟩
set_option maxHeartbeats 2000000 in
theorem Rules_no (p : Option Addr) (n c : Nat) (r : List B) (root a b : Int) (h : chkD r [root, a, b] ≠ 0) (w : World) (hR : RowsAt w p n r) :
    Calls Tryd.prog 33 #[.slice p n c, .int .i64 root, .int .i64 a, .int .i64 b] w
      fun e w' => e = .returned (.tuple #[.bool false, .int .i64 (chkD r [root, a, b])]) ∧ Below w.heap.size w w' := by
  obtain ⟨h1, h2⟩ := int_ne h
  clear h
  have hb1 : Below w.heap.size w (w.alloc (.cells #[.int .i64 root, .int .i64 a, .int .i64 b] 3)) := (Below.refl _ _).alloc (Nat.le_refl _) _
  have hR1 := hR.below hb1
  go_enter Tryd.func33, Tryd.ntmps33
  go_wp2_with (go_at_call 62; refine (checkD_ok _ _ _ r _ 3 _ _ [root, a, b] _ hR1 (errs_reads w [root, a, b] _) (by omega)).mono ?_; rintro e w' ⟨rfl, rfl⟩)
  go_ret2
  exact ⟨rfl, hb1⟩
end Go.Proofs.YtklikjjipoghlaaDoor
