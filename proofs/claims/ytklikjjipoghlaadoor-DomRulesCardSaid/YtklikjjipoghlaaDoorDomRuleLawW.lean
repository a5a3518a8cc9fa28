/- The walk through the law DomRules. Conditions: the table reads as listed. -/
import Derived.Test.YtklikjjipoghlaaDoorDomLawsW
import Derived.Test.YtklikjjipoghlaaDoorCloneW
namespace Go.Proofs.YtklikjjipoghlaaDoor
open Go.RowKit
/-- the rows, of which the first k are turned by f -/
def setN' (r : List B) (f : Nat → B) : Nat → List B
  | 0 => r
  | k + 1 => (setN' r f k).set k (f k)
theorem setN'_len (r : List B) (f : Nat → B) (k : Nat) : (setN' r f k).length = r.length := by
  induction k with
  | zero => rfl
  | succ k ih => show (List.set _ _ _).length = _; rw [List.length_set, ih]
theorem row_setN' (r : List B) (f : Nat → B) {k : Nat} (hk : k ≤ r.length) (j : Nat) : row (setN' r f k) j = if j < k then f j else row r j := by
  induction k with
  | zero => simp [setN']
  | succ k ih =>
    show row ((setN' r f k).set k (f k)) j = _
    rw [row_set _ _ _ _ (by rw [setN'_len]; omega), ih (by omega)]
    by_cases h : k = j
    · subst h; simp
    · rw [if_neg h]
      by_cases h2 : j < k
      · rw [if_pos h2, if_pos (by omega)]
      · rw [if_neg h2, if_neg (by omega)]
theorem set_without (r : List B) (a : Nat) : (setN' r (fun j => row r j &&& ~~~(1#64 <<< a)) r.length).set a 0#64 = without r a := by
  unfold without
  congr 1
  refine list_ext_row (by rw [setN'_len]; simp) fun k hk => ?_
  rw [setN'_len] at hk
  rw [row_setN' _ _ (Nat.le_refl _), if_pos hk]
  unfold row
  simp [hk]
theorem valid_without {r : List B} (hv : Valid r) {a : Nat} (ha : a < r.length) : Valid (without r a) :=
  ⟨by rw [without_len]; exact hv.1, fun i k hk => by rw [without_len]; exact hv.2 i k ((row_without ha).1 hk).1⟩
theorem rule_law {r : List B} (hv : Valid r) {root a b : Nat} (hr : root < r.length) (ha : a < r.length) {v : Bool} (h : RulesV r root a b v) :
    v = (has (cls r (1#64 <<< root)) b && !(has (cls (without r a) (1#64 <<< root)) b && decide (a ≠ b) && decide (a ≠ root))) := by
  have h64 : root < 64 := by have := hv.1; omega
  rw [Bool.eq_iff_iff]
  unfold RulesV Rules at h
  rw [h, Bool.and_eq_true, has_cls_one h64, Bool.not_eq_true', Bool.eq_false_iff]
  simp only [ne_eq, Bool.and_eq_true, decide_eq_true_eq, has_cls_one h64, av_without ha, and_assoc]
set_option maxRecDepth 100000 in
set_option maxHeartbeats 8000000 in
theorem domRules_yes (p : Option Addr) (n c : Nat) (r : List B) (root a b : Nat) (h : chkD r [(root : Int), a, b] = 0) (w : World) (hR : RowsAt w p n r) (hT : Tab w) :
    Calls Tryd.prog 11 #[.slice p n c, .int .i64 (root : Int), .int .i64 (a : Int), .int .i64 (b : Int)] w fun e w' => e = .returned (.bool true) ∧ Below w.heap.size w w' := by
  have hl := hR.len
  subst hl
  have HBG := Lib.hid hR.big
  have H := Lib.hid h
  obtain ⟨hv, hin⟩ := chkD_in h
  have hr : root < r.length := by have := hin (root : Int) (by simp); omega
  have ha : a < r.length := by have := hin (a : Int) (by simp); omega
  have hbl : b < r.length := by have := hin (b : Int) (by simp); omega
  have h64 := hv.1
  have HV := Lib.hid hv
  have HW := Lib.hid (valid_without hv ha)
  have H1 := Lib.hid (chks_bit hv hr)
  have H2 := Lib.hid (chks_bit (valid_without hv ha) (a := root) (by rw [without_len]; exact hr))
  have HSW := Lib.hid (set_without r a)
  have HWL := Lib.hid (without_len r a)
  clear h hv hin
  go_enter Tryd.func11, Tryd.ntmps11
  go_wp2_with fail
  refine (doms_below w hT).mono ?_
  rintro e w1 ⟨rfl, hb1⟩
  have hR1 := hR.below hb1
  have hT1 := hT.below hb1
  clear hR hT
  go_wp2_with fail
  refine (Rules_yes p _ c r root a b H.out w1 hR1 hT1).mono ?_
  rintro e w2 ⟨v, rfl, hv2, hb2⟩
  have HL := Lib.hid (rule_law HV.out hr ha hv2)
  have hR2 := hR1.below hb2
  have hT2 := hT1.below hb2
  have hb12 := below_next hb1 hb2
  clear hR1 hT1 hb1 hb2 hv2
  go_wp2_with fail
  refine (From_yes p _ c r (1#64 <<< root) H1.out w2 hR2 hT2).mono ?_
  rintro e w3 ⟨rfl, hb3⟩
  have hR3 := hR2.below hb3
  have hT3 := hT2.below hb3
  have hb13 := below_next hb12 hb3
  clear hR2 hT2 hb12 hb3
  generalize cls r (1#64 <<< root) = come at *
  go_wp2_with fail
  refine (Clone_rows p _ c (by omega) h64 r w3 hR3).mono ?_
  rintro e w4 ⟨g, cg, rfl, hown4, hb4⟩
  have hT4 := hT3.below hb4
  have hb14 := below_next hb13 hb4
  obtain ⟨g', hg, hcg1, hcg2⟩ := own_full' hown4 (by omega)
  subst hg
  have hw34 := own_lo hown4
  clear hR3
  go_wp2
  go_loopw [43] (fun i wr => ∃ k : Nat, k ≤ r.length ∧ i = .int .i64 k ∧ wr.ownsRow w3.heap.size 28 1 (.slice (some ⟨g', 0, none⟩) r.length cg) r.length (u64s (setN' r (fun j => row r j &&& ~~~(1#64 <<< a)) k)) ∧ Below w3.heap.size w3 wr) (fun i _ => r.length - (intOf i).toNat)
  case atStart => exact ⟨0, Nat.zero_le _, rfl, hown4, hb4⟩
  case round =>
    obtain ⟨k, hk, rfl, hownk, hbk⟩ := hrel
    clear hown4
    by_cases hlt : k < r.length
    · have hcell := own_u64_at hownk hlt
      rw [row_setN' _ _ hk, if_neg (by omega)] at hcell
      have hfr := hownk.frozenAt k
      have hst1 := hownk.stored k (.int .u64 (un (row r k &&& ~~~(1#64 <<< a)) : Int))
      rw [u64s_set] at hst1
      have HST : Hid ((wr.setCell ⟨g', k, none⟩ (.int .u64 (un (row r k &&& ~~~(1#64 <<< a)) : Int))).drew.ownsRow w3.heap.size 28 1 (.slice (some ⟨g', 0, none⟩) r.length cg) r.length (u64s (setN' r (fun j => row r j &&& ~~~(1#64 <<< a)) (k + 1))) ∧ wr.grownBy (wr.setCell ⟨g', k, none⟩ (.int .u64 (un (row r k &&& ~~~(1#64 <<< a)) : Int))).drew (some g')) := ⟨hst1.1, ⟨hst1.2.os, hst1.2.tape, hst1.2.output, hst1.2.size, hst1.2.block⟩⟩
      have HBK := Lib.hid hbk
      clear hownk hst1 hbk
      obtain ⟨x, hx⟩ : ∃ x, x = row r k := ⟨_, rfl⟩
      rw [← hx] at hcell HST
      clear hx
      go_wp2
      go_region
      go_wp2
      go_roundw
      case rel =>
        refine ⟨k + 1, by omega, by go_num, HST.out.1, ?_⟩
        exact HBK.out.grown HST.out.2 HBK.out.size (fun b hb => by cases hb; exact hw34)
      case measure => simp [intOf]; omega
    · obtain rfl : k = r.length := by omega
      have hcell := own_u64_at hownk ha
      have hfr := hownk.frozenAt a
      have hst1 := hownk.stored a (.int .u64 (un 0#64 : Int))
      rw [u64s_set, HSW.out] at hst1
      have hu0 : (un 0#64 : Int) = 0 := rfl
      rw [hu0] at hst1
      have hRW := rows_own hst1.1 HWL.out HBG.out
      have hbx := hbk.grown hst1.2 hbk.size (fun b hb => by cases hb; exact hw34)
      have hTx := hT3.below hbx
      have hb15 := below_next hb13 hbx
      have HRW := Lib.hid hRW
      clear hst1 hRW hbk hownk hb14 hb4 hT4 hT3 hbx
      generalize row (setN' r (fun j => row r j &&& ~~~(1#64 <<< a)) r.length) a = x at *
      go_wp2_with fail
      refine (From_yes _ _ cg (without r a) (1#64 <<< root) H2.out _ HRW.out hTx).mono ?_
      rintro e w6 ⟨rfl, hb6⟩
      have hb16 := below_next hb15 hb6
      clear hb15 hb6 hTx
      generalize cls (without r a) (1#64 <<< root) = left at *
      have hb17 : Below w.heap.size w (w6.alloc (.cells #[.int .i64 0, .int .i64 0] 25)) := hb16.alloc hb16.size _
      have hok : allOk [0, 0] = true := rfl
      have HX : Hid (hasI come (b : Int) = has come b) := by show hasI come _ = _; unfold hasI; simp
      have HY : Hid (hasI left (b : Int) = has left b) := by show hasI left _ = _; unfold hasI; simp
      have hcs : (has left b = false) ∨ (has left b = true ∧ a = b) ∨ (has left b = true ∧ a ≠ b ∧ a = root) ∨ (has left b = true ∧ a ≠ b ∧ a ≠ root) := by
        cases has left b
        · exact .inl rfl
        · by_cases h1 : a = b
          · exact .inr (.inl ⟨rfl, h1⟩)
          · by_cases h2 : a = root
            · exact .inr (.inr (.inl ⟨rfl, h1, h2⟩))
            · exact .inr (.inr (.inr ⟨rfl, h1, h2⟩))
      rcases hcs with hy | ⟨hy, hab⟩ | ⟨hy, hab, har⟩ | ⟨hy, hab, har⟩
      · have hv0 : v = has come b := by rw [HL.out, hy]; simp
        have HXX : Hid (hasI come (b : Int) = v) := by show hasI come _ = v; rw [HX.out, hv0]
        have HYY : Hid (hasI left (b : Int) = false) := by show hasI left _ = false; rw [HY.out, hy]
        clear hv0 hy HL HX HY hok
        cases v
        all_goals
          go_wp2_with (first | (go_at_call 18; refine (has_ok _ _ _).mono ?_; rintro e w' ⟨rfl, rfl⟩; (first | rw [HXX.out] | rw [HYY.out])) | (go_at_call 21; refine (good2 _ _ w6).mono ?_; rw [show allOk [0, 0] = true from rfl]; rintro e w' ⟨rfl, rfl⟩))
          go_ret
          exact ⟨rfl, hb17⟩
      · have hv0 : v = has come b := by rw [HL.out, hy]; simp [hab]
        have HXX : Hid (hasI come (b : Int) = v) := by show hasI come _ = v; rw [HX.out, hv0]
        have HYY : Hid (hasI left (b : Int) = true) := by show hasI left _ = true; rw [HY.out, hy]
        have e1 : ((a : Int) != (b : Int)) = false := by rw [hab]; simp
        have e2 : ((a : Int) == (b : Int)) = true := by rw [hab]; simp
        clear hv0 hy HL HX HY hok hab
        cases v
        all_goals
          go_wp2_with (first | (go_at_call 18; refine (has_ok _ _ _).mono ?_; rintro e w' ⟨rfl, rfl⟩; (first | rw [HXX.out] | rw [HYY.out])) | (go_at_call 21; refine (good2 _ _ w6).mono ?_; rw [show allOk [0, 0] = true from rfl]; rintro e w' ⟨rfl, rfl⟩))
          go_ret
          exact ⟨rfl, hb17⟩
      · have hv0 : v = has come b := by rw [HL.out, hy]; simp [har]
        have HXX : Hid (hasI come (b : Int) = v) := by show hasI come _ = v; rw [HX.out, hv0]
        have HYY : Hid (hasI left (b : Int) = true) := by show hasI left _ = true; rw [HY.out, hy]
        have e1 : ((a : Int) != (b : Int)) = true := by simp; omega
        have e2 : ((a : Int) == (b : Int)) = false := by simp; omega
        have e3 : ((a : Int) != (root : Int)) = false := by rw [har]; simp
        have e4 : ((a : Int) == (root : Int)) = true := by rw [har]; simp
        clear hv0 hy HL HX HY hok hab har
        cases v
        all_goals
          go_wp2_with (first | (go_at_call 18; refine (has_ok _ _ _).mono ?_; rintro e w' ⟨rfl, rfl⟩; (first | rw [HXX.out] | rw [HYY.out])) | (go_at_call 21; refine (good2 _ _ w6).mono ?_; rw [show allOk [0, 0] = true from rfl]; rintro e w' ⟨rfl, rfl⟩))
          go_ret
          exact ⟨rfl, hb17⟩
      · have hv0 : v = false := by rw [HL.out, hy]; simp [hab, har]
        have HYY : Hid (hasI left (b : Int) = true) := by show hasI left _ = true; rw [HY.out, hy]
        have e1 : ((a : Int) != (b : Int)) = true := by simp; omega
        have e2 : ((a : Int) == (b : Int)) = false := by simp; omega
        have e3 : ((a : Int) != (root : Int)) = true := by simp; omega
        have e4 : ((a : Int) == (root : Int)) = false := by simp; omega
        subst hv0
        clear hy HL HY hok hab har
        generalize has come b = x2 at *
        cases x2
        all_goals
          go_wp2_with (first | (go_at_call 18; refine (has_ok _ _ _).mono ?_; rintro e w' ⟨rfl, rfl⟩; (first | rw [HX.out] | rw [HYY.out])) | (go_at_call 21; refine (good2 _ _ w6).mono ?_; rw [show allOk [0, 0] = true from rfl]; rintro e w' ⟨rfl, rfl⟩))
          go_ret
          exact ⟨rfl, hb17⟩
set_option maxHeartbeats 1000000 in
theorem domRules_walk (p : Option Addr) (n c : Nat) (r : List B) (root a b : Int) (w : World) (hR : RowsAt w p n r) (hT : Tab w) :
    Calls Tryd.prog 11 #[.slice p n c, .int .i64 root, .int .i64 a, .int .i64 b] w fun e w' => e = .returned (.bool true) ∧ Below w.heap.size w w' := by
  by_cases h : chkD r [root, a, b] = 0
  · obtain ⟨_, hin⟩ := chkD_in h
    obtain ⟨root, rfl⟩ := Int.eq_ofNat_of_zero_le (hin root (by simp)).1
    obtain ⟨a, rfl⟩ := Int.eq_ofNat_of_zero_le (hin a (by simp)).1
    obtain ⟨b, rfl⟩ := Int.eq_ofNat_of_zero_le (hin b (by simp)).1
    exact domRules_yes p n c r root a b h w hR hT
  · obtain ⟨h1, h2⟩ := int_ne h
    have H := Lib.hid h
    clear h
    go_enter Tryd.func11, Tryd.ntmps11
    go_wp2_with fail
    refine (doms_below w hT).mono ?_
    rintro e w1 ⟨rfl, hb1⟩
    have hR1 := hR.below hb1
    go_wp2_with fail
    refine (Rules_no p _ c r root a b H.out w1 hR1).mono ?_
    rintro e w2 ⟨rfl, hb2⟩
    have hb := below_next hb1 hb2
    clear hb1 hb2 hR hR1
    go_wp2
    go_ret
    exact ⟨rfl, hb⟩
end Go.Proofs.YtklikjjipoghlaaDoor
