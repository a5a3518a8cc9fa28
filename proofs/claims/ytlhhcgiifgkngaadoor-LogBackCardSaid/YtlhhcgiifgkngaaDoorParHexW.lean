/- The walk of strconv.ParseUint at base 16 and 64 bits. Conditions: the text is of at most 2^48 bytes; the two errors' variables hold an error or nil. -/
import Derived.Test.YtlhhcgiifgkngaaDoorHexP
import Derived.Test.YtlhhcgiifgkngaaDoorLowW
import Derived.Laws.IdiomStrings
import Derived.Lib.ConvBytes
namespace Go.Proofs.YtlhhcgiifgkngaaDoor
open Go.RowKit Go.Shelf Go.Sort
/-- the inner error of a number -/
def errI (e : Int) : Value := if e = 0 then .nilIface else .iface 216 (.int .i64 e)
theorem lower_ok (c : UInt8) (w : World) : Calls Tryd.prog 162 #[.int .u8 (c.toNat : Int)] w fun e w' => e = .returned (.int .u8 ((c ||| 32).toNat : Int)) ∧ w = w' := by
  have h : bits .or .u8 (c.toNat : Int) 32 = ((c ||| 32).toNat : Int) := by
    have key : ∀ n : Fin 256, bits .or .u8 (((UInt8.ofNat n.1).toNat : Nat) : Int) 32 = (((UInt8.ofNat n.1) ||| 32).toNat : Int) := by decide +kernel
    have := key ⟨c.toNat, c.toNat_lt⟩
    simpa using this
  go_enter Tryd.func162, Tryd.ntmps162
  go_wp2
  go_ret
  exact ⟨rfl, rfl⟩
set_option maxHeartbeats 4000000 in
set_option maxRecDepth 100000 in
theorem parI_ok (s : ByteArray) (hs : s.size ≤ 140737488355328) (w : World) :
    Calls Tryd.prog 123 #[.string s, .int .i64 16, .int .i64 64] w fun e w' => e = .returned (.tuple #[.int .u64 ((par s.data.toList).1 : Int), errI (par s.data.toList).2]) ∧ Below w.heap.size w w' := by
  by_cases h0 : s.size = 0
  · have hp : par s.data.toList = (0, 2) := by
      unfold par
      rw [if_pos (List.length_eq_zero_iff.1 (by rw [← Lib.size_eq]; exact h0))]
    have he : s = ⟨#[]⟩ := by
      apply ByteArray.ext
      exact Array.eq_empty_of_size_eq_zero h0
    rw [hp]
    subst he
    go_enter Tryd.func123, Tryd.ntmps123
    go_wp2
    go_ret2
    exact ⟨rfl, Below.refl _ _⟩
  · have HP : Hid (par s.data.toList = parGo s.data.toList 0) := by
      show _ = _
      unfold par
      rw [if_neg (fun e => h0 (by rw [Lib.size_eq, e]; rfl))]
    have hem : s.toList.isEmpty = false := by
      rw [Lib.toList_data]
      cases hl : s.data.toList with
      | nil => exact absurd (by rw [Lib.size_eq, hl]; rfl) h0
      | cons a l => rfl
    have hwr : IntKind.u64.wrap (IntKind.u64.wrap 18446744073709551616 - 1) = 18446744073709551615 := by decide
    have kcv := Lib.run_convert_string_bytes (P := Tryd.prog) w 9 149 5 s Tryd.underlying9 Tryd.underlying149 Tryd.underlying5
    obtain ⟨V, hV⟩ : ∃ V, V = Lib.bytesWorld w 5 s := ⟨_, rfl⟩
    have HV : Hid (Below w.heap.size w V) := by
      show Below _ _ _
      rw [hV]
      exact ⟨rfl, rfl, rfl, by rw [Lib.bytesWorld_size]; omega, fun k hk => Lib.bytesWorld_at_old w _ s k hk⟩
    have HCl : Hid (∀ j, j < s.size → V.cell? ⟨w.heap.size, j, none⟩ = some (.int .u8 ((s.data.toList.getD j 0).toNat : Int))) := by
      show ∀ j, _
      intro j hj
      rw [hV]
      exact Lib.bytesWorld_cell w _ s j hj
    rw [← hV] at kcv
    have HS := Lib.hid hs
    have HN := Lib.hid h0
    have hsz := Lib.size_eq s
    have HSZ := Lib.hid hsz
    clear h0 hs hV hsz
    go_enter Tryd.func123, Tryd.ntmps123
    go_upto_region 35 with fail
    clear hwr hem
    go_wp2_with fail
    go_loop [101, 13, 12] (fun i x b => ∃ (k n : Nat), k ≤ s.size ∧ i = .int .i64 ((k : Nat) : Int) ∧ x = .int .u64 ((n : Nat) : Int) ∧ b = .bool false ∧ Hid (n < 2 ^ 64 ∧ parGo (s.data.toList.drop k) n = parGo s.data.toList 0)) (fun i _ _ => s.size - (intOf i).toNat)
    case atStart => exact ⟨0, 0, Nat.zero_le _, rfl, rfl, rfl, by decide, rfl⟩
    case round =>
      obtain ⟨k, n, hk, rfl, rfl, rfl, HR⟩ := hrel
      have hsb := HS.out
      by_cases hlt : k < s.size
      · have hcell := HCl.out k hlt
        obtain ⟨c, hc⟩ : ∃ c, c = s.data.toList.getD k 0 := ⟨_, rfl⟩
        rw [← hc] at hcell
        have hdr : s.data.toList.drop k = c :: s.data.toList.drop (k + 1) := by
          have hl : k < s.data.toList.length := by rw [← HSZ.out]; exact hlt
          rw [hc, List.getD_eq_getElem?_getD, List.getElem?_eq_getElem hl, Option.getD_some, List.getElem_cons_drop]
        have HRd : Hid (parGo (c :: s.data.toList.drop (k + 1)) n = par s.data.toList) := by
          show _ = _
          rw [HP.out, ← HR.out.2, hdr]
        have HLW := Lib.hid (lower_ok c)
        have hdg : dig c = if 48 ≤ c.toNat ∧ c.toNat ≤ 57 then some (c.toNat - 48) else if 97 ≤ (c ||| 32).toNat ∧ (c ||| 32).toNat ≤ 122 then some ((c ||| 32).toNat - 87) else none := rfl
        have hn64 := HR.out.1
        have hk1 : (k : Int) < (s.size : Int) := by omega
        obtain ⟨a, ha⟩ : ∃ a, a = c.toNat := ⟨_, rfl⟩
        obtain ⟨b, hb⟩ : ∃ b, b = (c ||| 32).toNat := ⟨_, rfl⟩
        have hb256 : b < 256 := by rw [hb]; exact (c ||| 32).toNat_lt
        have HUN : ∀ P, parGo (c :: s.data.toList.drop (k + 1)) n = (match dig c with
            | none => (0, 2)
            | some d => if 16 ≤ d then (0, 2) else if 1152921504606846976 ≤ n then (18446744073709551615, 1) else parGo (s.data.toList.drop (k + 1)) (n * 16 + d)) ∨ P := fun _ => .inl rfl
        rw [← ha] at hcell hdg HLW
        rw [← hb] at hdg HLW
        have HUN2 : Hid (par s.data.toList = (match dig c with
            | none => (0, 2)
            | some d => if 16 ≤ d then (0, 2) else if 1152921504606846976 ≤ n then (18446744073709551615, 1) else parGo (s.data.toList.drop (k + 1)) (n * 16 + d))) := HRd.out.symm
        clear HUN hdr hc ha hb HRd
        by_cases h1 : 48 ≤ a ∧ a ≤ 57
        · have HD : Hid (dig c = some (a - 48)) := by show _ = _; rw [hdg, if_pos h1]
          have ha1 : (48 : Int) ≤ (a : Int) := by omega
          have ha2 : (a : Int) ≤ 57 := by omega
          have ha3 : ¬ (a : Int) = 95 := by omega
          have hw : IntKind.u8.wrap ((a : Int) - 48) = ((a - 48 : Nat) : Int) := by
            rw [IntKind.wrap_u8]
            omega
          have hd9 : a - 48 ≤ 9 := by omega
          clear hdg h1
          obtain ⟨d, hd⟩ : ∃ d, d = a - 48 := ⟨_, rfl⟩
          rw [← hd] at HD hw
          have hd16 : d < 16 := by omega
          have hdI : (d : Int) < 16 := by omega
          have HDD := Lib.hid hd
          clear hd
          have HUN3 : Hid (par s.data.toList = if 1152921504606846976 ≤ n then (18446744073709551615, 1) else parGo (s.data.toList.drop (k + 1)) (n * 16 + d)) := by
            show _ = _
            rw [HUN2.out, HD.out]
            simp only
            rw [if_neg (by omega)]
          by_cases hn60 : 1152921504606846976 ≤ n
          · have hn6 : (1152921504606846976 : Int) ≤ (n : Int) := by omega
            have HE : Hid (par s.data.toList = (18446744073709551615, 1)) := by show _ = _; rw [HUN3.out, if_pos hn60]
            clear hn60
            go_wp2
            go_ret2
            rw [HE.out]
            exact ⟨by simp only [errI]; rfl, HV.out⟩
          · have hn6 : (n : Int) < 1152921504606846976 := by omega
            have hw16 : IntKind.u64.wrap ((n : Int) * 16) = (n : Int) * 16 := by rw [IntKind.wrap_u64]; omega
            have hw17 : IntKind.u64.wrap ((n : Int) * 16 + (d : Int)) = (n : Int) * 16 + (d : Int) := by rw [IntKind.wrap_u64]; omega
            have hg1 : ¬ ((n : Int) * 16 + (d : Int) < (n : Int) * 16) := by omega
            have hg2 : ¬ ((18446744073709551615 : Int) < (n : Int) * 16 + (d : Int)) := by omega
            have HE : Hid (n * 16 + d < 2 ^ 64 ∧ parGo (s.data.toList.drop (k + 1)) (n * 16 + d) = parGo s.data.toList 0) := by
              show _ ∧ _
              refine ⟨by omega, ?_⟩
              rw [← HP.out, HUN3.out, if_neg hn60]
            have hn8 : decide ((1152921504606846976 : Int) ≤ (n : Int)) = false := decide_eq_false (by omega)
            have hn9 : ¬ (1152921504606846976 : Int) ≤ (n : Int) := by omega
            clear hn60 hn64 hn6
            go_wp2
            go_round
            case rel => exact ⟨k + 1, n * 16 + d, by omega, by go_num, (by first | (simp; done) | (have := HDD.out; simp; omega)), rfl, HE.out⟩
            case measure => simp [intOf]; omega
        · have HLW2 : Hid (∀ (x : Int), x = (a : Int) → ∀ u, Calls Tryd.prog 162 #[.int .u8 x] u fun e w' => e = .returned (.int .u8 (b : Int)) ∧ u = w') := by
            show ∀ x, _
            rintro x rfl
            exact HLW.out
          have ha1 : (48 : Int) ≤ (a : Int) → ¬ ((a : Int) ≤ 57) := by omega
          by_cases hb1 : (97 : Int) ≤ (b : Int)
          · by_cases hb2 : (b : Int) ≤ 122
            · have HD : Hid (dig c = some (b - 87)) := by show _ = _; rw [hdg, if_neg h1, if_pos (by omega)]
              have hw : IntKind.u8.wrap (IntKind.u8.wrap ((b : Int) - 97) + 10) = ((b - 87 : Nat) : Int) := by
                rw [IntKind.wrap_u8, IntKind.wrap_u8]
                omega
              clear hdg
              by_cases hd16b : b - 87 < 16
              · skip
                by_cases hx : (48 : Int) ≤ (a : Int)
                · have hx2 : ¬ ((a : Int) ≤ 57) := ha1 hx
                  clear ha1 h1
                  by_cases h95 : (a : Int) = 95
                  · clear hx hx2
                    have hx : (48 : Int) ≤ 95 := by decide
                    go_upto_region 46 with (go_at_call 162; refine (HLW2.out _ (by omega) _).mono ?_; rintro e w' ⟨rfl, rfl⟩)
                    obtain ⟨d, hd⟩ : ∃ d, d = b - 87 := ⟨_, rfl⟩
                    rw [← hd] at HD hw
                    have hd16 : d < 16 := by omega
                    have hdI : (d : Int) < 16 := by omega
                    have HDD := Lib.hid hd
                    clear hd
                    have HUN3 : Hid (par s.data.toList = if 1152921504606846976 ≤ n then (18446744073709551615, 1) else parGo (s.data.toList.drop (k + 1)) (n * 16 + d)) := by
                      show _ = _
                      rw [HUN2.out, HD.out]
                      simp only
                      rw [if_neg (by omega)]
                    by_cases hn60 : 1152921504606846976 ≤ n
                    · have hn6 : (1152921504606846976 : Int) ≤ (n : Int) := by omega
                      have HE : Hid (par s.data.toList = (18446744073709551615, 1)) := by show _ = _; rw [HUN3.out, if_pos hn60]
                      clear hn60
                      go_wp2
                      go_ret2
                      rw [HE.out]
                      exact ⟨by simp only [errI]; rfl, HV.out⟩
                    · have hn6 : (n : Int) < 1152921504606846976 := by omega
                      have hw16 : IntKind.u64.wrap ((n : Int) * 16) = (n : Int) * 16 := by rw [IntKind.wrap_u64]; omega
                      have hw17 : IntKind.u64.wrap ((n : Int) * 16 + (d : Int)) = (n : Int) * 16 + (d : Int) := by rw [IntKind.wrap_u64]; omega
                      have hg1 : ¬ ((n : Int) * 16 + (d : Int) < (n : Int) * 16) := by omega
                      have hg2 : ¬ ((18446744073709551615 : Int) < (n : Int) * 16 + (d : Int)) := by omega
                      have HE : Hid (n * 16 + d < 2 ^ 64 ∧ parGo (s.data.toList.drop (k + 1)) (n * 16 + d) = parGo s.data.toList 0) := by
                        show _ ∧ _
                        refine ⟨by omega, ?_⟩
                        rw [← HP.out, HUN3.out, if_neg hn60]
                      have hn8 : decide ((1152921504606846976 : Int) ≤ (n : Int)) = false := decide_eq_false (by omega)
                      have hn9 : ¬ (1152921504606846976 : Int) ≤ (n : Int) := by omega
                      clear hn60 hn64 hn6
                      go_wp2
                      go_round
                      case rel => exact ⟨k + 1, n * 16 + d, by omega, by go_num, (by first | (simp; done) | (have := HDD.out; simp; omega)), rfl, HE.out⟩
                      case measure => simp [intOf]; omega
                  · skip
                    go_upto_region 46 with (go_at_call 162; refine (HLW2.out _ (by omega) _).mono ?_; rintro e w' ⟨rfl, rfl⟩)
                    obtain ⟨d, hd⟩ : ∃ d, d = b - 87 := ⟨_, rfl⟩
                    rw [← hd] at HD hw
                    have hd16 : d < 16 := by omega
                    have hdI : (d : Int) < 16 := by omega
                    have HDD := Lib.hid hd
                    clear hd
                    have HUN3 : Hid (par s.data.toList = if 1152921504606846976 ≤ n then (18446744073709551615, 1) else parGo (s.data.toList.drop (k + 1)) (n * 16 + d)) := by
                      show _ = _
                      rw [HUN2.out, HD.out]
                      simp only
                      rw [if_neg (by omega)]
                    by_cases hn60 : 1152921504606846976 ≤ n
                    · have hn6 : (1152921504606846976 : Int) ≤ (n : Int) := by omega
                      have HE : Hid (par s.data.toList = (18446744073709551615, 1)) := by show _ = _; rw [HUN3.out, if_pos hn60]
                      clear hn60
                      go_wp2
                      go_ret2
                      rw [HE.out]
                      exact ⟨by simp only [errI]; rfl, HV.out⟩
                    · have hn6 : (n : Int) < 1152921504606846976 := by omega
                      have hw16 : IntKind.u64.wrap ((n : Int) * 16) = (n : Int) * 16 := by rw [IntKind.wrap_u64]; omega
                      have hw17 : IntKind.u64.wrap ((n : Int) * 16 + (d : Int)) = (n : Int) * 16 + (d : Int) := by rw [IntKind.wrap_u64]; omega
                      have hg1 : ¬ ((n : Int) * 16 + (d : Int) < (n : Int) * 16) := by omega
                      have hg2 : ¬ ((18446744073709551615 : Int) < (n : Int) * 16 + (d : Int)) := by omega
                      have HE : Hid (n * 16 + d < 2 ^ 64 ∧ parGo (s.data.toList.drop (k + 1)) (n * 16 + d) = parGo s.data.toList 0) := by
                        show _ ∧ _
                        refine ⟨by omega, ?_⟩
                        rw [← HP.out, HUN3.out, if_neg hn60]
                      have hn8 : decide ((1152921504606846976 : Int) ≤ (n : Int)) = false := decide_eq_false (by omega)
                      have hn9 : ¬ (1152921504606846976 : Int) ≤ (n : Int) := by omega
                      clear hn60 hn64 hn6
                      go_wp2
                      go_round
                      case rel => exact ⟨k + 1, n * 16 + d, by omega, by go_num, (by first | (simp; done) | (have := HDD.out; simp; omega)), rfl, HE.out⟩
                      case measure => simp [intOf]; omega
                · have h95 : ¬ ((a : Int) = 95) := by omega
                  clear ha1 h1
                  go_upto_region 46 with (go_at_call 162; refine (HLW2.out _ (by omega) _).mono ?_; rintro e w' ⟨rfl, rfl⟩)
                  obtain ⟨d, hd⟩ : ∃ d, d = b - 87 := ⟨_, rfl⟩
                  rw [← hd] at HD hw
                  have hd16 : d < 16 := by omega
                  have hdI : (d : Int) < 16 := by omega
                  have HDD := Lib.hid hd
                  clear hd
                  have HUN3 : Hid (par s.data.toList = if 1152921504606846976 ≤ n then (18446744073709551615, 1) else parGo (s.data.toList.drop (k + 1)) (n * 16 + d)) := by
                    show _ = _
                    rw [HUN2.out, HD.out]
                    simp only
                    rw [if_neg (by omega)]
                  by_cases hn60 : 1152921504606846976 ≤ n
                  · have hn6 : (1152921504606846976 : Int) ≤ (n : Int) := by omega
                    have HE : Hid (par s.data.toList = (18446744073709551615, 1)) := by show _ = _; rw [HUN3.out, if_pos hn60]
                    clear hn60
                    go_wp2
                    go_ret2
                    rw [HE.out]
                    exact ⟨by simp only [errI]; rfl, HV.out⟩
                  · have hn6 : (n : Int) < 1152921504606846976 := by omega
                    have hw16 : IntKind.u64.wrap ((n : Int) * 16) = (n : Int) * 16 := by rw [IntKind.wrap_u64]; omega
                    have hw17 : IntKind.u64.wrap ((n : Int) * 16 + (d : Int)) = (n : Int) * 16 + (d : Int) := by rw [IntKind.wrap_u64]; omega
                    have hg1 : ¬ ((n : Int) * 16 + (d : Int) < (n : Int) * 16) := by omega
                    have hg2 : ¬ ((18446744073709551615 : Int) < (n : Int) * 16 + (d : Int)) := by omega
                    have HE : Hid (n * 16 + d < 2 ^ 64 ∧ parGo (s.data.toList.drop (k + 1)) (n * 16 + d) = parGo s.data.toList 0) := by
                      show _ ∧ _
                      refine ⟨by omega, ?_⟩
                      rw [← HP.out, HUN3.out, if_neg hn60]
                    have hn8 : decide ((1152921504606846976 : Int) ≤ (n : Int)) = false := decide_eq_false (by omega)
                    have hn9 : ¬ (1152921504606846976 : Int) ≤ (n : Int) := by omega
                    clear hn60 hn64 hn6
                    go_wp2
                    go_round
                    case rel => exact ⟨k + 1, n * 16 + d, by omega, by go_num, (by first | (simp; done) | (have := HDD.out; simp; omega)), rfl, HE.out⟩
                    case measure => simp [intOf]; omega
              · have HE : Hid (par s.data.toList = (0, 2)) := by
                  show _ = _
                  rw [HUN2.out, HD.out]
                  simp only
                  rw [if_pos (by omega)]
                have hdI2 : (16 : Int) ≤ ((b - 87 : Nat) : Int) := by omega
                by_cases hx : (48 : Int) ≤ (a : Int)
                · have hx2 : ¬ ((a : Int) ≤ 57) := ha1 hx
                  clear ha1 h1
                  by_cases h95 : (a : Int) = 95
                  · clear hx hx2
                    have hx : (48 : Int) ≤ 95 := by decide
                    go_wp2_with (go_at_call 162; refine (HLW2.out _ (by omega) _).mono ?_; rintro e w' ⟨rfl, rfl⟩)
                    go_ret2
                    rw [HE.out]
                    exact ⟨rfl, HV.out⟩
                  · skip
                    go_wp2_with (go_at_call 162; refine (HLW2.out _ (by omega) _).mono ?_; rintro e w' ⟨rfl, rfl⟩)
                    go_ret2
                    rw [HE.out]
                    exact ⟨rfl, HV.out⟩
                · have h95 : ¬ ((a : Int) = 95) := by omega
                  clear ha1 h1
                  go_wp2_with (go_at_call 162; refine (HLW2.out _ (by omega) _).mono ?_; rintro e w' ⟨rfl, rfl⟩)
                  go_ret2
                  rw [HE.out]
                  exact ⟨rfl, HV.out⟩
            · have HE : Hid (par s.data.toList = (0, 2)) := by
                show _ = _
                rw [HUN2.out, hdg, if_neg h1, if_neg (by omega)]
              clear hdg
              by_cases hx : (48 : Int) ≤ (a : Int)
              · have hx2 : ¬ ((a : Int) ≤ 57) := ha1 hx
                clear ha1 h1
                by_cases h95 : (a : Int) = 95
                · clear hx hx2
                  have hx : (48 : Int) ≤ 95 := by decide
                  go_wp2_with (go_at_call 162; refine (HLW2.out _ (by omega) _).mono ?_; rintro e w' ⟨rfl, rfl⟩)
                  go_ret2
                  rw [HE.out]
                  exact ⟨rfl, HV.out⟩
                · skip
                  go_wp2_with (go_at_call 162; refine (HLW2.out _ (by omega) _).mono ?_; rintro e w' ⟨rfl, rfl⟩)
                  go_ret2
                  rw [HE.out]
                  exact ⟨rfl, HV.out⟩
              · have h95 : ¬ ((a : Int) = 95) := by omega
                clear ha1 h1
                go_wp2_with (go_at_call 162; refine (HLW2.out _ (by omega) _).mono ?_; rintro e w' ⟨rfl, rfl⟩)
                go_ret2
                rw [HE.out]
                exact ⟨rfl, HV.out⟩
          · have HE : Hid (par s.data.toList = (0, 2)) := by
              show _ = _
              rw [HUN2.out, hdg, if_neg h1, if_neg (by omega)]
            clear hdg
            by_cases hx : (48 : Int) ≤ (a : Int)
            · have hx2 : ¬ ((a : Int) ≤ 57) := ha1 hx
              clear ha1 h1
              by_cases h95 : (a : Int) = 95
              · clear hx hx2
                have hx : (48 : Int) ≤ 95 := by decide
                go_wp2_with (go_at_call 162; refine (HLW2.out _ (by omega) _).mono ?_; rintro e w' ⟨rfl, rfl⟩)
                go_ret2
                rw [HE.out]
                exact ⟨rfl, HV.out⟩
              · skip
                go_wp2_with (go_at_call 162; refine (HLW2.out _ (by omega) _).mono ?_; rintro e w' ⟨rfl, rfl⟩)
                go_ret2
                rw [HE.out]
                exact ⟨rfl, HV.out⟩
            · have h95 : ¬ ((a : Int) = 95) := by omega
              clear ha1 h1
              go_wp2_with (go_at_call 162; refine (HLW2.out _ (by omega) _).mono ?_; rintro e w' ⟨rfl, rfl⟩)
              go_ret2
              rw [HE.out]
              exact ⟨rfl, HV.out⟩
      · obtain rfl : k = s.size := by omega
        have HE : Hid (par s.data.toList = (n, 0)) := by
          show _ = _
          rw [HP.out, ← HR.out.2, HSZ.out, List.drop_length]
          rfl
        go_wp2
        go_ret2
        rw [HE.out]
        exact ⟨rfl, HV.out⟩
end Go.Proofs.YtlhhcgiifgkngaaDoor
