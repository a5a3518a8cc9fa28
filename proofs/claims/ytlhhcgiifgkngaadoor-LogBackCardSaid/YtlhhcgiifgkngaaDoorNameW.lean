/- The walks through name.sign, name.Check and name.Stem. Conditions: texts shorter than 2^62 bytes. -/
import Derived.Test.YtlhhcgiifgkngaaDoorStrs
import Derived.Test.YtlhhcgiifgkngaaDoorShelf
namespace Go.Proofs.YtlhhcgiifgkngaaDoor
open Go.RowKit
/-- may a byte stand in a name? -/
def signC (c : UInt8) : Bool := (97 ≤ c.toNat && c.toNat ≤ 122) || (65 ≤ c.toNat && c.toNat ≤ 90) || (48 ≤ c.toNat && c.toNat ≤ 57) || decide (0 ≤ Lib.indexByte [95, 46, 47, 45, 43] c)
theorem signC_at {c : UInt8} {z : Int} (hz : Lib.indexByte [95, 46, 47, 45, 43] c = z) : (c.toNat < 48 ∧ signC c = decide (0 ≤ z)) ∨ (48 ≤ c.toNat ∧ c.toNat ≤ 57 ∧ signC c = true) ∨ (58 ≤ c.toNat ∧ c.toNat ≤ 64 ∧ signC c = decide (0 ≤ z)) ∨ (65 ≤ c.toNat ∧ c.toNat ≤ 90 ∧ signC c = true) ∨ (91 ≤ c.toNat ∧ c.toNat ≤ 96 ∧ signC c = decide (0 ≤ z)) ∨ (97 ≤ c.toNat ∧ c.toNat ≤ 122 ∧ signC c = true) ∨ (123 ≤ c.toNat ∧ signC c = decide (0 ≤ z)) := by
  have key : ∀ n : Nat, n = c.toNat → signC c = (((decide (97 ≤ n) && decide (n ≤ 122)) || (decide (65 ≤ n) && decide (n ≤ 90))) || (decide (48 ≤ n) && decide (n ≤ 57)) || decide (0 ≤ z)) := by
    intro n hn
    subst hn
    unfold signC
    rw [hz]
  have hk := key _ rfl
  generalize c.toNat = n at *
  rcases Nat.lt_or_ge n 48 with h | h
  · exact .inl ⟨h, by rw [hk, decide_eq_false (show ¬ 97 ≤ n by omega), decide_eq_false (show ¬ 65 ≤ n by omega), decide_eq_false (show ¬ 48 ≤ n by omega)]; rfl⟩
  rcases Nat.lt_or_ge n 58 with h2 | h2
  · exact .inr (.inl ⟨h, by omega, by rw [hk, decide_eq_true (show 48 ≤ n by omega), decide_eq_true (show n ≤ 57 by omega)]; simp⟩)
  rcases Nat.lt_or_ge n 65 with h3 | h3
  · exact .inr (.inr (.inl ⟨h2, by omega, by rw [hk, decide_eq_false (show ¬ 97 ≤ n by omega), decide_eq_false (show ¬ 65 ≤ n by omega), decide_eq_false (show ¬ n ≤ 57 by omega)]; simp⟩))
  rcases Nat.lt_or_ge n 91 with h4 | h4
  · exact .inr (.inr (.inr (.inl ⟨h3, by omega, by rw [hk, decide_eq_true (show 65 ≤ n by omega), decide_eq_true (show n ≤ 90 by omega)]; simp⟩)))
  rcases Nat.lt_or_ge n 97 with h5 | h5
  · exact .inr (.inr (.inr (.inr (.inl ⟨h4, by omega, by rw [hk, decide_eq_false (show ¬ 97 ≤ n by omega), decide_eq_false (show ¬ n ≤ 90 by omega), decide_eq_false (show ¬ n ≤ 57 by omega)]; simp⟩))))
  rcases Nat.lt_or_ge n 123 with h6 | h6
  · exact .inr (.inr (.inr (.inr (.inr (.inl ⟨h5, by omega, by rw [hk, decide_eq_true (show 97 ≤ n by omega), decide_eq_true (show n ≤ 122 by omega)]; simp⟩)))))
  · exact .inr (.inr (.inr (.inr (.inr (.inr ⟨h6, by rw [hk, decide_eq_false (show ¬ n ≤ 122 by omega), decide_eq_false (show ¬ n ≤ 90 by omega), decide_eq_false (show ¬ n ≤ 57 by omega)]; simp⟩)))))
set_option maxHeartbeats 2000000 in
theorem sign_ok (c : UInt8) (w : World) : Calls Tryd.prog 144 #[.int .u8 (c.toNat : Int)] w fun e w' => e = .returned (.bool (signC c)) ∧ w = w' := by
  have HBB := Lib.hid (byte_back c)
  obtain ⟨z, hz⟩ : ∃ z, Lib.indexByte [95, 46, 47, 45, 43] c = z := ⟨_, rfl⟩
  have hz0 := (indexByte_ge [95, 46, 47, 45, 43] c).1
  rw [hz] at hz0
  have HZ := Lib.hid hz
  have hcs := signC_at hz
  have hct := c.toNat_lt
  clear hz
  rcases hcs with ⟨h1, hv⟩ | ⟨h1, h2, hv⟩ | ⟨h1, h2, hv⟩ | ⟨h1, h2, hv⟩ | ⟨h1, h2, hv⟩ | ⟨h1, h2, hv⟩ | ⟨h1, hv⟩
  all_goals
    have HV := Lib.hid hv
    clear hv
    go_enter Tryd.func144, Tryd.ntmps144
    go_wp2_with (go_at_call 133; refine (Tryd.strings_IndexByte _ _ _).mono ?_; rw [HBB.out]; rintro e w' ⟨he, rfl⟩; replace he : e = .returned (.int .i64 z) := he.trans (congrArg (fun x => Ending.returned (.int .i64 x)) HZ.out); subst he)
    go_ret
    exact ⟨by rw [HV.out]; rfl, rfl⟩
/-- the error of a name -/
def nameE (s : ByteArray) : Int := if s.size = 0 ∨ 40 < s.size then 3 else if s.data.toList.all signC then 0 else 3
theorem empty_eq {s : ByteArray} (h : s.size = 0) : s = ⟨#[]⟩ := by
  cases s with
  | mk d =>
    congr 1
    exact Array.size_eq_zero_iff.1 h
set_option maxHeartbeats 2000000 in
theorem CheckN_ok (s : ByteArray) (hs : s.size ≤ 4611686018427387904) (w : World) : Calls Tryd.prog 104 #[.string s] w fun e w' => e = .returned (.int .i64 (nameE s)) ∧ w = w' := by
  have hsl := ba_len s
  by_cases h0 : s.size = 0
  · have HV : Hid (nameE s = 3) := by show nameE s = 3; unfold nameE; rw [if_pos (.inl h0)]
    have he := empty_eq h0
    subst he
    clear h0 hsl
    go_enter Tryd.func104, Tryd.ntmps104
    go_wp2
    go_ret
    exact ⟨by rw [HV.out]; rfl, rfl⟩
  · have hb : (s.toList == ([] : List UInt8)) = false := by
      rw [Lib.toList_data, beq_eq_false_iff_ne]
      intro e
      rw [e] at hsl
      simp at hsl
      omega
    have hb2 : (s.toList == (⟨#[]⟩ : ByteArray).toList) = false := by
      rw [Lib.toList_data (⟨#[]⟩ : ByteArray)]; exact hb
    have HSL := Lib.hid hsl
    clear hsl
    by_cases h1 : 40 < s.size
    · have HV : Hid (nameE s = 3) := by show nameE s = 3; unfold nameE; rw [if_pos (.inr h1)]
      go_enter Tryd.func104, Tryd.ntmps104
      go_wp2
      go_ret
      exact ⟨by rw [HV.out]; rfl, rfl⟩
    · have HV : Hid (nameE s = if s.data.toList.all signC then 0 else 3) := by show nameE s = _; unfold nameE; rw [if_neg (by omega)]
      clear h0
      go_enter Tryd.func104, Tryd.ntmps104
      go_wp2_with fail
      go_loopw [13] (fun i wr => ∃ k : Nat, k ≤ s.size ∧ i = .int .i64 k ∧ Hid ((s.data.toList.take k).all signC = true) ∧ wr = w) (fun i _ => s.size - (intOf i).toNat)
      case atStart => exact ⟨0, Nat.zero_le _, rfl, rfl, rfl⟩
      case round =>
        obtain ⟨k, hk, rfl, HA, rfl⟩ := hrel
        by_cases hlt : k < s.size
        · obtain ⟨c, hc⟩ : ∃ c, s[k] = c := ⟨_, rfl⟩
          have hl : s.data.toList[k]? = some c := by rw [ba_at hlt, hc]
          have HC : Hid (signC c = true → (s.data.toList.take (k + 1)).all signC = true) := by
            show _ → _
            intro h
            rw [List.take_add_one, hl, List.all_append, HA.out]
            simp [h]
          have HN : Hid (signC c = false → s.data.toList.all signC = false) := by
            show _ → _
            intro h
            rw [List.all_eq_false]
            exact ⟨c, List.mem_of_getElem? hl, by rw [h]; decide⟩
          clear hl
          cases hsg : signC c
          · have HSG := Lib.hid hsg
            have HF := Lib.hid (HN.out hsg)
            clear hsg HC HN
            go_wp2_with (go_at_call 144; refine (sign_ok c _).mono ?_; rw [HSG.out]; rintro e w' ⟨rfl, rfl⟩)
            go_ret
            exact ⟨by rw [HV.out, HF.out]; rfl, rfl⟩
          · have HSG := Lib.hid hsg
            have HT := Lib.hid (HC.out hsg)
            clear hsg HC HN
            go_wp2_with (go_at_call 144; refine (sign_ok c _).mono ?_; rw [HSG.out]; rintro e w' ⟨rfl, rfl⟩)
            go_roundw
            case rel => exact ⟨k + 1, by omega, by go_num, HT.out, trivial⟩
            case measure => simp [intOf]; omega
        · obtain rfl : k = s.size := by omega
          have HF : Hid (s.data.toList.all signC = true) := by
            show _ = _
            have := HA.out
            rw [← HSL.out, List.take_length] at this
            exact this
          go_wp2
          go_ret
          exact ⟨by rw [HV.out, HF.out]; rfl, rfl⟩
theorem nameE_cases (s : ByteArray) : nameE s = 0 ∨ nameE s = 3 := by unfold nameE; split; (· exact .inr rfl); (· split; (· exact .inl rfl); (· exact .inr rfl))
end Go.Proofs.YtlhhcgiifgkngaaDoor
