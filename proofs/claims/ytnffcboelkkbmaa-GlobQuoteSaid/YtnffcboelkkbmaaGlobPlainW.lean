/- The walks through glob.Plain and the law GlobQuote. Conditions: texts shorter than 2^62 bytes. -/
import Derived.Test.YtnffcboelkkbmaaGlobQuoteW
namespace Go.Proofs.Ytnffcboelkkbmaa
open Go.RowKit
theorem ba_at' {q : ByteArray} {l : Txt} {k : Nat} {c : UInt8} (hq : q.data.toList = l) (h : l[k]? = some c) : ∃ h0 : k < q.size, q[k] = c := by
  have h0 : k < q.size := by
    rw [← ba_len, hq]
    exact (List.getElem?_eq_some_iff.1 h).1
  exact ⟨h0, ba_get h0 (by rw [hq]; exact h)⟩
theorem take_byte {l : Txt} {k : Nat} {c : UInt8} (h : l[k]? = some c) : l.take (k + 1) = l.take k ++ [c] := by rw [List.take_add_one, h]; rfl
theorem pE_quo {l : Txt} (h : (quo l).length ≤ 60) : pE (quo l) = 0 := by
  unfold pE
  rw [if_neg (by omega), prs_quo]; rfl
theorem not_spec {c : UInt8} (h : specC c = false) : ((c.toNat : Int) == 42) = false ∧ ((c.toNat : Int) == 63) = false ∧ ((c.toNat : Int) == 91) = false ∧ ((c.toNat : Int) == 92) = false := by
  have key : ∀ d : UInt8, specC d = true → ((c.toNat : Int) == (d.toNat : Int)) = false := by
    intro d hd
    refine beq_eq_false_iff_ne.2 fun e => ?_
    have : c = d := UInt8.toNat_inj.1 (by omega)
    rw [this, hd] at h; cases h
  exact ⟨key 42 (by decide), key 63 (by decide), key 91 (by decide), key 92 (by decide)⟩
set_option maxHeartbeats 4000000 in
theorem Plain_ok (q s : ByteArray) (hq : q.data.toList = quo s.data.toList) (h60 : (quo s.data.toList).length ≤ 60) (w : World) :
    Calls Try.prog 27 #[.string q] w fun e w' => e = .returned (.tuple #[.string s, .bool true]) ∧ Below w.heap.size w w' := by
  have hql : q.size = (quo s.data.toList).length := by rw [← ba_len, hq]
  have hpe : pE q.data.toList = 0 := by rw [hq]; exact pE_quo h60
  have HPE := Lib.hid hpe
  have HQ := Lib.hid hq
  have hsl := ba_len s
  have HSL := Lib.hid hsl
  have hge := quo_ge s.data.toList
  rw [hsl] at hge
  have HQL := Lib.hid hql
  have h60' : q.size ≤ 60 := by omega
  have hs60 : s.size ≤ 60 := by omega
  clear hpe hq hsl hge hql
  go_enter Try.func27, Try.ntmps27
  go_wp2_with fail
  refine (CheckG_ok q (by omega) w).mono ?_
  rw [HPE.out]
  rintro e w1 ⟨rfl, hb1⟩
  have hB0 := Lib.fresh_isBuilder 70 5 w1
  have hb0 : Below w1.heap.size w1 (w1.alloc (.cells #[.pointer none, .slice none 0 0] 70)) := (Below.refl _ _).alloc (Nat.le_refl _) _
  have hsz1 := hb1.size
  go_wp2_with fail
  go_loopw [5] (fun i wr => ∃ (k z : Nat), k ≤ s.size ∧ i = .int .i64 z ∧ Hid ((quo (s.data.toList.take k)).length = z) ∧ Lib.IsBuilder 70 5 w1.heap.size w1.heap.size (Lib.byteCells (s.data.toList.take k)) wr ∧ Below w1.heap.size w1 wr) (fun i _ => q.size - (intOf i).toNat)
  case atStart => exact ⟨0, 0, Nat.zero_le _, rfl, rfl, hB0, hb0⟩
  case round =>
    obtain ⟨k, z, hk, rfl, HZ, hB, hbr⟩ := hrel
    obtain ⟨wo, rfl⟩ : ∃ wo : World, wo = wr := ⟨_, rfl⟩
    have hszr := hbr.size
    clear hB0 hb0
    by_cases hlt : k < s.size
    · obtain ⟨c, hc⟩ : ∃ c, s[k] = c := ⟨_, rfl⟩
      have hl : s.data.toList[k]? = some c := by rw [ba_at hlt, hc]
      obtain ⟨hat1, hat2⟩ := quo_at hl
      have hone := quo_one hl
      have htk := take_byte hl
      have hct := c.toNat_lt
      have HB := Lib.hid hB
      have HBR := Lib.hid hbr
      have HTK := Lib.hid htk
      have hlen : (Lib.byteCells (s.data.toList.take k)).length ≤ 60 := by rw [Lib.byteCells_length, List.length_take]; omega
      have HLEN := Lib.hid hlen
      rw [HZ.out] at hat1 hat2
      clear hl hB hbr hc htk hlen
      cases hsp : specC c
      · obtain ⟨h0, hqc⟩ := ba_at' HQ.out (hat2 hsp)
        obtain ⟨e1, e2, e3, e4⟩ := not_spec hsp
        have HZ2 : Hid ((quo (s.data.toList.take (k + 1))).length = z + 1) := by
          show _ = _
          rw [hone, hsp, List.length_append, HZ.out]; rfl
        clear hat1 hat2 hone hsp HQ HQL
        go_wp2_with fail
        refine (Try.Builder_WriteByte_b w1.heap.size w1.heap.size _ (c.toNat : Int) _ HB.out (by have := HLEN.out; omega) hszr).mono ?_
        rintro e w3 ⟨rfl, hB3, hb3⟩
        have HI3 : Hid (Lib.IsBuilder 70 5 w1.heap.size w1.heap.size (Lib.byteCells (s.data.toList.take (k + 1))) w3) := by
          show Lib.IsBuilder _ _ _ _ _ _
          rw [HTK.out, Lib.byteCells_append]; exact .inr hB3
        have HB3 := Lib.hid (HBR.out.trans hb3)
        clear hb3 hB3
        go_wp2
        go_roundw
        case rel => exact ⟨k + 1, z + 1, by omega, by go_num, HZ2.out, HI3.out, HB3.out⟩
        case measure => simp [intOf]; omega
      · obtain ⟨hs1, hs2⟩ := hat1 hsp
        obtain ⟨h0, hqc⟩ := ba_at' HQ.out hs1
        obtain ⟨h1, hqd⟩ := ba_at' HQ.out hs2
        have HZ2 : Hid ((quo (s.data.toList.take (k + 1))).length = z + 2) := by
          show _ = _
          rw [hone, hsp, List.length_append, HZ.out]; rfl
        clear hat1 hat2 hone hsp HQ HQL hs1 hs2
        go_wp2_with fail
        refine (Try.Builder_WriteByte_b w1.heap.size w1.heap.size _ (c.toNat : Int) _ HB.out (by have := HLEN.out; omega) hszr).mono ?_
        rintro e w3 ⟨rfl, hB3, hb3⟩
        have HI3 : Hid (Lib.IsBuilder 70 5 w1.heap.size w1.heap.size (Lib.byteCells (s.data.toList.take (k + 1))) w3) := by
          show Lib.IsBuilder _ _ _ _ _ _
          rw [HTK.out, Lib.byteCells_append]; exact .inr hB3
        have HB3 := Lib.hid (HBR.out.trans hb3)
        clear hb3 hB3
        go_wp2
        go_roundw
        case rel => exact ⟨k + 1, z + 2, by omega, by go_num, HZ2.out, HI3.out, HB3.out⟩
        case measure => simp [intOf]; omega
    · obtain rfl : k = s.size := by omega
      have HTK : Hid (s.data.toList.take s.size = s.data.toList) := by show _ = _; rw [← HSL.out, List.take_length]
      rw [HTK.out] at hB
      have hz := HZ.out
      rw [HTK.out] at hz
      have hzq : z = q.size := by have := HQL.out; omega
      subst hzq
      have HB := Lib.hid hB
      have HBR := Lib.hid hbr
      clear hB hbr hz HZ HQL
      go_wp2_with fail
      refine (Try.Builder_String_any w1.heap.size w1.heap.size _ _ HB.out hszr).mono ?_
      rintro e w3 ⟨rfl, hb3⟩
      have HB3 := Lib.hid (hb1.trans ((HBR.out.trans hb3).mono hsz1))
      have HSS : Hid ((⟨s.data.toList.toArray⟩ : ByteArray) = s) := by show _ = _; cases s; simp
      rw [HSS.out]
      clear hb3
      go_wp2
      go_ret2
      exact ⟨rfl, HB3.out⟩
theorem m_quo {l : Txt} (h : (quo l).length ≤ 60) (t : Txt) : mB (quo l) t = (if 2000 < t.length then false else decide (l = t)) ∧ mE (quo l) t = if 2000 < t.length then 2 else 0 := by
  obtain ⟨h1, h2⟩ := m_good h (prs_quo l) t
  rw [mt_singles] at h1
  exact ⟨h1, h2⟩
theorem ba_ext {s t : ByteArray} (h : s.data.toList = t.data.toList) : s = t := by
  cases s; cases t
  congr 1
  exact Array.toList_inj.1 h
set_option maxHeartbeats 4000000 in
theorem globQuote_walk (s t : ByteArray) (hs : s.size ≤ 4611686018427387904) (ht : t.size ≤ 4611686018427387904) (w : World) :
    Calls Try.prog 10 #[.string s, .string t] w fun e w' => e = .returned (.bool true) ∧ Below w.heap.size w w' := by
  go_enter Try.func10, Try.ntmps10
  go_wp2_with fail
  refine (globs_below w).mono ?_
  rintro e w1 ⟨rfl, hb1⟩
  have hsz1 := hb1.size
  go_wp2_with fail
  refine (Quote_ok s hs w1).mono ?_
  rintro e w2 ⟨hb2, ⟨_, rfl⟩ | ⟨h60, rfl⟩⟩
  · have HB := Lib.hid (hb1.trans (hb2.mono hsz1))
    clear hb1 hb2
    go_wp2
    go_ret
    exact ⟨by simp, HB.out⟩
  · obtain ⟨q, hq⟩ : ∃ q : ByteArray, q = ⟨(quo s.data.toList).toArray⟩ := ⟨_, rfl⟩
    have hql : q.data.toList = quo s.data.toList := by rw [hq]
    rw [← hq]
    have hq60 : q.size ≤ 60 := by rw [← ba_len, hql]; exact h60
    have hge := quo_ge s.data.toList
    have hsl := ba_len s
    have htl := ba_len t
    have hm1 := m_quo h60 s.data.toList
    have hm2 := m_quo h60 t.data.toList
    rw [if_neg (by omega), if_neg (by omega), ← hql] at hm1
    rw [← hql, htl] at hm2
    have HM1 : Hid (mB q.data.toList s.data.toList = true ∧ mE q.data.toList s.data.toList = 0) := ⟨by rw [hm1.1]; simp, hm1.2⟩
    have HM2 := Lib.hid hm2
    have HP := Lib.hid (fun w => Plain_ok q s hql h60 w)
    have hb12 := hb1.trans (hb2.mono hsz1)
    have hsz2 := hb12.size
    clear hq hql h60 hge hsl htl hm1 hm2 hb1 hb2
    go_wp2_with fail
    refine (Match_ok q s (by omega) hs w2).mono ?_
    rw [HM1.out.1, HM1.out.2]
    rintro e w3 ⟨rfl, hb3⟩
    have hb13 := hb12.trans (hb3.mono hsz2)
    have hsz3 := hb13.size
    clear hb3 hb12
    go_wp2_with fail
    refine (Match_ok q t (by omega) ht w3).mono ?_
    rw [HM2.out.1, HM2.out.2]
    rintro e w4 ⟨rfl, hb4⟩
    have hb14 := hb13.trans (hb4.mono hsz3)
    have hsz4 := hb14.size
    clear hb4 hb13
    by_cases hbig : 2000 < t.size
    · rw [if_pos hbig, if_pos hbig]
      go_wp2_with fail
      refine (HP.out w4).mono ?_
      rintro e w5 ⟨rfl, hb5⟩
      have HB := Lib.hid (hb14.trans (hb5.mono hsz4))
      clear hb14 hb5
      go_wp2
      go_ret
      exact ⟨by simp, HB.out⟩
    · rw [if_neg hbig, if_neg hbig]
      by_cases hst : s = t
      · subst hst
        rw [show decide (s.data.toList = s.data.toList) = true by simp]
        go_wp2_with fail
        refine (HP.out w4).mono ?_
        rintro e w5 ⟨rfl, hb5⟩
        have HB := Lib.hid (hb14.trans (hb5.mono hsz4))
        clear hb14 hb5
        go_wp2
        go_ret
        exact ⟨by simp, HB.out⟩
      · have hd : decide (s.data.toList = t.data.toList) = false := by
          rw [decide_eq_false_iff_not]
          exact fun e => hst (ba_ext e)
        have hbq : (s.toList == t.toList) = false := by
          rw [Lib.toList_data, Lib.toList_data]
          exact beq_eq_false_iff_ne.2 fun e => hst (ba_ext e)
        rw [hd]
        clear hd
        go_wp2_with fail
        refine (HP.out w4).mono ?_
        rintro e w5 ⟨rfl, hb5⟩
        have HB := Lib.hid (hb14.trans (hb5.mono hsz4))
        clear hb14 hb5
        go_wp2
        go_ret
        exact ⟨by simp, HB.out⟩
end Go.Proofs.Ytnffcboelkkbmaa
