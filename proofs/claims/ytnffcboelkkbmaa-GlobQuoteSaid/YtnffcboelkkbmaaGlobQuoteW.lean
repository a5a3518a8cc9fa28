/- The walks through glob.Quote, glob.Plain and the law GlobQuote. Conditions: texts shorter than 2^62 bytes. -/
import Derived.Test.YtnffcboelkkbmaaStrs
import Derived.Test.YtnffcboelkkbmaaShelfB
import Derived.Test.YtnffcboelkkbmaaShelf
namespace Go.Proofs.Ytnffcboelkkbmaa
open Go.RowKit
theorem quo_one {l : Txt} {k : Nat} {c : UInt8} (h : l[k]? = some c) : quo (l.take (k + 1)) = quo (l.take k) ++ (if specC c then [92, c] else [c]) := by
  have e : l.take (k + 1) = l.take k ++ [c] := by rw [List.take_add_one, h]; rfl
  rw [e, quo_app]
  congr 1
theorem quo_more (l : Txt) (k : Nat) : (quo (l.take k)).length ≤ (quo l).length := by
  have e : quo l = quo (l.take k) ++ quo (l.drop k) := by rw [← quo_app, List.take_append_drop]
  rw [e, List.length_append]; omega
theorem quo_ge (l : Txt) : l.length ≤ (quo l).length := by
  induction l with
  | nil => exact Nat.le_refl _
  | cons c l ih =>
    rw [quo_cons]
    split <;> simp only [List.length_cons] <;> omega
theorem quo_at {l : Txt} {k : Nat} {c : UInt8} (h : l[k]? = some c) : (specC c = true → (quo l)[(quo (l.take k)).length]? = some 92 ∧ (quo l)[(quo (l.take k)).length + 1]? = some c) ∧ (specC c = false → (quo l)[(quo (l.take k)).length]? = some c) := by
  have hk : k < l.length := (List.getElem?_eq_some_iff.1 h).1
  have hd : l.drop k = c :: l.drop (k + 1) := by
    rw [List.drop_eq_getElem_cons hk, (List.getElem?_eq_some_iff.1 h).2]
  have e : quo l = quo (l.take k) ++ quo (l.drop k) := by rw [← quo_app, List.take_append_drop]
  rw [hd, quo_cons] at e
  constructor
  · intro hs
    rw [if_pos hs] at e
    rw [e]
    refine ⟨?_, ?_⟩
    · rw [List.getElem?_append_right (Nat.le_refl _), Nat.sub_self]; rfl
    · rw [List.getElem?_append_right (by omega), show (quo (l.take k)).length + 1 - (quo (l.take k)).length = 1 by omega]; rfl
  · intro hs
    rw [if_neg (by rw [hs]; decide)] at e
    rw [e, List.getElem?_append_right (Nat.le_refl _), Nat.sub_self]; rfl
theorem spec_index (c : UInt8) : -1 ≤ Lib.indexByte [42, 63, 91, 93, 92] c ∧ (specC c = true → 0 ≤ Lib.indexByte [42, 63, 91, 93, 92] c) ∧ (specC c = false → Lib.indexByte [42, 63, 91, 93, 92] c < 0) := by
  obtain ⟨h1, h2⟩ := indexByte_ge [42, 63, 91, 93, 92] c
  refine ⟨h1, fun h => ?_, fun h => ?_⟩
  · rw [h2]
    unfold specC at h
    simp only [Bool.or_eq_true, beq_iff_eq] at h
    rcases h with (((h | h) | h) | h) | h <;> subst h <;> decide
  · by_cases h3 : Lib.indexByte [42, 63, 91, 93, 92] c < 0
    · exact h3
    · exfalso
      have h4 := h2.1 (by omega)
      have : specC c = true := by
        simp only [List.mem_cons, List.not_mem_nil, or_false] at h4
        unfold specC
        rcases h4 with h | h | h | h | h <;> subst h <;> decide
      rw [this] at h; cases h
/-- what Quote answers -/
def QuotePost (l : Txt) (w : World) (e : Ending) (w' : World) : Prop :=
  Below w.heap.size w w' ∧ ((60 < (quo l).length ∧ e = .returned (.tuple #[.string ⟨#[]⟩, .int .i64 2])) ∨ ((quo l).length ≤ 60 ∧ e = .returned (.tuple #[.string ⟨(quo l).toArray⟩, .int .i64 0])))
set_option maxHeartbeats 4000000 in
theorem Quote_ok (s : ByteArray) (hs : s.size ≤ 4611686018427387904) (w : World) : Calls Try.prog 26 #[.string s] w (QuotePost s.data.toList w) := by
  have hsl := ba_len s
  have HSL := Lib.hid hsl
  clear hsl
  have hB0 := Lib.fresh_isBuilder 70 5 w
  have hb0 : Below w.heap.size w (w.alloc (.cells #[.pointer none, .slice none 0 0] 70)) := (Below.refl _ _).alloc (Nat.le_refl _) _
  go_enter Try.func26, Try.ntmps26
  go_wp2_with fail
  go_loopw [8] (fun i wr => ∃ k : Nat, k ≤ s.size ∧ i = .int .i64 k ∧ (quo (s.data.toList.take k)).length ≤ 60 ∧ Lib.IsBuilder 70 5 w.heap.size w.heap.size (Lib.byteCells (quo (s.data.toList.take k))) wr ∧ Below w.heap.size w wr) (fun i _ => s.size - (intOf i).toNat)
  case atStart => exact ⟨0, Nat.zero_le _, rfl, Nat.zero_le _, hB0, hb0⟩
  case round =>
    obtain ⟨k, hk, rfl, hq60, hB, hbr⟩ := hrel
    obtain ⟨wo, rfl⟩ : ∃ wo : World, wo = wr := ⟨_, rfl⟩
    have hszr := hbr.size
    clear hB0 hb0
    by_cases hlt : k < s.size
    · obtain ⟨c, hc⟩ : ∃ c, s[k] = c := ⟨_, rfl⟩
      have hl : s.data.toList[k]? = some c := by rw [ba_at hlt, hc]
      have hq1 := quo_one hl
      have hqm := quo_more s.data.toList (k + 1)
      have hct := c.toNat_lt
      have HBB := Lib.hid (byte_back c)
      obtain ⟨z0, z1, z2⟩ := spec_index c
      obtain ⟨z, hz⟩ : ∃ z, Lib.indexByte [42, 63, 91, 93, 92] c = z := ⟨_, rfl⟩
      rw [hz] at z0 z1 z2
      have HZ := Lib.hid hz
      have HB := Lib.hid hB
      have HBR := Lib.hid hbr
      have HQM := Lib.hid hqm
      clear hz hl hB hbr hqm
      cases hsp : specC c
      · have z3 := z2 hsp
        rw [hsp, if_neg (by decide)] at hq1
        have HQ := Lib.hid hq1
        clear z1 z2 hsp hq1
        go_wp2_with (go_at_call 42; refine (Try.strings_IndexByte _ _ _).mono ?_; rw [HBB.out]; rintro e w' ⟨he, rfl⟩; replace he : e = .returned (.int .i64 z) := he.trans (congrArg (fun x => Ending.returned (.int .i64 x)) HZ.out); subst he)
        refine (Try.Builder_WriteByte_b w.heap.size w.heap.size _ (c.toNat : Int) _ HB.out (by rw [Lib.byteCells_length]; omega) hszr).mono ?_
        rintro e w3 ⟨rfl, hB3, hb3⟩
        have hI3 : Lib.IsBuilder 70 5 w.heap.size w.heap.size (Lib.byteCells (quo (s.data.toList.take (k + 1)))) w3 := by
          rw [HQ.out, Lib.byteCells_append]
          exact .inr hB3
        have HB3 := Lib.hid (HBR.out.trans hb3)
        clear hb3 hB3
        go_wp2_with fail
        refine (Try.Builder_Len w.heap.size w.heap.size _ _ hI3).mono ?_
        rw [Lib.byteCells_length]
        rintro e w' ⟨rfl, rfl⟩
        have HI3 := Lib.hid hI3
        obtain ⟨y, hy⟩ : ∃ y, (quo (s.data.toList.take (k + 1))).length = y := ⟨_, rfl⟩
        have HY := Lib.hid hy
        rw [hy]
        have hy70 : y ≤ 62 := by rw [← hy, HQ.out]; simp; omega
        clear hI3 hy
        by_cases hbig : 60 < y
        · go_wp2
          go_ret2
          exact ⟨HB3.out, .inl ⟨by have := HQM.out; have := HY.out; omega, rfl⟩⟩
        · go_wp2
          go_roundw
          case rel => exact ⟨k + 1, by omega, by go_num, by rw [HY.out]; omega, HI3.out, HB3.out⟩
          case measure => simp [intOf]; omega
      · have z3 := z1 hsp
        rw [hsp, if_pos rfl] at hq1
        have HQ := Lib.hid hq1
        clear z1 z2 hsp hq1
        go_wp2_with (go_at_call 42; refine (Try.strings_IndexByte _ _ _).mono ?_; rw [HBB.out]; rintro e w' ⟨he, rfl⟩; replace he : e = .returned (.int .i64 z) := he.trans (congrArg (fun x => Ending.returned (.int .i64 x)) HZ.out); subst he)
        refine (Try.Builder_WriteByte_b w.heap.size w.heap.size _ 92 _ HB.out (by rw [Lib.byteCells_length]; omega) hszr).mono ?_
        rintro e w2 ⟨rfl, hB2, hb2⟩
        have hs2 := hb2.size
        go_wp2_with fail
        refine (Try.Builder_WriteByte_b w.heap.size w.heap.size _ (c.toNat : Int) _ (.inr hB2) (by rw [List.length_append, Lib.byteCells_length]; simp; omega) (by omega)).mono ?_
        rintro e w3 ⟨rfl, hB3, hb3'⟩
        have hb3 := hb2.trans hb3'
        clear hb2 hb3' hB2
        have hI3 : Lib.IsBuilder 70 5 w.heap.size w.heap.size (Lib.byteCells (quo (s.data.toList.take (k + 1)))) w3 := by
          rw [HQ.out, Lib.byteCells_append]
          rw [show Lib.byteCells [92, c] = [.int .u8 92] ++ [.int .u8 (c.toNat : Int)] from rfl, ← List.append_assoc]; exact .inr hB3
        have HB3 := Lib.hid (HBR.out.trans hb3)
        clear hb3 hB3
        go_wp2_with fail
        refine (Try.Builder_Len w.heap.size w.heap.size _ _ hI3).mono ?_
        rw [Lib.byteCells_length]
        rintro e w' ⟨rfl, rfl⟩
        have HI3 := Lib.hid hI3
        obtain ⟨y, hy⟩ : ∃ y, (quo (s.data.toList.take (k + 1))).length = y := ⟨_, rfl⟩
        have HY := Lib.hid hy
        rw [hy]
        have hy70 : y ≤ 62 := by rw [← hy, HQ.out]; simp; omega
        clear hI3 hy
        by_cases hbig : 60 < y
        · go_wp2
          go_ret2
          exact ⟨HB3.out, .inl ⟨by have := HQM.out; have := HY.out; omega, rfl⟩⟩
        · go_wp2
          go_roundw
          case rel => exact ⟨k + 1, by omega, by go_num, by rw [HY.out]; omega, HI3.out, HB3.out⟩
          case measure => simp [intOf]; omega
    · obtain rfl : k = s.size := by omega
      have HTK : Hid (s.data.toList.take s.size = s.data.toList) := by show _ = _; rw [← HSL.out, List.take_length]
      rw [HTK.out] at hq60 hB
      have HB := Lib.hid hB
      have HBR := Lib.hid hbr
      have HQ := Lib.hid hq60
      clear hB hbr hq60
      go_wp2_with fail
      refine (Try.Builder_String_any w.heap.size w.heap.size _ _ HB.out hszr).mono ?_
      rintro e w3 ⟨rfl, hb3⟩
      have HB3 := Lib.hid (HBR.out.trans hb3)
      clear hb3
      go_wp2
      go_ret2
      exact ⟨HB3.out, .inr ⟨HQ.out, rfl⟩⟩
end Go.Proofs.Ytnffcboelkkbmaa
