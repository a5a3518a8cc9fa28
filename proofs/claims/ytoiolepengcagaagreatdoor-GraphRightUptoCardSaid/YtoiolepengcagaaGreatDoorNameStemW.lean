/- The law NameStem. Conditions: the text is shorter than 2^62 bytes. -/
import Derived.Test.YtoiolepengcagaaGreatDoorIndexAnyW
import Derived.Test.YtoiolepengcagaaGreatDoorNamesW
import Derived.Test.YtoiolepengcagaaGreatDoorStemW
import Derived.Lib.Split
namespace Go.Proofs.YtoiolepengcagaaGreatDoor
open Go.RowKit
theorem bang_at (s : ByteArray) {j : Nat} (h : j < s.size) : s.data[j]! = s[j] := by
  rw [getElem!_pos s.data j h]; rfl
theorem last_after {s : ByteArray} {c : UInt8} {j : Nat} (h : Lib.lastIndexByte s (c.toNat : Int) < (j : Int)) (hs : j < s.size) : s[j] ≠ c := by
  rcases Lib.lastIndexByte_spec s (c.toNat : Int) with ⟨_, h2⟩ | ⟨i, _, h2, _, h3⟩
  · intro e
    refine h2 j hs ?_
    rw [bang_at s hs, e]
  · intro e
    refine h3 j (by omega) hs ?_
    rw [bang_at s hs, e]
theorem last_at {s : ByteArray} {c : UInt8} {k : Nat} (h : Lib.lastIndexByte s (c.toNat : Int) = k) : ∃ hk : k < s.size, s[k] = c := by
  rcases Lib.lastIndexByte_spec s (c.toNat : Int) with ⟨h1, _⟩ | ⟨i, h1, h2, h3, _⟩
  · omega
  · obtain rfl : i = k := by omega
    rw [bang_at s h1] at h3
    exact ⟨h1, UInt8.toNat_inj.1 (by omega)⟩
theorem ba_ext2 {s t : ByteArray} (h : s.data.toList = t.data.toList) : s = t := by
  cases s; cases t
  exact congrArg ByteArray.mk (Array.toList_inj.1 h)
theorem cut_join (s : ByteArray) (k : Nat) : s.extract 0 k ++ s.extract k s.size = s := by
  refine ba_ext2 ?_
  rw [ByteArray.data_append, Array.toList_append, ba_drop]
  have : (s.extract 0 k).data.toList = s.data.toList.take k := Lib.extract_from_zero s k
  rw [this, List.take_append_drop]
/-- what the two parts of a name are -/
theorem stem_facts (s : ByteArray) (k : Nat) (h1 : Lib.lastIndexByte s 46 = k) (h2 : Lib.lastIndexByte s 47 + 1 < k) :
    ∃ a b : ByteArray, s.extract 0 k = a ∧ s.extract k s.size = b ∧ a ++ b = s ∧ (∃ h0 : 0 < b.size, b[0] = 46) ∧ (∃ m, ∃ hm : a.size = m + 1, a[m]'(by omega) ≠ 47) ∧ Free2 (b.extract 1 b.size) 46 47 := by
  obtain ⟨hk, hc⟩ := last_at (s := s) (c := 46) (k := k) h1
  have hm1 := (last_in s 47).1
  refine ⟨_, _, rfl, rfl, cut_join s k, ?_, ?_, ?_⟩
  · have hsz : (s.extract k s.size).size = s.size - k := by rw [ByteArray.size_extract]; omega
    refine ⟨by omega, ba_get (by omega) ?_⟩
    rw [ba_drop, List.getElem?_drop, Nat.add_zero, ba_at hk, hc]
  · have hsz : (s.extract 0 k).size = k := by rw [ByteArray.size_extract]; omega
    refine ⟨k - 1, by omega, ?_⟩
    have hl : (s.extract 0 k).data.toList[k - 1]? = some s[k - 1] := by
      rw [Lib.extract_from_zero, List.getElem?_take_of_lt (by omega), ba_at (by omega)]
    rw [ba_get (by omega) hl]
    exact last_after (c := 47) (by show Lib.lastIndexByte s 47 < _; omega) (by omega)
  · intro c hcm
    rw [ba_drop, ba_drop, List.drop_drop] at hcm
    obtain ⟨j, hj, e⟩ := List.mem_iff_getElem.1 hcm
    have hjl : s.data.toList[k + 1 + j]? = some c := by
      rw [← List.getElem?_drop, List.getElem?_eq_getElem hj, e]
    have hjs : k + 1 + j < s.size := by rw [← ba_len]; exact (List.getElem?_eq_some_iff.1 hjl).1
    have hce := ba_get hjs hjl
    exact ⟨fun e => last_after (s := s) (c := 46) (j := k + 1 + j) (by show Lib.lastIndexByte s 46 < _; omega) hjs (by rw [hce]; exact e), fun e => last_after (s := s) (c := 47) (j := k + 1 + j) (by show Lib.lastIndexByte s 47 < _; omega) hjs (by rw [hce]; exact e)⟩
end Go.Proofs.YtoiolepengcagaaGreatDoor
