/- Byte strings as lists: the first byte, what stands behind, a part. Conditions: none. -/
import Derived.Lib.Strings
import Derived.Lib.IndexBytes
import Derived.Lib.Bytealg
namespace Go.Proofs.YtlhhcgiifgkngaaDoor
theorem int_ne' {x : Int} (h : x ≠ 0) : (x == 0) = false ∧ (x != 0) = true := ⟨by simpa using h, by simpa using h⟩
theorem ba_len (x : ByteArray) : x.data.toList.length = x.size := (Lib.size_eq x).symm
theorem ba_at {x : ByteArray} {k : Nat} (h : k < x.size) : x.data.toList[k]? = some x[k] := by
  rw [List.getElem?_eq_getElem (by rw [ba_len]; exact h)]
  rfl
theorem ba_get {x : ByteArray} {k : Nat} {c : UInt8} (h : k < x.size) (hc : x.data.toList[k]? = some c) : x[k] = c := by
  rw [ba_at h] at hc; injection hc
theorem ba_drop (x : ByteArray) (k : Nat) : (x.extract k x.size).data.toList = x.data.toList.drop k := Lib.extract_to_end x k
theorem ba_nil {x : ByteArray} (h : x.data.toList = []) : x.size = 0 := by rw [← ba_len, h]; rfl
/-- a byte string that begins with a byte -/
theorem ba_cons {x : ByteArray} {c : UInt8} {l : List UInt8} (h : x.data.toList = c :: l) : ∃ h0 : 0 < x.size, x[0] = c ∧ ∃ y : ByteArray, x.extract 1 x.size = y ∧ y.data.toList = l ∧ y.size + 1 = x.size := by
  have hs : x.size = l.length + 1 := by rw [← ba_len, h]; rfl
  have h0 : 0 < x.size := by omega
  refine ⟨h0, ba_get h0 (by rw [h]; rfl), _, rfl, by rw [ba_drop, h]; rfl, ?_⟩
  rw [← ba_len, ba_drop, h, hs]; rfl
theorem indexByte_ge (l : List UInt8) (c : UInt8) : -1 ≤ Lib.indexByte l c ∧ (0 ≤ Lib.indexByte l c ↔ c ∈ l) := by
  induction l with
  | nil => simp [Lib.indexByte]
  | cons b l ih =>
    obtain ⟨h1, h2⟩ := ih
    unfold Lib.indexByte
    by_cases hb : b = c
    · subst hb; simp
    · have e : (b == c) = false := by simpa using hb
      have hm : c ∈ b :: l ↔ c ∈ l := by simp; intro h; exact absurd h.symm hb
      rw [e, hm, ← h2]
      simp only [Bool.false_eq_true, if_false]
      split
      · rename_i h; simp at h; rw [h]; omega
      · rename_i h; simp at h; omega
theorem byte_back (c : UInt8) : ((c.toNat : Int)).toNat.toUInt8 = c := by simp
end Go.Proofs.YtlhhcgiifgkngaaDoor
