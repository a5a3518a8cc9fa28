/- slices.BinarySearch at sorted strings. Conditions: the slice reads as listed, and rises. -/
import Derived.Test.YtlhhcgiifgkngaaDoorNLSetW
import Derived.Test.YtlhhcgiifgkngaaDoorSearchLay
import Derived.Sort.Walk0
namespace Go.Proofs.YtlhhcgiifgkngaaDoor
open Go.RowKit Go.Shelf
/-- where a falling test falls -/
theorem falls (less : Nat → Bool) : ∀ n, ∃ k, k ≤ n ∧ (∀ t, t < k → less t = true) ∧ (k = n ∨ less k = false)
  | 0 => ⟨0, Nat.le_refl _, fun t ht => by omega, .inl rfl⟩
  | n + 1 => by
    obtain ⟨k, h1, h2, h3⟩ := falls less n
    rcases h3 with rfl | h3
    · cases h : less k
      · exact ⟨k, by omega, h2, .inr h⟩
      · exact ⟨k + 1, Nat.le_refl _, fun t ht => by
          rcases Nat.lt_or_ge t k with g | g
          · exact h2 t g
          · rw [show t = k from by omega]; exact h, .inl rfl⟩
    · exact ⟨k, by omega, h2, .inr h3⟩
def Rise (ls : List ByteArray) : Prop := ∀ i j, i < j → j < ls.length → (ls.getD i ByteArray.empty).data.toList < (ls.getD j ByteArray.empty).data.toList
theorem rise_sorted (zs : List ByteArray) : Rise (bz (sortN zs)) := by
  intro i j hij hj
  have h2 := sortN_strict zs
  have h1 : sortN zs = byt (bz (sortN zs)) := (byt_bz _).symm
  rw [h1] at h2
  have h3 := List.pairwise_iff_getElem.1 h2 i j (by rw [byt_len]; omega) (by rw [byt_len]; omega) hij
  unfold byt at h3
  rw [List.getElem_map, List.getElem_map] at h3
  rw [List.getD_eq_getElem?_getD, List.getD_eq_getElem?_getD, List.getElem?_eq_getElem hj, List.getElem?_eq_getElem (by omega : i < (bz (sortN zs)).length)]
  exact h3
theorem ba_ext {x y : ByteArray} (h : x.data.toList = y.data.toList) : x = y := by
  cases x; cases y
  exact congrArg ByteArray.mk (Array.toList_inj.1 h)
/-- what the search answers -/
def Found (ls : List ByteArray) (x : ByteArray) (k : Nat) (b : Bool) : Prop := (b = true ∧ k < ls.length ∧ ls.getD k ByteArray.empty = x) ∨ (b = false ∧ Lib.containsS ls x = false)
theorem getD_else {ls : List ByteArray} {t : Nat} (x : ByteArray) (h : t < ls.length) : ls.getD t x = ls.getD t ByteArray.empty := by
  rw [List.getD_eq_getElem?_getD, List.getD_eq_getElem?_getD, List.getElem?_eq_getElem h]; rfl
theorem search_plain (ls : List ByteArray) (x : ByteArray) (hr : Rise ls) :
    Found ls x (Lib.bsGo (fun t => Op.bytesLess (ls.getD t x).toList x.toList) ls.length 0 ls.length) (decide (Lib.bsGo (fun t => Op.bytesLess (ls.getD t x).toList x.toList) ls.length 0 ls.length < ls.length ∧ ls.getD (Lib.bsGo (fun t => Op.bytesLess (ls.getD t x).toList x.toList) ls.length 0 ls.length) x = x)) := by
  obtain ⟨k, h1, h2, h3⟩ := falls (fun t => Op.bytesLess (ls.getD t x).toList x.toList) ls.length
  have hlt : ∀ t, Op.bytesLess (ls.getD t x).toList x.toList = decide ((ls.getD t x).data.toList < x.data.toList) := fun t => by rw [Proofs.bytesLess_eq, Lib.toList_data, Lib.toList_data]
  have hge : ∀ t, k ≤ t → Op.bytesLess (ls.getD t x).toList x.toList = false := by
    intro t ht
    rw [hlt, decide_eq_false_iff_not]
    rcases Nat.lt_or_ge t ls.length with h | h
    · rcases h3 with h3 | h3
      · omega
      · rw [hlt, decide_eq_false_iff_not] at h3
        rcases Nat.lt_or_ge k t with h4 | h4
        · have h5 := hr k t h4 h
          rw [getD_else x (by omega)] at h3
          rw [getD_else x h]
          intro h6
          exact h3 (List.lt_trans h5 h6)
        · rw [show t = k from by omega]; exact h3
    · rw [List.getD_eq_getElem?_getD, List.getElem?_eq_none h]
      exact fun h6 => lt_irr h6
  have hk : Lib.bsGo (fun t => Op.bytesLess (ls.getD t x).toList x.toList) ls.length 0 ls.length = k := Lib.bsGo_spec _ k h2 hge _ _ _ (by omega) (Nat.zero_le _) h1
  rw [hk]
  by_cases hx : k < ls.length ∧ ls.getD k x = x
  · exact .inl ⟨decide_eq_true hx, hx.1, by rw [← getD_else x hx.1]; exact hx.2⟩
  · refine .inr ⟨decide_eq_false hx, ?_⟩
    rw [Bool.eq_false_iff]
    intro hc
    obtain ⟨j, hj, e⟩ := List.mem_iff_getElem.1 (has_iff.1 hc)
    have hjx : ls.getD j x = x := by rw [List.getD_eq_getElem?_getD, List.getElem?_eq_getElem hj]; exact e
    rcases Nat.lt_trichotomy j k with h | h | h
    · have := h2 j h
      simp only [hjx] at this
      rw [Proofs.bytesLess_eq, decide_eq_true_eq] at this
      exact lt_irr this
    · exact hx ⟨by omega, by rw [← h]; exact hjx⟩
    · have h5 := hr k j h hj
      rw [← getD_else x hj, hjx, ← getD_else x (by omega)] at h5
      have := hge k (Nat.le_refl _)
      rw [hlt, decide_eq_false_iff_not] at this
      exact this h5
theorem search_ok {w : World} {p : Option Addr} {n c : Nat} {ls : List ByteArray} (h : NL w p n c ls) (hr : Rise ls) (x : ByteArray) :
    Calls Tryd.prog 143 #[.slice p n c, .string x] w fun e w' => (∃ (k : Nat) (b : Bool), e = .returned (.tuple #[.int .i64 k, .bool b]) ∧ Found ls x k b) ∧ ∃ q, w' = w.drewN q := by
  have hl := h.at_.len
  have hb := h.at_.big
  subst hl
  rcases Nat.eq_zero_or_pos ls.length with h0 | h0
  · have : ls = [] := List.length_eq_zero_iff.1 h0
    subst this
    refine (Any2.slices_BinarySearch_string_empty Tryd.laysBs p c x w).mono ?_
    rintro e w' ⟨rfl, rfl⟩
    exact ⟨⟨0, false, rfl, .inr ⟨rfl, by rfl⟩⟩, 0, rfl⟩
  · obtain ⟨ad, rfl, _⟩ := h.at_.reads.2 h0
    obtain ⟨b, o, rfl, _⟩ := h.plain _ rfl
    refine (Any2.slices_BinarySearch_string Tryd.laysBs b o ls.length c (fun t => ls.getD t x) x w (by omega) (fun j hj => ?_)).mono ?_
    · rw [h.cellAt j hj, getD_else x hj]
    · rintro e w' ⟨rfl, hq⟩
      exact ⟨⟨_, _, rfl, search_plain ls x hr⟩, hq⟩
end Go.Proofs.YtlhhcgiifgkngaaDoor
