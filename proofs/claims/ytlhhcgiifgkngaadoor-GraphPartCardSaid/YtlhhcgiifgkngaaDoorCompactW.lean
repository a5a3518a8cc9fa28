/- slices.Compact at a slice of strings of the call's own. Conditions: none. -/
import Derived.Test.YtlhhcgiifgkngaaDoorSortedSW
import Derived.Lib.RowBridge
namespace Go.Proofs.YtlhhcgiifgkngaaDoor
open Go.RowKit Go.Shelf Go.Maps Go.Sort
theorem compact_own {w : World} {base n c : Nat} {g : Option Addr} {bs : List (List UInt8)} (h : w.ownsRow base 9 1 (.slice g n c) n (bs.map encStr)) :
    Calls Tryd.prog 105 #[.slice g n c] w fun e w' => e = .returned (.slice g (Lib.compact bs).length c) ∧ w'.ownsRow base 9 1 (.slice g (Lib.compact bs).length c) (Lib.compact bs).length ((Lib.compact bs).map encStr) ∧ w.grownBy w' (Value.slice g n c).ownBlock := by
  have hl : bs.length = n := by have := h.1; simpa using this
  subst hl
  have hle : (Lib.compact bs).length ≤ bs.length := Lib.compact_length_le bs
  by_cases hn : 0 < bs.length
  · rcases h.2 with ⟨hnil, _⟩ | ⟨g', cap, cur, hv, hbase, hb, h1, h2, h3, h4⟩
    · injection hnil with e1 e2 e3; omega
    · injection hv with e1 e2 e3
      subst e1 e3
      have h4' : cur.toList.take bs.length = bs.map encStr := by simpa using h4
      have h2' := h2
      unfold maxLen at h2'
      refine (Tryd.slices_Compact_string g' 0 c bs w (holds_own hb h4') (by omega) h1).mono ?_
      rintro e w' ⟨rfl, m, rfl⟩
      have ew : putRow encStr (Sort.ahead w m) g' 0 (Lib.compact bs ++ List.replicate (bs.length - (Lib.compact bs).length) []).toArray = sortWorld encStr w g' 0 m (Lib.compact bs ++ List.replicate (bs.length - (Lib.compact bs).length) []).toArray #[] := by unfold sortWorld; rw [grow_empty]
      rw [ew]
      have hll : (Lib.compact bs ++ List.replicate (bs.length - (Lib.compact bs).length) []).length = bs.length := by rw [List.length_append, List.length_replicate]; omega
      have hfull := own_sorted (n := m) (os := #[]) (enc := encStr) (k := bs.length) (ts := Lib.compact bs ++ List.replicate (bs.length - (Lib.compact bs).length) []) hll hbase hb h1 h2 h3
      refine ⟨rfl, ?_, grown_sorted _⟩
      have hp := own_prefix hfull hle
      rw [List.map_append, List.take_append_of_le_length (by rw [List.length_map]; exact Nat.le_refl _), List.take_of_length_le (by rw [List.length_map]; exact Nat.le_refl _)] at hp
      exact hp
  · have h0 : bs = [] := List.length_eq_zero_iff.1 (by omega)
    subst h0
    refine (Tryd.slices_Compact_string_empty g c w).mono ?_
    rintro e w' ⟨rfl, rfl⟩
    exact ⟨rfl, h, ⟨rfl, rfl, rfl, Nat.le_refl _, fun _ _ _ => rfl⟩⟩
end Go.Proofs.YtlhhcgiifgkngaaDoor
