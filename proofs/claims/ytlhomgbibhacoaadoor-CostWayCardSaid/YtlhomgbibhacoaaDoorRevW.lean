/- slices.Reverse at a slice of ints of the call's own. Conditions: none. -/
import Derived.Test.YtlhomgbibhacoaaDoorIntArg
import Derived.Test.YtlhomgbibhacoaaDoorSortG
import Derived.Test.YtlhomgbibhacoaaDoorShelf
namespace Go.Proofs.YtlhomgbibhacoaaDoor
open Go.RowKit Go.Sort
theorem rev_own {w : World} {base n c : Nat} {g : Option Addr} {ls : List Int} (h : w.ownsRow base 3 1 (.slice g n c) n (i64s ls)) :
    Calls Tryd.prog 39 #[.slice g n c] w fun e w' => e = .returned (.tuple #[]) ∧ w'.ownsRow base 3 1 (.slice g n c) n (i64s ls.reverse) ∧ w.grownBy w' (Value.slice g n c).ownBlock := by
  have hl : ls.length = n := by have := h.1; simpa [i64s] using this
  subst hl
  by_cases hn : 0 < ls.length
  · rcases h.2 with ⟨hnil, _⟩ | ⟨g', cap, cur, hv, hbase, hb, h1, h2, h3, h4⟩
    · injection hnil with e1 e2 e3; omega
    · injection hv with e1 e2 e3
      subst e1 e3
      have h4' : cur.toList.take ls.length = ls.map (Value.int .i64) := by simpa [i64s] using h4
      unfold maxLen at h2
      refine (Tryd.slices_Reverse_int g' 0 c ls w (holds_own hb h4') (by omega)).mono ?_
      rintro e w' ⟨rfl, m, rfl⟩
      have ew : putRow (Value.int .i64) (Sort.ahead w m) g' 0 ls.reverse.toArray = sortWorld (Value.int .i64) w g' 0 m ls.reverse.toArray #[] := by unfold sortWorld; rw [grow_empty]
      rw [ew]
      exact ⟨rfl, own_sorted (by simp) hbase hb h1 (by unfold maxLen; omega) h3, grown_sorted _⟩
  · have h0 : ls = [] := List.length_eq_zero_iff.1 (by omega)
    subst h0
    refine (Tryd.slices_Reverse_int_empty g c w).mono ?_
    rintro e w' ⟨rfl, rfl⟩
    exact ⟨rfl, h, ⟨rfl, rfl, rfl, Nat.le_refl _, fun _ _ _ => rfl⟩⟩
end Go.Proofs.YtlhomgbibhacoaaDoor
