/- What the bound of the second form gives of a slice of strings. Conditions: none. -/
import Derived.Test.YtnffcboelkkbmaaRows
import Derived.Test.YtnffcboelkkbmaaNLArg
namespace Go.Proofs.Ytnffcboelkkbmaa
open Go.RowKit Go.ChangeShapes
theorem bulk_one {H : Type} (d : DataW H) : 1 ≤ Rows.uptoBulk d := by
  cases d with
  | lit l => cases l <;> simp [Rows.uptoBulk]
  | nil => simp [Rows.uptoBulk]
  | ptr d => simp [Rows.uptoBulk]
  | slice elems spare => simp [Rows.uptoBulk]
  | agg parts => simp [Rows.uptoBulk]
  | iface t d => simp [Rows.uptoBulk]
  | map entries => simp [Rows.uptoBulk]
  | held h => simp [Rows.uptoBulk]
theorem bulk_len {H : Type} (l : List (DataW H)) : l.length ≤ Rows.uptoBulkAll l := by
  induction l with
  | nil => simp [Rows.uptoBulkAll]
  | cons x r ih => have := bulk_one x; simp only [Rows.uptoBulkAll, List.length_cons]; omega
theorem nl_bulk {H : Type} {enc : TypeId × Value → H} {W : World} {fuel len cap : Nat} {a : Option Addr} {d : DataW H} {p : List MemPlace}
    (ht : Try.prog.underlying 22 = some (.slice 9)) (he : Try.prog.underlying 9 = some .string) (hc : Try.prog.cellsOf 9 = 1)
    (hf : DataW.trod enc Try.prog W 0 (fun _ => true) true fuel 22 [.slice a len cap] = some (d, p)) : len ≤ Rows.uptoBulk d := by
  rcases open_strings ht he hc hf with ⟨h1, h2⟩ | ⟨ad, ln, cp, zs, h1, h2, h3, h4, h5, h6, h7, h8⟩
  · injection h1 with h1 _
    injection h1 with e1 e2 e3
    omega
  · injection h1 with h1 _
    injection h1 with e1 e2 e3
    subst e1 e2 e3
    injection h6 with h6 h6'
    rw [h6]
    simp only [if_true] at h5
    have hl1 : (strs (H := H) (zs.take len)).length = len := by unfold strs; rw [List.length_map, List.length_take]; omega
    have := bulk_len (strs (H := H) (zs.take len))
    show len ≤ Rows.uptoBulkAll _ + Rows.uptoBulkAll _ + 1
    omega
end Go.Proofs.Ytnffcboelkkbmaa
