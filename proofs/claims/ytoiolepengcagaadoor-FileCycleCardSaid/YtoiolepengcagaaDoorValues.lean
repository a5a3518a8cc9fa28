/- slices.Values at []string: its closure gives the strings in their order (after the kit's worked proof at ints). Conditions: the loop's body keeps what lay below a block. -/
import Derived.RangeFuncBox
import Derived.RangeFuncLeaves
import Derived.Shelf.Abstract
import Derived.WalkKit
import Derived.OwnWalkIn
import Derived.TacticsInMore
import Derived.LoopNIn
import Derived.LoopIn
import Derived.Test.YtoiolepengcagaaDoorProg
namespace Go.Proofs.YtoiolepengcagaaDoor
open Go.RowKit Go.Shelf
attribute [local go_sem] Oper.semAt_some
def vs_upto {α : Type} (f : Nat → α) (k : Nat) : List α := (List.range k).map f
theorem vs_upto_succ {α : Type} (f : Nat → α) (k : Nat) : vs_upto f (k + 1) = vs_upto f k ++ [f k] := by simp [vs_upto, List.range_succ]
theorem vs_upto_length {α : Type} (f : Nat → α) (k : Nat) : (vs_upto f k).length = k := by simp [vs_upto]
theorem vs_upto_all (zs : List ByteArray) : vs_upto (fun j => zs[j]?.getD ByteArray.empty) zs.length = zs := by
  apply List.ext_getElem
  · simp [vs_upto]
  · intro i h1 h2
    simp [vs_upto, h2]

theorem vs_upto_take (zs : List ByteArray) {k : Nat} (hk : k ≤ zs.length) : vs_upto (fun j => zs[j]?.getD ByteArray.empty) k = zs.take k := by
  apply List.ext_getElem
  · simp [vs_upto, hk]
  · intro i h1 h2
    have : i < zs.length := by simp [vs_upto] at h1; omega
    simp [vs_upto, this]

def vs_Ints (n₀ : Nat) (W : World) (sv : Value) (zs : List ByteArray) : Prop :=
  (sv = .slice none 0 0 ∧ zs = []) ∨ ∃ b off cap, sv = .slice (some ⟨b, off, none⟩) zs.length cap ∧ b < n₀ ∧ ∀ j, j < zs.length → W.cell? ⟨b, off + j, none⟩ = some (.string (zs[j]?.getD ByteArray.empty))
theorem vs_Ints_below {n₀ : Nat} {A B : World} (h : Below n₀ A B) {sv : Value} {zs : List ByteArray} : vs_Ints n₀ A sv zs → vs_Ints n₀ B sv zs
  | .inl e => .inl e
  | .inr ⟨b, off, cap, e, hb, hc⟩ => .inr ⟨b, off, cap, e, hb, fun j hj => (h.cell (p := ⟨b, off + j, none⟩) hb).trans (hc j hj)⟩

end Go.Proofs.YtoiolepengcagaaDoor
