/- The walk through good: no error among those that are handed in. Conditions: none. -/
import Derived.Test.YtoiolepengcagaaRows
import Derived.Test.YtoiolepengcagaaMem
import Derived.WalkKit
import Derived.OpenShut
namespace Go.Proofs.Ytoiolepengcagaa
open Go.RowKit
def errs (es : List Int) : List Value := es.map fun e => Value.int .i64 e
def allOk (es : List Int) : Bool := es.all fun x => decide (x = 0)
def errIdx (es : List Int) : Nat → Nat → Int
  | _, 0 => -1
  | k, f + 1 => if es.getD k 0 = 0 then errIdx es (k + 1) f else (k : Int)
/-- the first error's index, or -1 -/
def firstErr (es : List Int) : Int := errIdx es 0 es.length
theorem errIdx_sign (es : List Int) (f k : Nat) (hk : k + f = es.length) : decide (0 ≤ errIdx es k f) = !((es.drop k).all fun x => decide (x = 0)) := by
  induction f generalizing k with
  | zero =>
    have : es.drop k = [] := List.drop_eq_nil_of_le (by omega)
    rw [this]; simp [errIdx]
  | succ f ih =>
    have hl : k < es.length := by omega
    rw [List.drop_eq_getElem_cons hl, List.all_cons]
    unfold errIdx
    have hg : es.getD k 0 = es[k] := by simp [hl]
    rw [hg]
    by_cases h : es[k] = 0
    · rw [if_pos h, ih (k + 1) (by omega)]; simp [h]
    · rw [if_neg h]; simp [h]
theorem firstErr_sign (es : List Int) : decide (0 ≤ firstErr es) = !allOk es := by
  have := errIdx_sign es es.length 0 (by omega)
  rw [List.drop_zero] at this
  exact this
theorem errs_reads (w : World) (es : List Int) (t : TypeId) : Reads (w.alloc (.cells (errs es).toArray t)) (w.heap.size + 1) 1 (some ⟨w.heap.size, 0, none⟩) es.length (errs es) := by
  refine ⟨by simp [errs], fun _ => ⟨_, rfl, by simp, fun j u hj => ?_⟩⟩
  have hs : (w.alloc (.cells (errs es).toArray t)).cell? ⟨w.heap.size, j, none⟩ = (errs es)[j]? := by simp
  have ha : (⟨w.heap.size, 0, none⟩ : Addr).add j = ⟨w.heap.size, j, none⟩ := by
    unfold Addr.add
    split
    · rename_i h; subst h; rfl
    · simp
  rw [ha, hs, hj]
end Go.Proofs.Ytoiolepengcagaa
