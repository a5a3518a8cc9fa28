/- A block of two cells that the call itself has laid: its cells, a store of both; a result that lies in a block beside one in a slot. Conditions: none. -/
import Derived.Test.YtoiolepengcagaaGreatDoorMem
import Derived.WalkKit
import Derived.Laws.ResultCell
import Derived.Laws.Rows
import Derived.Sort.Walk0
namespace Go.Proofs.YtoiolepengcagaaGreatDoor
open Go.RowKit
theorem rb_new (w : World) (o : Obj) : (w.alloc o).heap[w.heap.size]? = some o := by
  show (w.heap.push o)[w.heap.size]? = some o
  simp
theorem rb_old (w : World) (o : Obj) (i : Nat) (h : i < w.heap.size) : (w.alloc o).heap[i]? = w.heap[i]? := by
  show (w.heap.push o)[i]? = w.heap[i]?
  rw [Array.getElem?_push, if_neg (Nat.ne_of_lt h)]
/-- a block that was laid ahead of calls, and of one block more -/
theorem rb_far {w w3 w4 : World} {o o3 : Obj} (h3 : Below (w.alloc o).heap.size (w.alloc o) w3) (h4 : Below (w3.alloc o3).heap.size (w3.alloc o3) w4) : w4.heap[w.heap.size]? = some o ∧ w4.heap[w3.heap.size]? = some o3 := by
  have e : (w.alloc o).heap.size = w.heap.size + 1 := by simp
  have e3 : (w3.alloc o3).heap.size = w3.heap.size + 1 := by simp
  have hlt := h3.size
  refine ⟨?_, ?_⟩
  · rw [h4.block _ (by omega), rb_old _ _ _ (by omega), h3.block _ (by omega), rb_new]
  · rw [h4.block _ (by omega), rb_new]
theorem rb_cells {w : World} {b : Nat} {t : TypeId} {v0 v1 : Value} (h : w.heap[b]? = some (.cells #[v0, v1] t (0, 0))) :
    w.cell? ⟨b, 0, none⟩ = some v0 ∧ w.cell? ⟨b, 1, none⟩ = some v1 ∧ ∀ o, w.frozen? ⟨b, o, none⟩ = false := by
  refine ⟨?_, ?_, fun o => ?_⟩
  all_goals simp [World.cell?, World.frozen?, h]
theorem rb_all {w : World} {b : Nat} {t : TypeId} {v0 v1 : Value} (h : w.heap[b]? = some (.cells #[v0, v1] t (0, 0))) (u0 u1 : Value) :
    ((w.setCell ⟨b, 0, none⟩ u0).setCell ⟨b, 1, none⟩ u1).heap[b]? = some (.cells #[u0, u1] t (0, 0)) := by
  simp only [Go.Sort.setCell_eq]
  simp [Go.Sort.mapBlock, Go.Sort.onCells, Array.getElem?_modify, h]
theorem rb_below {B b : Nat} {w w' : World} (h : Below B w w') (hb : B ≤ b) (u0 u1 : Value) : Below B w ((w'.setCell ⟨b, 0, none⟩ u0).setCell ⟨b, 1, none⟩ u1) := (h.setCell hb _).setCell hb _
theorem rb_ct {P : Program} {fn : Func} {p u : Tmp} {ty : TypeId} (h : fn.results = #[.cell p ty, .tmp u]) (tmps : Array Value) (w : World) (g : Nat) (t : TypeId) (cs : Array Value) (fr : Nat × Nat) (d : TypeDesc) (x : Value)
    (hp : tmps.getD p undef = .pointer (some ⟨g, 0, none⟩)) (hx : tmps.getD u undef = x) (hg : w.heap[g]? = some (.cells cs t fr))
    (hu : P.underlying ty = some d) (hd : (match d with | .struct _ | .array _ _ => true | _ => false) = true) (hi : (P.info? ty).map (·.size) = some cs.size) :
    (results fn tmps).run P w = .ok (.tuple #[.agg cs, x]) w := by
  have hp' : tmps[p]?.getD undef = .pointer (some ⟨g, 0, none⟩) := by simpa using hp
  have hx' : tmps[u]?.getD undef = x := by simpa using hx
  rw [results_cell_tmp h]
  simp [hp', hx', asAddr, run_loadVar_row w g t ty cs fr d hg hu hd hi, Result.andThen]
end Go.Proofs.YtoiolepengcagaaGreatDoor
