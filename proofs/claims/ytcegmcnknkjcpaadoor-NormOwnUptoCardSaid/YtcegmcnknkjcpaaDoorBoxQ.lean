/- Blocks of four cells; results that lie in a cell. Conditions: none. -/
import Derived.Laws.ResultCell
import Derived.Laws.Tables
import Derived.Sort.Row
import Derived.Test.YtcegmcnknkjcpaaDoorAskM
namespace Go.Proofs.YtcegmcnknkjcpaaDoor
open Go.RowKit Go.Sort
theorem hanQ (w : World) (o : Obj) : (w.alloc o).heap[w.heap.size]? = some o := by
  show (w.heap.push o)[w.heap.size]? = some o
  simp
theorem haoQ (w : World) (o : Obj) (i : Nat) (h : i < w.heap.size) : (w.alloc o).heap[i]? = w.heap[i]? := by
  show (w.heap.push o)[i]? = w.heap[i]?
  rw [Array.getElem?_push, if_neg (Nat.ne_of_lt h)]
theorem box4Q {w : World} {b : Nat} {t : TypeId} {v0 v1 v2 v3 : Value} (h : w.heap[b]? = some (.cells #[v0, v1, v2, v3] t (0, 0))) :
    w.cell? ⟨b, 0, none⟩ = some v0 ∧ w.cell? ⟨b, 1, none⟩ = some v1 ∧ w.cell? ⟨b, 2, none⟩ = some v2 ∧ w.cell? ⟨b, 3, none⟩ = some v3 ∧ ∀ o, w.frozen? ⟨b, o, none⟩ = false := by
  refine ⟨?_, ?_, ?_, ?_, fun o => ?_⟩
  all_goals simp [World.cell?, World.frozen?, h]
theorem box4Q_all {w : World} {b : Nat} {t : TypeId} {v0 v1 v2 v3 : Value} (h : w.heap[b]? = some (.cells #[v0, v1, v2, v3] t (0, 0))) (u0 u1 u2 u3 : Value) :
    ((((w.setCell ⟨b, 0, none⟩ u0).setCell ⟨b, 1, none⟩ u1).setCell ⟨b, 2, none⟩ u2).setCell ⟨b, 3, none⟩ u3).heap[b]? = some (.cells #[u0, u1, u2, u3] t (0, 0)) := by
  simp only [setCell_eq]
  simp [mapBlock, onCells, Array.getElem?_modify, h]
theorem below_set4Q {B b : Nat} {w w' : World} (h : Below B w w') (hb : B ≤ b) (u0 u1 u2 u3 : Value) :
    Below B w ((((w'.setCell ⟨b, 0, none⟩ u0).setCell ⟨b, 1, none⟩ u1).setCell ⟨b, 2, none⟩ u2).setCell ⟨b, 3, none⟩ u3) :=
  (((h.setCell hb _).setCell hb _).setCell hb _).setCell hb _
theorem set4Q_other (w : World) (b k : Nat) (u0 u1 u2 u3 : Value) (h : k ≠ b) : ((((w.setCell ⟨b, 0, none⟩ u0).setCell ⟨b, 1, none⟩ u1).setCell ⟨b, 2, none⟩ u2).setCell ⟨b, 3, none⟩ u3).heap[k]? = w.heap[k]? := by
  rw [heap_setCell_other _ _ k _ h, heap_setCell_other _ _ k _ h, heap_setCell_other _ _ k _ h, heap_setCell_other _ _ k _ h]
theorem results_ctQ {P : Program} {fn : Func} {p u : Tmp} {ty : TypeId} (h : fn.results = #[.cell p ty, .tmp u]) (tmps : Array Value) (w : World) (g : Nat) (t : TypeId) (cs : Array Value) (fr : Nat × Nat) (d : TypeDesc) (x : Value)
    (hp : tmps.getD p undef = .pointer (some ⟨g, 0, none⟩)) (hx : tmps.getD u undef = x) (hg : w.heap[g]? = some (.cells cs t fr))
    (hu : P.underlying ty = some d) (hd : (match d with | .struct _ | .array _ _ => true | _ => false) = true) (hi : (P.info? ty).map (·.size) = some cs.size) :
    (results fn tmps).run P w = .ok (.tuple #[.agg cs, x]) w := by
  have hp' : tmps[p]?.getD undef = .pointer (some ⟨g, 0, none⟩) := by simpa using hp
  have hx' : tmps[u]?.getD undef = x := by simpa using hx
  rw [results_cell_tmp h]
  simp [hp', hx', asAddr, run_loadVar_row w g t ty cs fr d hg hu hd hi, Result.andThen]
/-- the world in which a call has laid its ask and the cell of its answer -/
theorem arg2r (w : World) (v0 v1 v2 v3 : Value) : ∃ W, W = (w.alloc (.cells #[v0, v1, v2, v3] 24)).alloc (.cells #[.int .i64 0, .string ⟨#[]⟩, .int .i64 0, .slice none 0 0] 24) ∧ Below w.heap.size w W ∧ W.heap.size = w.heap.size + 2 ∧
    ∀ u : World, Below W.heap.size W u → u.heap[w.heap.size]? = some (.cells #[v0, v1, v2, v3] 24 (0, 0)) ∧ u.heap[w.heap.size + 1]? = some (.cells #[.int .i64 0, .string ⟨#[]⟩, .int .i64 0, .slice none 0 0] 24 (0, 0)) := by
  obtain ⟨W, hW⟩ : ∃ W, W = (w.alloc (.cells #[v0, v1, v2, v3] 24)).alloc (.cells #[.int .i64 0, .string ⟨#[]⟩, .int .i64 0, .slice none 0 0] 24) := ⟨_, rfl⟩
  have hs : W.heap.size = w.heap.size + 2 := by rw [hW]; simp
  refine ⟨W, hW, by rw [hW]; exact ((Below.refl _ _).alloc (Nat.le_refl _) _).alloc (by simp) _, hs, fun u hu => ?_⟩
  rw [hu.block _ (by omega), hu.block _ (by omega), hW]
  refine ⟨?_, ?_⟩
  · rw [haoQ _ _ _ (by simp), hanQ]
  · have := hanQ (w.alloc (.cells #[v0, v1, v2, v3] 24)) (.cells #[.int .i64 0, .string ⟨#[]⟩, .int .i64 0, .slice none 0 0] 24)
    simpa using this
end Go.Proofs.YtcegmcnknkjcpaaDoor
