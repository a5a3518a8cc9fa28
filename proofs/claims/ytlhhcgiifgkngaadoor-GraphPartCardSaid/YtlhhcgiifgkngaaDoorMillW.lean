/- The graph of the facts; mill. Conditions: none. -/
import Derived.Test.YtlhhcgiifgkngaaDoorGraphRowsW
namespace Go.Proofs.YtlhhcgiifgkngaaDoor
open Go.RowKit Go.Shelf
def G0 : GD := ⟨[⟨#[97]⟩, ⟨#[98]⟩], [(0, 1)], 0#64, 1#64⟩
theorem good0 : Good G0 := by
  refine ⟨by decide, ?_, ?_, ?_, ?_, by decide⟩
  · intro j hj
    match j, hj with
    | 0, _ => decide +kernel
    | 1, _ => decide +kernel
  · intro i j hij hj
    have hj2 : j < 2 := hj
    have : i = 0 ∧ j = 1 := by omega
    rw [this.1, this.2]
    decide
  · intro x hx
    have : x = (0, 1) := by simpa [G0] using hx
    subst this
    exact ⟨by decide, by decide, by decide, by decide⟩
  · intro i hi
    have : i + 1 < 1 := hi
    omega
theorem haoM (w : World) (o : Obj) (i : Nat) (h : i < w.heap.size) : (w.alloc o).heap[i]? = w.heap[i]? := by
  show (w.heap.push o)[i]? = w.heap[i]?
  rw [Array.getElem?_push, if_neg (Nat.ne_of_lt h)]
theorem hanM (w : World) (o : Obj) : (w.alloc o).heap[w.heap.size]? = some o := by
  show (w.heap.push o)[w.heap.size]? = some o
  simp
theorem rows0 : rowsE 2 [(0, 1)] = [2#64, 0#64] := by decide
set_option maxHeartbeats 600000 in
theorem mill_ok (w : World) : Calls Tryd.prog 55 #[] w fun e w' => (∃ v, e = .returned v ∧ GrAt w' v G0) ∧ Below w.heap.size w w' := by
  go_enter Tryd.func55, Tryd.ntmps55
  go_wp2
  obtain ⟨A, hA⟩ : ∃ A : Obj, A = .cells #[.slice (some ⟨w.heap.size + 1, 0, none⟩) 2 2, .slice (some ⟨w.heap.size + 1 + 1, 0, none⟩) 1 1, .int .u64 0, .int .u64 1] 26 := ⟨_, rfl⟩
  obtain ⟨D, hD⟩ : ∃ D : Obj, D = .cells #[.int .i64 0, .int .i64 1] 43 := ⟨_, rfl⟩
  rw [← hA, ← hD]
  have hs1 : (w.alloc A).heap.size = w.heap.size + 1 := by simp
  have hs2 : ((w.alloc A).alloc (.cells #[.string ⟨#[97]⟩, .string ⟨#[98]⟩] 9)).heap.size = w.heap.size + 1 + 1 := by simp
  have hN := NL_two (w.alloc A) ⟨#[97]⟩ ⟨#[98]⟩ (by decide) (by decide)
  rw [hs1] at hN
  have hN2 := hN.below ((Below.refl _ _).alloc (Nat.le_refl _) D)
  have hE : EsAt (((w.alloc A).alloc (.cells #[.string ⟨#[97]⟩, .string ⟨#[98]⟩] 9)).alloc D) (some ⟨w.heap.size + 1 + 1, 0, none⟩) 1 1 [(0, 1)] := by
    refine ⟨rfl, fun _ => ⟨w.heap.size + 1 + 1, 0, rfl, by simp, fun k x hx => ?_⟩, by omega⟩
    match k, hx with
    | 0, hx =>
      injection hx with hx
      subst hx
      rw [hD]
      exact ⟨(World.cell?_alloc_at _ _ _ _ hs2.symm).trans rfl, (World.cell?_alloc_at _ _ _ _ hs2.symm).trans rfl⟩
  refine bodyPost_ret (v := .agg #[.slice (some ⟨w.heap.size + 1, 0, none⟩) 2 2, .slice (some ⟨w.heap.size + 1 + 1, 0, none⟩) 1 1, .int .u64 0, .int .u64 1])
    (results_cell_row Tryd.results55 _ _ w.heap.size 26 _ (0, 0) _ rfl ?_ Tryd.underlying26 rfl (by kernel_rfl)) rfl
    ⟨⟨_, rfl, ⟨_, _, _, _, _, _, rfl, hN2, hE⟩⟩, (((Below.refl _ _).alloc (Nat.le_refl _) _).alloc (by rw [hs1]; omega) _).alloc (by rw [hs2]; omega) _⟩
  rw [haoM _ _ _ (by rw [hs2]; omega), haoM _ _ _ (by rw [hs1]; omega), hanM, hA]
theorem ownG_below {w w' : World} {base e n : Nat} {v : Value} {xs : List Value} (h : w.ownsRow base e 1 v n xs) (hb : Below w.heap.size w w') : w'.ownsRow base e 1 v n xs := by
  refine h.kept (row := none) ⟨hb.os, hb.tape, hb.output, hb.size, fun k hk _ => hb.block k hk⟩ ?_
  cases hv : v.ownBlock
  · exact .inl rfl
  · exact .inr (by simp)
end Go.Proofs.YtlhhcgiifgkngaaDoor
