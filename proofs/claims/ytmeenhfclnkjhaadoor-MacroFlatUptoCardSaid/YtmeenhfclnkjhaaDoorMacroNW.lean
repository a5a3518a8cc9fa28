/- The walk of macro.newTable. Conditions: the macros read as listed; names and values are at most 2^20 bytes; the machine's MaxLen is laid. -/
import Derived.Test.YtmeenhfclnkjhaaDoorMacroTW
import Derived.Test.YtmeenhfclnkjhaaDoorPairs
namespace Go.Proofs.YtmeenhfclnkjhaaDoor
open Go.RowKit Go.Shelf Go.Maps
def mF (m : Mac) : Value := .string (txt m.1)
def mG (m : Mac) : Value := .string (txt m.2)
/-- macros that the call can read -/
structure MacsIn (w : World) (p : Option Addr) (n c : Nat) (l : List Mac) : Prop where
  at_ : P2At mF mG w p n c l
  small : ∀ m ∈ l, m.1.length ≤ 1048576 ∧ m.2.length ≤ 1048576
theorem MacsIn.below {w w' : World} {p : Option Addr} {n c : Nat} {l : List Mac} (h : MacsIn w p n c l) (hb : Below w.heap.size w w') : MacsIn w' p n c l := ⟨h.at_.below hb, h.small⟩
/-- what newTable answers -/
def NewPost (w : World) (l : List Mac) (e : Ending) (w' : World) : Prop :=
  (∃ v, e = .returned (.tuple #[v, .int .i64 (tabE okM l)]) ∧ ((tabE okM l ≠ 0 ∧ v = .map none) ∨ (tabE okM l = 0 ∧ ∃ B eb uv st, v = .map (some B) ∧ TabW w' B w.heap.size l eb uv st ∧ ∀ n ∈ namesM l, st n = 2))) ∧ Below w.heap.size w w'
theorem namesM_snoc (l : List Mac) (m : Mac) : namesM (l ++ [m]) = namesM l ++ [m.1] := by unfold namesM; rw [List.map_append]; rfl
theorem mb1 (w : World) (o : Obj) : Below w.heap.size w (w.alloc o) := (Below.refl _ _).alloc (Nat.le_refl _) _
/-- one entry more -/
theorem TabW.more {w w' w2 : World} {B lo : Nat} {l : List Mac} {eb : Bs → Nat} {uv : Bs → Value} {m : Mac} (h : TabW w B lo l eb uv (fun _ => 0)) (hno : m.1 ∉ namesM l) (hlo : lo ≤ w.heap.size) {v : Value}
    (hw' : w' = w.alloc (.cells (entC m.2 v 0 none) 64)) (hown : w.ownsRow lo 9 1 v (usesM (prs okM m.2).1).length (strsV (usesM (prs okM m.2).1)))
    (hg : w'.grownBy w2 (some B)) (hm : ∃ N, MapP w2 B N (m.1 :: namesM l) (updM (ptrAt (namesM l) eb) m.1 (.pointer (some ⟨w.heap.size, 0, none⟩))) ∧ N ≤ l.length + 1) :
    TabW w2 B lo (l ++ [m]) (updM eb m.1 w.heap.size) (updM uv m.1 v) (fun _ => 0) := by
  have hBm : ∀ {b : Nat} {cs : Array Value} {t : TypeId} {fz : Nat × Nat}, w.heap[b]? = some (.cells cs t fz) → B ≠ b := by
    intro b cs t fz hb
    obtain ⟨N, h1, _⟩ := h.map
    exact map_ne h1 hb
  have hBlt : B < w.heap.size := by
    obtain ⟨N, h1, _⟩ := h.map
    exact h1.lt
  have hal : w.grownBy w' none := by rw [hw']; exact World.grownBy_alloc _ _ _
  have hx : ∀ x ∈ l, x.1 ≠ m.1 := fun x hx e => hno (e ▸ List.mem_map_of_mem hx)
  have hnew : w2.heap[w.heap.size]? = some (.cells (entC m.2 v 0 none) 64 (0, 0)) := by
    rw [hg.block _ (by rw [hw']; simp) (fun e => by injection e with e; omega), hw']
    exact mhan _ _
  refine ⟨?_, fun x hx' => ?_, fun x hx' => ?_, fun x hx' => ?_, fun x hx' y hy' e => ?_⟩
  · obtain ⟨N, h1, h2⟩ := hm
    refine ⟨N, ?_, by rw [List.length_append]; exact h2⟩
    obtain ⟨D, d1, d2, d3⟩ := h1
    refine ⟨D, d1, fun s => ?_, fun s => ?_⟩
    · rw [d2]
      congr 1
      unfold ptrAt
      by_cases e : s = m.1
      · rw [e, updM_same, updM_same, if_pos (by rw [namesM_snoc]; simp)]
      · rw [updM_other _ _ e, updM_other _ _ e, namesM_snoc]
        simp only [List.mem_append, List.mem_singleton, e, or_false]
    · rw [d3, namesM_snoc]
      simp [or_comm]
  · rcases List.mem_append.1 hx' with g1 | g1
    · rw [updM_other _ _ (hx x g1), updM_other _ _ (hx x g1)]
      have h1 := h.ent x g1
      rw [hg.block _ (Nat.lt_of_lt_of_le (mlt h1) hal.size) (fun e => by injection e with e; exact hBm h1 e.symm), hal.block _ (mlt h1) (by simp), h1]
      rfl
    · rw [List.mem_singleton.1 g1, updM_same, updM_same]
      exact hnew
  · rcases List.mem_append.1 hx' with g1 | g1
    · rw [updM_other _ _ (hx x g1)]
      have h1 := own_none (h.uses x g1) hal
      refine h1.kept hg ?_
      cases hq : (uv x.1).ownBlock with
      | none => exact .inl rfl
      | some k =>
        refine .inr (fun e => ?_)
        rcases (h.uses x g1).2 with ⟨e2, _⟩ | ⟨g, cap, cur, e2, _, hgb, _⟩
        · rw [e2] at hq; cases hq
        · rw [e2] at hq
          simp only [Value.ownBlock, Option.some.injEq] at hq e
          exact hBm hgb (by omega)
    · rw [List.mem_singleton.1 g1, updM_same]
      have h1 := own_none hown hal
      refine h1.kept hg ?_
      cases hq : v.ownBlock with
      | none => exact .inl rfl
      | some k =>
        refine .inr (fun e => ?_)
        rcases hown.2 with ⟨e2, _⟩ | ⟨g, cap, cur, e2, _, hgb, _⟩
        · rw [e2] at hq; cases hq
        · rw [e2] at hq
          simp only [Value.ownBlock, Option.some.injEq] at hq e
          exact hBm hgb (by omega)
  · rcases List.mem_append.1 hx' with g1 | g1
    · rw [updM_other _ _ (hx x g1)]; exact h.low x g1
    · rw [List.mem_singleton.1 g1, updM_same]; exact hlo
  · rcases List.mem_append.1 hx' with g1 | g1
    · rcases List.mem_append.1 hy' with g2 | g2
      · rw [updM_other _ _ (hx x g1), updM_other _ _ (hx y g2)] at e
        exact h.inj x g1 y g2 e
      · rw [List.mem_singleton.1 g2, updM_same, updM_other _ _ (hx x g1)] at e
        have := mlt (h.ent x g1)
        omega
    · rcases List.mem_append.1 hy' with g2 | g2
      · rw [List.mem_singleton.1 g1, updM_same, updM_other _ _ (hx y g2)] at e
        have := mlt (h.ent y g2)
        omega
      · rw [List.mem_singleton.1 g1, List.mem_singleton.1 g2]
theorem TabW.made (w : World) (lo : Nat) : TabW (w.alloc (.map #[] 0)) w.heap.size lo [] (fun _ => 0) (fun _ => nilP) (fun _ => 0) := by
  refine ⟨⟨0, ?_, Nat.le_refl _⟩, fun _ h => (by cases h), fun _ h => (by cases h), fun _ h => (by cases h), fun _ h => (by cases h)⟩
  exact MapP.made w
end Go.Proofs.YtmeenhfclnkjhaaDoor
