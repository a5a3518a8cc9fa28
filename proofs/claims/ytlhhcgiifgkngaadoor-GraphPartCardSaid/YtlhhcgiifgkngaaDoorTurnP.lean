/- Turned edges, plainly. Conditions: none. -/
import Derived.Test.YtlhhcgiifgkngaaDoorGraphP
namespace Go.Proofs.YtlhhcgiifgkngaaDoor
def swapE (x : E2) : E2 := (x.2, x.1)
theorem swap_swap (x : E2) : swapE (swapE x) = x := rfl
theorem elt_trans {a b c : E2} (h : elt a b) (g : elt b c) : elt a c := by unfold elt at *; omega
theorem elt_irr {a : E2} : ¬ elt a a := by unfold elt; omega
theorem elt_tri (a b : E2) : elt a b ∨ a = b ∨ elt b a := by
  obtain ⟨a1, a2⟩ := a
  obtain ⟨b1, b2⟩ := b
  unfold elt
  simp only [Prod.mk.injEq]
  omega
theorem erise_pair {es : List E2} : ERise es ↔ es.Pairwise elt := by
  rw [List.pairwise_iff_getElem]
  have hg : ∀ i (h : i < es.length), es.getD i (0, 0) = es[i] := fun i h => by rw [List.getD_eq_getElem?_getD, List.getElem?_eq_getElem h]; rfl
  constructor
  · intro h i j hi hj hij
    obtain ⟨d, rfl⟩ : ∃ d, j = i + d + 1 := ⟨j - i - 1, by omega⟩
    clear hij
    induction d with
    | zero =>
      have := h i hj
      rw [hg i hi, hg _ hj] at this
      exact this
    | succ d ih =>
      have h1 := ih (by omega)
      have h2 := h (i + d + 1) hj
      rw [hg _ (by omega), hg (i + d + 1 + 1) hj] at h2
      exact elt_trans h1 h2
  · intro h i hi
    rw [hg i (by omega), hg _ hi]
    exact h i (i + 1) (by omega) hi (by omega)
theorem erise_ext : ∀ {l m : List E2}, l.Pairwise elt → m.Pairwise elt → (∀ x, x ∈ l ↔ x ∈ m) → l = m
  | [], [], _, _, _ => rfl
  | [], y :: m, _, _, h => absurd ((h y).2 List.mem_cons_self) (by simp)
  | x :: l, [], _, _, h => absurd ((h x).1 List.mem_cons_self) (by simp)
  | x :: l, y :: m, hl, hm, h => by
    rw [List.pairwise_cons] at hl hm
    have hxy : x = y := by
      rcases List.mem_cons.1 ((h x).1 List.mem_cons_self) with e | e
      · exact e
      · rcases List.mem_cons.1 ((h y).2 List.mem_cons_self) with f | f
        · exact f.symm
        · exact absurd (elt_trans (hl.1 y f) (hm.1 x e)) elt_irr
    subst hxy
    have : l = m := erise_ext hl.2 hm.2 fun z => by
      constructor
      · intro hzl
        rcases List.mem_cons.1 ((h z).1 (List.mem_cons_of_mem _ hzl)) with e | e
        · subst e; exact absurd (hl.1 _ hzl) elt_irr
        · exact e
      · intro hzm
        rcases List.mem_cons.1 ((h z).2 (List.mem_cons_of_mem _ hzm)) with e | e
        · subst e; exact absurd (hm.1 _ hzm) elt_irr
        · exact e
    rw [this]
/-- the edges of a turned graph -/
structure TurnOf (es ts : List E2) : Prop where
  rise : ERise ts
  mem : ∀ x, x ∈ ts ↔ swapE x ∈ es
theorem mem_swap {es : List E2} {x : E2} : x ∈ es.map swapE ↔ swapE x ∈ es := by
  rw [List.mem_map]
  constructor
  · rintro ⟨y, hy, rfl⟩; exact hy
  · intro h; exact ⟨swapE x, h, rfl⟩
theorem turn_of {es ts : List E2} (he : ERise es) (hp : ts.Perm (es.map swapE)) (hs : ts.Pairwise fun a b => ¬ elt b a) : TurnOf es ts := by
  have hnd : ts.Nodup := by
    rw [hp.nodup_iff]
    rw [List.Nodup, List.pairwise_map]
    refine (erise_pair.1 he).imp fun {a b} h e => ?_
    have : a = b := by rw [← swap_swap a, e]; rfl
    subst this
    exact elt_irr h
  refine ⟨erise_pair.2 ?_, fun x => by rw [hp.mem_iff, mem_swap]⟩
  refine (hs.and hnd).imp fun {a b} h => ?_
  rcases elt_tri a b with h1 | h1 | h1
  · exact h1
  · exact absurd h1 h.2
  · exact absurd h1 h.1
theorem turn_twice {es ts us : List E2} (he : ERise es) (h1 : TurnOf es ts) (h2 : TurnOf ts us) : us = es :=
  erise_ext (erise_pair.1 h2.rise) (erise_pair.1 he) fun x => by rw [h2.mem, h1.mem, swap_swap]
end Go.Proofs.YtlhhcgiifgkngaaDoor
