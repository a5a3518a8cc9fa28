/- A range over a function whose closure keeps its state in a variable that it writes itself (strings.Lines); the body leaves by 'return' alone. Conditions: as listed. -/
import Derived.RangeFuncNested
import Derived.RangeFuncBound
import Derived.RangeFuncCalls
import Derived.RangeFuncLeaves
import Derived.RangeFuncWrites
import Derived.Shelf.Abstract
import Derived.WalkKit
import Derived.OwnWalkIn
import Derived.TacticsInMore
import Derived.LoopNIn
import Derived.LoopIn
namespace Go.Proofs.YtlhhcgiifgkngaaDoor
open Go Go.RowKit Go.Shelf
variable {F : Fence} {n : Nat} {P : Program}
/-- what an iterator keeps to whose closure writes block Bs: every invariant that abides its own writes is carried from round to round -/
def SeqBox {α : Type} (F : Fence) (n : Nat) (P : Program) (g : Nat) (lb : Array Value) (encs : α → Array Value) (Bs : Nat) (S Sp : List α → Prop) (N : Nat) (w : World) : Prop :=
  ∀ (l : Nat) (J Jx : List α → World → Prop) (W : World), Below w.heap.size w W → AbidesFrom W.heap.size J → AbidesFrom W.heap.size Jx → (∀ pre V v, J pre V → J pre (V.setCell ⟨Bs, 0, none⟩ v)) →
    (∀ pre x W1, J pre W1 → pre.length < N → YieldAt F (n - 1) P l (encs x) W1 fun e W' => (e = .returned (.bool true) ∧ J (pre ++ [x]) W' ∧ W'.heap[Bs]? = W1.heap[Bs]?) ∨ (e = .returned (.bool false) ∧ Jx (pre ++ [x]) W')) →
    J [] W → CallsIn F n P g (#[.func (.yield l) #[] #[]] ++ lb) W fun e W' => (∃ v, e = .returned v) ∧ ((∃ xs, S xs ∧ J xs W') ∨ (∃ pre, Sp pre ∧ Jx pre W'))
/-- how the body of a round may be left -/
def boxPost {α : Type} (B Bs : Nat) (I Ix : List α → World → Prop) (xs : List α) (W : World) : Exit → Act → World → Prop
  | .normal, _, W' => KeepsFrom B W W' ∧ W'.heap[Bs]? = W.heap[Bs]? ∧ I xs W'
  | .ret, _, W' => KeepsFrom B W W' ∧ Ix xs W'
  | _, _, _ => False
theorem wpIn_range_box {α : Type} {g : Operand} {ps : Array Tmp} {assign body : Code} {Q : Exit → Act → World → Prop} {a : Act} {w : World} {gf Bs N : Nat} {lb : Array Value} {encs : α → Array Value} {S Sp : List α → Prop} {w0 : World}
    (hro : F.round = none) (h1 : 1 ≤ n) (hg : a.eval g = .func (.func gf) #[] lb) (hFg : F.fn gf) (eg : ∀ args w, (callFunc gf args).run P w = .ok (.enter gf args) w)
    (hBs : Bs < w.heap.size) (hseq : SeqBox F (n - 1) P gf lb encs Bs S Sp N w0) (hb0 : Below w0.heap.size w0 w) (hps : ∀ x, (encs x).size = ps.size)
    (I Ix : List α → World → Prop) (hI : OwnFrom w.heap.size I) (hIx : OwnFrom w.heap.size Ix) (hIs : ∀ pre V v, I pre V → I pre (V.setCell ⟨Bs, 0, none⟩ v)) (h0 : I [] w) (a₁ : α → Act)
    (hassign : ∀ (l : Nat) (x : α) (W : World) (K : Act → World → Prop), K (a₁ x) W →
      assign.wpIn (F.inRound l) (n - 1 - 1) P (Exit.then K (fun _ _ _ => False)) { tmps := (ps.zip (encs x)).foldl (fun t (p, v) => t.setIfInBounds p v) a.tmps, defers := [] } W)
    (hbody : ∀ (l : Nat) (pre : List α) (x : α) (W : World), I pre W → pre.length < N → body.wpIn (F.inRound l) (n - 1 - 1) P (boxPost w.heap.size Bs I Ix (pre ++ [x]) W) (a₁ x) W)
    (hdone : ∀ (D : Nat) (xs : List α) (W : World), w.heap.size ≤ D → S xs → I xs W → W.heap[D]? = some (.deferred (some [])) → Q .normal { a with defers := { target := .collected D, args := #[] } :: a.defers } W)
    (hstop : ∀ (D : Nat) (pre : List α) (W : World), w.heap.size ≤ D → Sp pre → Ix pre W → W.heap[D]? = some (.deferred (some [])) → Code.ret.wpIn F n P Q { a with defers := { target := .collected D, args := #[] } :: a.defers } W) :
    (Code.rangeFunc g ps assign body).wpIn F n P Q a w := by
  refine wpIn_rangeFunc fun fn hfn => ?_
  rw [hro]
  obtain ⟨rec, hrec⟩ : ∃ rec : LoopState → Option Code → Loop, rec = fun st pe => { state := st, pending := pe, fn, tmps := a.tmps, params := ps, assign, body, defers := w.heap.size } := ⟨_, rfl⟩
  obtain ⟨L, hL⟩ : ∃ L, L = w.heap.size + 1 := ⟨_, rfl⟩
  -- the two blocks of the loop's own book-keeping
  obtain ⟨Bk, hBk⟩ : ∃ Bk : LoopState → Option Code → World → Prop, Bk = fun st pe W => W.heap[L]? = some (.loop (rec st pe)) ∧ W.heap[w.heap.size]? = some (.deferred (some [])) := ⟨_, rfl⟩
  have bk : ∀ {st pe W}, Bk st pe W ↔ (W.heap[L]? = some (.loop (rec st pe)) ∧ W.heap[w.heap.size]? = some (.deferred (some []))) := by intro st pe W; rw [hBk]
  have bkKeep : ∀ {st pe W W'}, Bk st pe W → KeepsFrom w.heap.size W W' → Bk st pe W' := by
    intro st pe W W' h k
    rw [bk] at h ⊢
    exact ⟨k.same _ _ (by omega) h.1 rfl, k.same _ _ (Nat.le_refl _) h.2 rfl⟩
  have bkPut : ∀ {st pe W} (st' pe'), Bk st pe W → Bk st' pe' (W.putObj L (.loop (rec st' pe'))) := by
    intro st pe W st' pe' h
    rw [bk] at h ⊢
    exact ⟨World.putObj_heap_same (Array.getElem?_eq_some_iff.1 h.1).1, (World.putObj_heap_other (by omega)).trans h.2⟩
  have bkGrow : ∀ {st pe A B row}, Bk st pe A → A.grownBy B row → (∀ r, row = some r → ∃ o : Obj, A.heap[r]? = some o ∧ o.isWalk = true) → Bk st pe B := by
    intro st pe A B row h hgr hr
    rw [bk] at h ⊢
    exact ⟨(grownBy_keeps hgr hr h.1 rfl).trans h.1, (grownBy_keeps hgr hr h.2 rfl).trans h.2⟩
  obtain ⟨W1, hW1⟩ : ∃ W1, W1 = (w.alloc (.deferred (some []))).alloc (.loop (rec .ready none)) := ⟨_, rfl⟩
  have hB1 : Below w.heap.size w W1 := by rw [hW1]; exact ((Below.refl _ w).alloc (Nat.le_refl _) _).alloc (by simp) _
  have hs1 : W1.heap.size = w.heap.size + 2 := by rw [hW1]; simp
  have hk1 : Bk .ready none W1 := by
    rw [bk, hW1, hL]
    refine ⟨?_, (Below.heap_alloc _ _ _ (by simp)).trans (World.alloc_heap_new w _)⟩
    have := World.alloc_heap_new (w.alloc (.deferred (some []))) (.loop (rec .ready none))
    rwa [World.size_alloc] at this
  have hI1 : I [] W1 := by rw [hW1]; exact hI.alloc _ (hI.alloc _ h0)
  have hen : (Instr.enterLoop fn a.tmps ps assign body none).run P w = .ok (L, [{ target := .collected w.heap.size, args := #[] }]) W1 := by
    rw [hW1, hL, hrec]
    exact run_enterLoop_outer _ _ _ _ _
  refine ⟨L, [{ target := .collected w.heap.size, args := #[] }], W1, { target := .fn (.func gf) lb, args := #[.func (.yield L) #[] #[]] }, W1, gf, #[.func (.yield L) #[] #[]] ++ lb, W1, hen, ?_, ?_, ?_, fun _ => h1, ?_⟩
  · simp only [resolve, hg]
    simp [go_sem]
  · intro f' hf'
    simp [Target.leads] at hf'
    subst hf'
    exact hFg
  · simp [invoke, go_sem, eg]
  · refine (hseq L (fun pre W => I pre W ∧ Bk .ready none W) (fun pre W => Ix pre W ∧ Bk .done (some .ret) W) W1 (hb0.trans (hB1.mono hb0.size)) ?_ ?_ ?_ ?_ ⟨hI1, hk1⟩).mono ?_
    · intro s A B row hs hgr hr
      exact ⟨hI s A B row hs.1 hgr fun r e => by
        obtain ⟨q1, o, q2, q3⟩ := hr r e
        exact ⟨by omega, o, q2, Obj.not_cells_of_walk q3⟩, bkGrow hs.2 hgr fun r e => (hr r e).2⟩
    · intro s A B row hs hgr hr
      exact ⟨hIx s A B row hs.1 hgr fun r e => by
        obtain ⟨q1, o, q2, q3⟩ := hr r e
        exact ⟨by omega, o, q2, Obj.not_cells_of_walk q3⟩, bkGrow hs.2 hgr fun r e => (hr r e).2⟩
    · exact fun pre V v hs => ⟨hIs pre V v hs.1, bkKeep hs.2 ((KeepsOthers.setCell _ _ _).from _)⟩
    · rintro pre x W ⟨hi, hk⟩ hlen
      have hl : W.heap[L]? = some (.loop (rec .ready none)) := (bk.1 hk).1
      have hy := run_yield (P := P) (args := encs x) hl (by rw [hrec]; exact hps x)
      rw [hrec] at hy
      have hbr := run_beginRound (P := P) hl (by rw [hrec])
      have ebusy : ({ rec .ready none with state := .busy } : Loop) = rec .busy none := by rw [hrec]
      rw [ebusy] at hbr
      refine ⟨fn, _, assign, body, hy, roundIn_of_wpIn hfn (hassign _ x W _ ⟨_, hbr, ?_⟩)⟩
      have hk2 : Bk .busy none (W.putObj L (.loop (rec .busy none))) := bkPut _ _ hk
      have eBs : ∀ (V : World) (o : Obj), (V.putObj L o).heap[Bs]? = V.heap[Bs]? := fun V o => World.putObj_heap_other (by omega)
      refine wpIn_mono (hbody _ pre x _ (hI.putObj _ hi (by omega) hl rfl) hlen) ?_
      have fin : ∀ (jump : Option Code) (W3 : World), KeepsFrom w.heap.size (W.putObj L (.loop (rec .busy none))) W3 → W3.heap[L]? = some (.loop (rec .busy none)) ∧
          (Instr.endRound L jump).run P W3 = .ok (.bool jump.isNone) (W3.putObj L (.loop (rec (if jump.isNone then .ready else .done) jump))) ∧ Bk (if jump.isNone then .ready else .done) jump (W3.putObj L (.loop (rec (if jump.isNone then .ready else .done) jump))) := by
        intro jump W3 k3
        have hk3 := bkKeep hk2 k3
        have hl3 := (bk.1 hk3).1
        have he := run_endRound (P := P) jump hl3
        have e2 : ({ rec .busy none with state := if jump.isNone then .ready else .done, pending := jump } : Loop) = rec (if jump.isNone then .ready else .done) jump := by rw [hrec]
        rw [e2] at he
        exact ⟨hl3, he, bkPut _ _ hk3⟩
      rintro e a3 W3 hp
      cases e with
      | normal =>
        obtain ⟨k3, b3, i3⟩ := hp
        obtain ⟨hl3, hr, hk4⟩ := fin none W3 k3
        exact ⟨_, _, hr, .inl ⟨rfl, ⟨hI.putObj _ i3 (by omega) hl3 rfl, hk4⟩, by rw [eBs, b3, eBs]⟩⟩
      | ret =>
        obtain ⟨k3, i3⟩ := hp
        obtain ⟨hl3, hr, hk4⟩ := fin (some .ret) W3 k3
        exact ⟨_, _, hr, .inr ⟨rfl, hIx.putObj _ i3 (by omega) hl3 rfl, hk4⟩⟩
      | exit id => exact hp.elim
      | goto t => exact hp.elim
      | panic ch => exact hp.elim
      | outgrown => exact hp.elim
    · rintro e W2 ⟨⟨v, rfl⟩, (⟨xs, hS, hi, hk⟩ | ⟨pre, hSp, hi, hk⟩)⟩
      · have hl := (bk.1 hk).1
        have he := run_endLoop (P := P) hl (by rw [hrec]; simp)
        rw [show (rec .ready none).pending = none by rw [hrec]] at he
        exact ⟨none, _, he, hdone _ xs _ (Nat.le_refl _) hS (hI.putObj _ hi (by omega) hl rfl) ((World.putObj_heap_other (by omega)).trans (bk.1 hk).2)⟩
      · have hl := (bk.1 hk).1
        have he := run_endLoop (P := P) hl (by rw [hrec]; simp)
        rw [show (rec .done (some .ret)).pending = some .ret by rw [hrec]] at he
        exact ⟨some .ret, _, he, hstop _ pre _ (Nat.le_refl _) hSp (hIx.putObj _ hi (by omega) hl rfl) ((World.putObj_heap_other (by omega)).trans (bk.1 hk).2)⟩
end Go.Proofs.YtlhhcgiifgkngaaDoor
