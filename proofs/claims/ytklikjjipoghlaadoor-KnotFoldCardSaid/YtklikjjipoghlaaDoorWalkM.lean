/- How knot's walker lies in memory, and what each of its steps does to it. Conditions: none. -/
import Derived.Test.YtklikjjipoghlaaDoorSccP
import Derived.Test.YtklikjjipoghlaaDoorNestW
import Derived.Test.YtklikjjipoghlaaDoorPairPW
import Derived.Maps.AppendAt
namespace Go.Proofs.YtklikjjipoghlaaDoor
open Go.RowKit
theorem b7 {w : World} {b : Nat} {t : TypeId} {v0 v1 v2 v3 v4 v5 v6 : Value} (h : w.heap[b]? = some (.cells #[v0, v1, v2, v3, v4, v5, v6] t (0, 0))) :
    w.cell? ⟨b, 0, none⟩ = some v0 ∧ w.cell? ⟨b, 1, none⟩ = some v1 ∧ w.cell? ⟨b, 2, none⟩ = some v2 ∧ w.cell? ⟨b, 3, none⟩ = some v3 ∧ w.cell? ⟨b, 4, none⟩ = some v4 ∧ w.cell? ⟨b, 5, none⟩ = some v5 ∧ w.cell? ⟨b, 6, none⟩ = some v6 ∧ ∀ o, w.frozen? ⟨b, o, none⟩ = false := by
  refine ⟨?_, ?_, ?_, ?_, ?_, ?_, ?_, fun o => ?_⟩
  all_goals simp [World.cell?, World.frozen?, h]
def obk (p : Option Addr) : Option Nat := p.map (·.block)
theorem ownBlock_obk (p : Option Addr) (n c : Nat) : (Value.slice p n c).ownBlock = obk p := by cases p <;> rfl
theorem own_take {w : World} {base e n k c : Nat} {p : Option Addr} {xs : List Value} (h : w.ownsRow base e 1 (.slice p n c) n xs) (hk : k ≤ n) : w.ownsRow base e 1 (.slice p k c) k (xs.take k) := by
  have hl : xs.length = n := by have := h.1; omega
  refine ⟨by simp; omega, ?_⟩
  rcases h.2 with ⟨h1, h2⟩ | ⟨g, cap, cur, h1, h2, h3, h4, h5, h6, h7⟩
  · injection h1 with e1 e2 e3
    have : k = 0 := by omega
    subst this e1 e3
    exact .inl ⟨rfl, rfl⟩
  · injection h1 with e1 e2 e3
    subst e1 e3
    refine .inr ⟨g, c, cur, rfl, h2, h3, by omega, h5, h6, ?_⟩
    rw [← h7, List.take_take, Nat.mul_one, Nat.mul_one, Nat.min_eq_left hk]
/-- the walker at bw: when each was met lies at bm, how low it comes back to at bl -/
structure WAt (w : World) (B0 B1 bw bm bl : Nat) (pr : Option Addr) (n c : Nat) (ps : Option Addr) (cs : Nat) (po : Option Addr) (co : Nat) (t : TS) : Prop where
  box : w.heap[bw]? = some (.cells #[.slice pr n c, .slice (some ⟨bm, 0, none⟩) n n, .slice (some ⟨bl, 0, none⟩) n n, .slice ps t.st.length cs, .int .u64 (un t.on : Int), .int .i64 (t.now : Int), .slice po t.out.length co] 101 (0, 0))
  om : w.ownsRow B0 3 1 (.slice (some ⟨bm, 0, none⟩) n n) n (ints t.met)
  ol : w.ownsRow B0 3 1 (.slice (some ⟨bl, 0, none⟩) n n) n (ints t.low)
  os : w.ownsRow B1 3 1 (.slice ps t.st.length cs) t.st.length (ints t.st)
  oo : w.ownsRow B1 28 1 (.slice po t.out.length co) t.out.length (u64s t.out)
  gw : B0 ≤ bw ∧ bw < B1
  gm : B0 ≤ bm ∧ bm < B1
  gl : B0 ≤ bl ∧ bl < B1
  wm : bw ≠ bm
  wl : bw ≠ bl
  ml : bm ≠ bl
/-- what a part of the walk leaves as it was -/
structure Walked (bw bm bl : Nat) (w : World) (ps po : Option Addr) (w' : World) (ps' po' : Option Addr) : Prop where
  size : w.heap.size ≤ w'.heap.size
  keep : ∀ b, b < w.heap.size → b ≠ bw → b ≠ bm → b ≠ bl → obk ps ≠ some b → obk po ≠ some b → w'.heap[b]? = w.heap[b]?
  sb : ∀ b, obk ps' = some b → obk ps = some b ∨ w.heap.size ≤ b
  ob : ∀ b, obk po' = some b → obk po = some b ∨ w.heap.size ≤ b
section
variable {w w' w1 w2 : World} {B0 B1 bw bm bl n c cs co : Nat} {pr ps po ps1 po1 ps2 po2 : Option Addr} {t : TS}
theorem Walked.refl (bw bm bl : Nat) (w : World) (ps po : Option Addr) : Walked bw bm bl w ps po w ps po := ⟨Nat.le_refl _, fun _ _ _ _ _ _ _ => rfl, fun _ h => .inl h, fun _ h => .inl h⟩
theorem Walked.trans (h : Walked bw bm bl w ps po w1 ps1 po1) (h2 : Walked bw bm bl w1 ps1 po1 w2 ps2 po2) : Walked bw bm bl w ps po w2 ps2 po2 := by
  refine ⟨Nat.le_trans h.size h2.size, fun b hb h3 h4 h5 h6 h7 => ?_, fun b hb => ?_, fun b hb => ?_⟩
  · rw [h2.keep b (Nat.lt_of_lt_of_le hb h.size) h3 h4 h5 (fun e => by
      rcases h.sb b e with e1 | e1
      · exact h6 e1
      · omega) (fun e => by
      rcases h.ob b e with e1 | e1
      · exact h7 e1
      · omega), h.keep b hb h3 h4 h5 h6 h7]
  · rcases h2.sb b hb with e1 | e1
    · exact h.sb b e1
    · have := h.size; exact .inr (by omega)
  · rcases h2.ob b hb with e1 | e1
    · exact h.ob b e1
    · have := h.size; exact .inr (by omega)
/-- a step that writes one of the walker's three blocks -/
theorem Walked.set (h : Walked bw bm bl w ps po w1 ps1 po1) {a : Addr} (u : Value) (ha : a.block = bw ∨ a.block = bm ∨ a.block = bl) : Walked bw bm bl w ps po (w1.setCell a u) ps1 po1 := by
  refine ⟨by simpa using h.size, fun b hb h3 h4 h5 h6 h7 => ?_, h.sb, h.ob⟩
  rw [heap_setCell_other w1 a b u (fun e => by rcases ha with e1 | e1 | e1 <;> omega)]
  exact h.keep b hb h3 h4 h5 h6 h7
theorem Walked.drew (h : Walked bw bm bl w ps po w1 ps1 po1) : Walked bw bm bl w ps po w1.drew ps1 po1 := ⟨h.size, h.keep, h.sb, h.ob⟩
theorem Walked.drewN (h : Walked bw bm bl w ps po w1 ps1 po1) (k : Nat) : Walked bw bm bl w ps po (w1.drewN k) ps1 po1 := ⟨h.size, h.keep, h.sb, h.ob⟩
theorem Walked.alloc (h : Walked bw bm bl w ps po w1 ps1 po1) (o : Obj) : Walked bw bm bl w ps po (w1.alloc o) ps1 po1 := by
  refine ⟨by have := h.size; simp; omega, fun b hb h3 h4 h5 h6 h7 => ?_, h.sb, h.ob⟩
  rw [old_alloc w1 o b (Nat.lt_of_lt_of_le hb h.size)]
  exact h.keep b hb h3 h4 h5 h6 h7
theorem Walked.below (h : Walked bw bm bl w ps po w1 ps1 po1) (hb : Below w1.heap.size w1 w2) : Walked bw bm bl w ps po w2 ps1 po1 := by
  refine ⟨Nat.le_trans h.size hb.size, fun b hb' h3 h4 h5 h6 h7 => ?_, h.sb, h.ob⟩
  rw [hb.block b (Nat.lt_of_lt_of_le hb' h.size)]
  exact h.keep b hb' h3 h4 h5 h6 h7
theorem Walked.stack {x : Option Nat} (h : Walked bw bm bl w ps po w1 ps1 po1) (hg : w1.grownBy w2 x) (hx : x = obk ps1) (hs : obk ps2 = obk ps1 ∨ obk ps2 = some w1.heap.size) : Walked bw bm bl w ps po w2 ps2 po1 := by
  subst hx
  refine ⟨Nat.le_trans h.size hg.size, fun b hb h3 h4 h5 h6 h7 => ?_, fun b hb => ?_, h.ob⟩
  · rw [hg.block b (Nat.lt_of_lt_of_le hb h.size) (fun e => by
      rcases h.sb b e.symm with e1 | e1
      · exact h6 e1
      · omega)]
    exact h.keep b hb h3 h4 h5 h6 h7
  · rcases hs with e | e
    · rw [e] at hb; exact h.sb b hb
    · rw [e] at hb; injection hb with hb; have := h.size; exact .inr (by omega)
theorem Walked.outp {x : Option Nat} (h : Walked bw bm bl w ps po w1 ps1 po1) (hg : w1.grownBy w2 x) (hx : x = obk po1) (hs : obk po2 = obk po1 ∨ obk po2 = some w1.heap.size) : Walked bw bm bl w ps po w2 ps1 po2 := by
  subst hx
  refine ⟨Nat.le_trans h.size hg.size, fun b hb h3 h4 h5 h6 h7 => ?_, h.sb, fun b hb => ?_⟩
  · rw [hg.block b (Nat.lt_of_lt_of_le hb h.size) (fun e => by
      rcases h.ob b e.symm with e1 | e1
      · exact h7 e1
      · omega)]
    exact h.keep b hb h3 h4 h5 h6 h7
  · rcases hs with e | e
    · rw [e] at hb; exact h.ob b hb
    · rw [e] at hb; injection hb with hb; have := h.size; exact .inr (by omega)
/-- a row that is none of the walker's -/
theorem Walked.own {base e m : Nat} {v : Value} {xs : List Value} (h : Walked bw bm bl w ps po w1 ps1 po1) (ho : w.ownsRow base e 1 v m xs) (hne : ∀ b, v.ownBlock = some b → b ≠ bw ∧ b ≠ bm ∧ b ≠ bl ∧ obk ps ≠ some b ∧ obk po ≠ some b) : w1.ownsRow base e 1 v m xs := by
  refine ⟨ho.1, ?_⟩
  rcases ho.2 with h1 | ⟨g, cap, cur, rfl, h2, h3, h4⟩
  · exact .inl h1
  · obtain ⟨a1, a2, a3, a4, a5⟩ := hne g rfl
    exact .inr ⟨g, cap, cur, rfl, h2, (h.keep g (Array.getElem?_eq_some_iff.1 h3).1 a1 a2 a3 a4 a5).trans h3, h4⟩
theorem WAt.lt (h : WAt w B0 B1 bw bm bl pr n c ps cs po co t) : bw < w.heap.size := (Array.getElem?_eq_some_iff.1 h.box).1
theorem WAt.sblk (h : WAt w B0 B1 bw bm bl pr n c ps cs po co t) {b : Nat} (hb : obk ps = some b) : B1 ≤ b ∧ b < w.heap.size := by
  obtain ⟨_, _, _, hf⟩ := own_form h.os
  exact hf b (by rw [ownBlock_obk]; exact hb)
theorem WAt.oblk (h : WAt w B0 B1 bw bm bl pr n c ps cs po co t) {b : Nat} (hb : obk po = some b) : B1 ≤ b ∧ b < w.heap.size := by
  obtain ⟨_, _, _, hf⟩ := own_form h.oo
  exact hf b (by rw [ownBlock_obk]; exact hb)
theorem WAt.so (h : WAt w B0 B1 bw bm bl pr n c ps cs po co t) {b : Nat} (hb : obk ps = some b) : obk po ≠ some b := by
  have := own_apart (show (3 : Nat) ≠ 28 by decide) h.os h.oo (k := b) (by rw [ownBlock_obk]; exact hb)
  rwa [ownBlock_obk] at this
theorem WAt.kept {row : Option Nat} (h : WAt w B0 B1 bw bm bl pr n c ps cs po co t) (hg : w.grownBy w' row) (hr : ∀ b, row = some b → b ≠ bw ∧ b ≠ bm ∧ b ≠ bl ∧ obk ps ≠ some b ∧ obk po ≠ some b) : WAt w' B0 B1 bw bm bl pr n c ps cs po co t := by
  refine ⟨(hg.block bw h.lt (fun e => (hr bw e.symm).1 rfl)).trans h.box, own_keptT h.om hg fun k hk e => ?_, own_keptT h.ol hg fun k hk e => ?_, own_keptT h.os hg fun k hk e => ?_, own_keptT h.oo hg fun k hk e => ?_, h.gw, h.gm, h.gl, h.wm, h.wl, h.ml⟩
  · injection e with e; exact (hr k hk).2.1 e.symm
  · injection e with e; exact (hr k hk).2.2.1 e.symm
  · rw [ownBlock_obk] at e; exact (hr k hk).2.2.2.1 e
  · rw [ownBlock_obk] at e; exact (hr k hk).2.2.2.2 e
theorem WAt.below (h : WAt w B0 B1 bw bm bl pr n c ps cs po co t) (hb : Below w.heap.size w w') : WAt w' B0 B1 bw bm bl pr n c ps cs po co t :=
  h.kept (row := none) ⟨hb.os, hb.tape, hb.output, hb.size, fun k hk _ => hb.block k hk⟩ (fun b e => by cases e)
theorem WAt.drew (h : WAt w B0 B1 bw bm bl pr n c ps cs po co t) : WAt w.drew B0 B1 bw bm bl pr n c ps cs po co t :=
  h.kept (row := none) ⟨rfl, rfl, rfl, Nat.le_refl _, fun _ _ _ => rfl⟩ (fun b e => by cases e)
theorem WAt.drewN (h : WAt w B0 B1 bw bm bl pr n c ps cs po co t) (k : Nat) : WAt (w.drewN k) B0 B1 bw bm bl pr n c ps cs po co t :=
  h.kept (row := none) ⟨rfl, rfl, rfl, Nat.le_refl _, fun _ _ _ => rfl⟩ (fun b e => by cases e)
theorem WAt.alloc (h : WAt w B0 B1 bw bm bl pr n c ps cs po co t) (o : Obj) : WAt (w.alloc o) B0 B1 bw bm bl pr n c ps cs po co t :=
  h.kept (row := none) (World.grownBy_alloc _ _ none) (fun b e => by cases e)
/-- what is not in the walker's own block, behind a store to it -/
theorem WAt.boxed {u : Value} {k : Nat} (h : WAt w B0 B1 bw bm bl pr n c ps cs po co t) : (w.setCell ⟨bw, k, none⟩ u).ownsRow B0 3 1 (.slice (some ⟨bm, 0, none⟩) n n) n (ints t.met) ∧ (w.setCell ⟨bw, k, none⟩ u).ownsRow B0 3 1 (.slice (some ⟨bl, 0, none⟩) n n) n (ints t.low) ∧
    (w.setCell ⟨bw, k, none⟩ u).ownsRow B1 3 1 (.slice ps t.st.length cs) t.st.length (ints t.st) ∧ (w.setCell ⟨bw, k, none⟩ u).ownsRow B1 28 1 (.slice po t.out.length co) t.out.length (u64s t.out) := by
  have hg := grown_setP w ⟨bw, k, none⟩ u
  refine ⟨own_keptT h.om hg fun b hb e => ?_, own_keptT h.ol hg fun b hb e => ?_, own_keptT h.os hg fun b hb e => ?_, own_keptT h.oo hg fun b hb e => ?_⟩
  · injection hb with hb; injection e with e; exact h.wm (hb.trans e.symm)
  · injection hb with hb; injection e with e; exact h.wl (hb.trans e.symm)
  · injection hb with hb; rw [ownBlock_obk] at e; have := h.sblk e; have := h.gw; simp only at hb; omega
  · injection hb with hb; rw [ownBlock_obk] at e; have := h.oblk e; have := h.gw; simp only at hb; omega
theorem WAt.set5 (h : WAt w B0 B1 bw bm bl pr n c ps cs po co t) (z : Nat) : WAt (w.setCell ⟨bw, 5, none⟩ (.int .i64 (z : Int))) B0 B1 bw bm bl pr n c ps cs po co ⟨t.met, t.low, t.st, t.on, z, t.out⟩ := by
  obtain ⟨a1, a2, a3, a4⟩ := h.boxed (k := 5) (u := .int .i64 (z : Int))
  exact ⟨by rw [heap_setCell_same w bw 5 _ _ _ h.box]; rfl, a1, a2, a3, a4, h.gw, h.gm, h.gl, h.wm, h.wl, h.ml⟩
theorem WAt.set4 (h : WAt w B0 B1 bw bm bl pr n c ps cs po co t) (s : B) : WAt (w.setCell ⟨bw, 4, none⟩ (.int .u64 (un s : Int))) B0 B1 bw bm bl pr n c ps cs po co ⟨t.met, t.low, t.st, s, t.now, t.out⟩ := by
  obtain ⟨a1, a2, a3, a4⟩ := h.boxed (k := 4) (u := .int .u64 (un s : Int))
  exact ⟨by rw [heap_setCell_same w bw 4 _ _ _ h.box]; rfl, a1, a2, a3, a4, h.gw, h.gm, h.gl, h.wm, h.wl, h.ml⟩
theorem WAt.cut (h : WAt w B0 B1 bw bm bl pr n c ps cs po co t) {k : Nat} (hk : k ≤ t.st.length) : WAt (w.setCell ⟨bw, 3, none⟩ (.slice ps k cs)) B0 B1 bw bm bl pr n c ps cs po co ⟨t.met, t.low, t.st.take k, t.on, t.now, t.out⟩ := by
  obtain ⟨a1, a2, a3, a4⟩ := h.boxed (k := 3) (u := .slice ps k cs)
  have hl : (t.st.take k).length = k := by simp; omega
  have a3' := own_take a3 hk
  refine ⟨?_, a1, a2, ?_, a4, h.gw, h.gm, h.gl, h.wm, h.wl, h.ml⟩
  · rw [heap_setCell_same w bw 3 _ _ _ h.box]
    show some (Obj.cells #[_, _, _, .slice ps k cs, _, _, _] _ _) = some (Obj.cells #[_, _, _, .slice ps (t.st.take k).length cs, _, _, _] _ _)
    rw [hl]
  · show (w.setCell ⟨bw, 3, none⟩ (.slice ps k cs)).ownsRow B1 3 1 (.slice ps (t.st.take k).length cs) (t.st.take k).length (ints (t.st.take k))
    rw [hl]
    unfold ints at a3' ⊢
    rw [List.map_take]
    exact a3'
theorem WAt.put (h : WAt w B0 B1 bw bm bl pr n c ps cs po co t) (i x y : Nat) : WAt ((w.setCell ⟨bm, i, none⟩ (.int .i64 (x : Int))).setCell ⟨bl, i, none⟩ (.int .i64 (y : Int))) B0 B1 bw bm bl pr n c ps cs po co ⟨t.met.set i x, t.low.set i y, t.st, t.on, t.now, t.out⟩ := by
  have h1 := h.om.stored i (.int .i64 (x : Int))
  have h1l := h.ol.kept h1.2 (.inr fun e => h.ml (Option.some.inj e).symm)
  have h2 := h1l.stored i (.int .i64 (y : Int))
  have h2m := h1.1.kept h2.2 (.inr fun e => h.ml (Option.some.inj e))
  have hp1 := (h1.2.block bw h.lt (fun e => h.wm (Option.some.inj e))).trans h.box
  have hlt : bw < (w.setCell ⟨bm, i, none⟩ (.int .i64 (x : Int))).heap.size := (Array.getElem?_eq_some_iff.1 hp1).1
  have e1 : (ints t.met).set i (.int .i64 (x : Int)) = ints (t.met.set i x) := by unfold ints; rw [List.map_set]
  have e2 : (ints t.low).set i (.int .i64 (y : Int)) = ints (t.low.set i y) := by unfold ints; rw [List.map_set]
  refine ⟨(h2.2.block bw hlt (fun e => h.wl (Option.some.inj e))).trans hp1, ?_, ?_, ?_, ?_, h.gw, h.gm, h.gl, h.wm, h.wl, h.ml⟩
  · rw [← e1]; exact h2m
  · rw [← e2]; exact h2.1
  · refine own_keptT (own_keptT h.os h1.2 fun b hb e => ?_) h2.2 fun b hb e => ?_
    · injection hb with hb; rw [ownBlock_obk] at e; have := h.sblk e; have := h.gm; omega
    · injection hb with hb; rw [ownBlock_obk] at e; have := h.sblk e; have := h.gl; omega
  · refine own_keptT (own_keptT h.oo h1.2 fun b hb e => ?_) h2.2 fun b hb e => ?_
    · injection hb with hb; rw [ownBlock_obk] at e; have := h.oblk e; have := h.gm; omega
    · injection hb with hb; rw [ownBlock_obk] at e; have := h.oblk e; have := h.gl; omega
theorem WAt.putl (h : WAt w B0 B1 bw bm bl pr n c ps cs po co t) (i y : Nat) : WAt (w.setCell ⟨bl, i, none⟩ (.int .i64 (y : Int))) B0 B1 bw bm bl pr n c ps cs po co (lows t i y) := by
  have h2 := h.ol.stored i (.int .i64 (y : Int))
  have e2 : (ints t.low).set i (.int .i64 (y : Int)) = ints (t.low.set i y) := by unfold ints; rw [List.map_set]
  refine ⟨(h2.2.block bw h.lt (fun e => h.wl (Option.some.inj e))).trans h.box, h.om.kept h2.2 (.inr fun e => h.ml (Option.some.inj e)), ?_, ?_, ?_, h.gw, h.gm, h.gl, h.wm, h.wl, h.ml⟩
  · show World.ownsRow _ _ _ _ _ _ (ints (t.low.set i y))
    rw [← e2]; exact h2.1
  · refine own_keptT h.os h2.2 fun b hb e => ?_
    injection hb with hb; rw [ownBlock_obk] at e; have := h.sblk e; have := h.gl; omega
  · refine own_keptT h.oo h2.2 fun b hb e => ?_
    injection hb with hb; rw [ownBlock_obk] at e; have := h.oblk e; have := h.gl; omega
/-- one more at hand: the append, then the store -/
theorem WAt.push (h : WAt w B0 B1 bw bm bl pr n c ps cs po co t) {x : Option Nat} (hg : w.grownBy w' x) (hx : x = obk ps) {i cs2 : Nat} (ho : w'.ownsRow B1 3 1 (.slice ps2 (t.st.length + 1) cs2) (t.st.length + 1) (ints (t.st ++ [i]))) :
    w'.heap[bw]? = w.heap[bw]? ∧ WAt (w'.setCell ⟨bw, 3, none⟩ (.slice ps2 (t.st.length + 1) cs2)) B0 B1 bw bm bl pr n c ps2 cs2 po co ⟨t.met, t.low, t.st ++ [i], t.on, t.now, t.out⟩ := by
  have hne : ∀ b, x = some b → b ≠ bw ∧ b ≠ bm ∧ b ≠ bl ∧ obk po ≠ some b := fun b e => by
    have e' : obk ps = some b := hx ▸ e
    have := h.sblk e'; have := h.gw; have := h.gm; have := h.gl
    exact ⟨by omega, by omega, by omega, h.so e'⟩
  have hb := hg.block bw h.lt (fun e => (hne bw e.symm).1 rfl)
  have hbox := hb.trans h.box
  have m1 := own_keptT h.om hg fun k hk e => (hne k hk).2.1 (Option.some.inj e).symm
  have l1 := own_keptT h.ol hg fun k hk e => (hne k hk).2.2.1 (Option.some.inj e).symm
  have o1 := own_keptT h.oo hg fun k hk e => by rw [ownBlock_obk] at e; exact (hne k hk).2.2.2 e
  have hs := grown_setP w' ⟨bw, 3, none⟩ (.slice ps2 (t.st.length + 1) cs2)
  have hs1 : ∀ b, obk ps2 = some b → B1 ≤ b := fun b e => by
    obtain ⟨_, _, _, hf⟩ := own_form ho
    exact (hf b (by rw [ownBlock_obk]; exact e)).1
  refine ⟨hb, ⟨?_, own_keptT m1 hs fun b hb e => ?_, own_keptT l1 hs fun b hb e => ?_, ?_, own_keptT o1 hs fun b hb e => ?_, h.gw, h.gm, h.gl, h.wm, h.wl, h.ml⟩⟩
  · rw [heap_setCell_same w' bw 3 _ _ _ hbox]
    show some (Obj.cells #[_, _, _, .slice ps2 (t.st.length + 1) cs2, _, _, _] _ _) = some (Obj.cells #[_, _, _, .slice ps2 (t.st ++ [i]).length cs2, _, _, _] _ _)
    rw [List.length_append]; rfl
  · injection hb with hb; injection e with e; exact h.wm (hb.trans e.symm)
  · injection hb with hb; injection e with e; exact h.wl (hb.trans e.symm)
  · have : (t.st ++ [i]).length = t.st.length + 1 := by simp
    show World.ownsRow _ _ _ _ (.slice ps2 (t.st ++ [i]).length cs2) (t.st ++ [i]).length _
    rw [this]
    refine own_keptT ho hs fun b hb e => ?_
    injection hb with hb; rw [ownBlock_obk] at e; have := hs1 b e; have := h.gw; simp only at hb; omega
  · injection hb with hb; rw [ownBlock_obk] at e; have := h.oblk e; have := h.gw; simp only at hb; omega
/-- one part more -/
theorem WAt.outp (h : WAt w B0 B1 bw bm bl pr n c ps cs po co t) {x : Option Nat} (hg : w.grownBy w' x) (hx : x = obk po) {s : B} {co2 : Nat} (ho : w'.ownsRow B1 28 1 (.slice po2 (t.out.length + 1) co2) (t.out.length + 1) (u64s (t.out ++ [s]))) :
    w'.heap[bw]? = w.heap[bw]? ∧ WAt (w'.setCell ⟨bw, 6, none⟩ (.slice po2 (t.out.length + 1) co2)) B0 B1 bw bm bl pr n c ps cs po2 co2 ⟨t.met, t.low, t.st, t.on, t.now, t.out ++ [s]⟩ := by
  have hne : ∀ b, x = some b → b ≠ bw ∧ b ≠ bm ∧ b ≠ bl ∧ obk ps ≠ some b := fun b e => by
    have e' : obk po = some b := hx ▸ e
    have := h.oblk e'; have := h.gw; have := h.gm; have := h.gl
    exact ⟨by omega, by omega, by omega, fun e2 => h.so e2 e'⟩
  have hb := hg.block bw h.lt (fun e => (hne bw e.symm).1 rfl)
  have hbox := hb.trans h.box
  have m1 := own_keptT h.om hg fun k hk e => (hne k hk).2.1 (Option.some.inj e).symm
  have l1 := own_keptT h.ol hg fun k hk e => (hne k hk).2.2.1 (Option.some.inj e).symm
  have o1 := own_keptT h.os hg fun k hk e => by rw [ownBlock_obk] at e; exact (hne k hk).2.2.2 e
  have hs := grown_setP w' ⟨bw, 6, none⟩ (.slice po2 (t.out.length + 1) co2)
  have hs1 : ∀ b, obk po2 = some b → B1 ≤ b := fun b e => by
    obtain ⟨_, _, _, hf⟩ := own_form ho
    exact (hf b (by rw [ownBlock_obk]; exact e)).1
  refine ⟨hb, ⟨?_, own_keptT m1 hs fun b hb e => ?_, own_keptT l1 hs fun b hb e => ?_, own_keptT o1 hs fun b hb e => ?_, ?_, h.gw, h.gm, h.gl, h.wm, h.wl, h.ml⟩⟩
  · rw [heap_setCell_same w' bw 6 _ _ _ hbox]
    show some (Obj.cells #[_, _, _, _, _, _, .slice po2 (t.out.length + 1) co2] _ _) = some (Obj.cells #[_, _, _, _, _, _, .slice po2 (t.out ++ [s]).length co2] _ _)
    rw [List.length_append]; rfl
  · injection hb with hb; injection e with e; exact h.wm (hb.trans e.symm)
  · injection hb with hb; injection e with e; exact h.wl (hb.trans e.symm)
  · injection hb with hb; rw [ownBlock_obk] at e; have := h.sblk e; have := h.gw; simp only at hb; omega
  · have : (t.out ++ [s]).length = t.out.length + 1 := by simp
    show World.ownsRow _ _ _ _ (.slice po2 (t.out ++ [s]).length co2) (t.out ++ [s]).length _
    rw [this]
    refine own_keptT ho hs fun b hb e => ?_
    injection hb with hb; rw [ownBlock_obk] at e; have := hs1 b e; have := h.gw; simp only at hb; omega
end
theorem app_intB (w : World) {ops : Array Oper} {rest : List Oper} {o : Oper} {a : Act} {Q : Exit → Act → World → Prop} (hgd : o.guard = none) (s x : Operand)
    (ho : o.op = .call { callee := .builtin .append, args := #[s, x], argTypes := #[24, 24] })
    (base : Nat) (p : Option Addr) (n c : Nat) (xs : List Value) (hs : a.eval s = .slice p n c) (hown : w.ownsRow base 3 1 (.slice p n c) n xs)
    (g : Nat) (u : Value) (hu : u.oneCell' = true) (hx : a.eval x = .slice (some ⟨g, 0, none⟩) 1 1) (hcell : w.cell? ⟨g, 0, none⟩ = some u)
    (hn : n ≤ 1099511627776) (hbase : base ≤ w.heap.size)
    (h : ∀ p' c' w', w'.ownsRow base 3 1 (.slice p' (n + 1) c') (n + 1) (xs ++ [u]) → w.grownBy w' (obk p) → (obk p' = obk p ∨ obk p' = some w.heap.size) → wpList Tryd.prog ops Q rest (a.put o.dst (.slice p' (n + 1) c')) w') : wpList Tryd.prog ops Q (o :: rest) a w := by
  obtain ⟨i0, hi, hz0, hz1, hz2⟩ := info_parts info_int
  refine wpList_append_own_at w hgd s x 24 ho base 3 i0 (.int .i64 0) 1 8 Tryd.underlying24 hi hz0 hz1 hz2 rfl (by decide) _ n xs hs hown ⟨g, 0, none⟩ 1 1 [u] hx rfl ?_ ?_ (by unfold maxLen; omega) (by omega) hbase (fun v' w' h1 h2 _ h4 => ?_)
  · intro j q hj
    match j, hj with
    | 0, hj => simp at hj; subst hj; simpa [Addr.add] using hcell
  · intro q hq; simp at hq; subst hq; exact hu
  · obtain ⟨p', c', rfl, _⟩ := own_form h1
    rw [ownBlock_obk] at h2
    rw [ownBlock_obk, ownBlock_obk] at h4
    exact h p' c' w' h1 h2 h4
theorem app_u64B (w : World) {ops : Array Oper} {rest : List Oper} {o : Oper} {a : Act} {Q : Exit → Act → World → Prop} (hgd : o.guard = none) (s x : Operand)
    (ho : o.op = .call { callee := .builtin .append, args := #[s, x], argTypes := #[22, 22] })
    (base : Nat) (p : Option Addr) (n c : Nat) (xs : List Value) (hs : a.eval s = .slice p n c) (hown : w.ownsRow base 28 1 (.slice p n c) n xs)
    (g : Nat) (u : Value) (hu : u.oneCell' = true) (hx : a.eval x = .slice (some ⟨g, 0, none⟩) 1 1) (hcell : w.cell? ⟨g, 0, none⟩ = some u)
    (hn : n ≤ 1099511627776) (hbase : base ≤ w.heap.size)
    (h : ∀ p' c' w', w'.ownsRow base 28 1 (.slice p' (n + 1) c') (n + 1) (xs ++ [u]) → w.grownBy w' (obk p) → (obk p' = obk p ∨ obk p' = some w.heap.size) → wpList Tryd.prog ops Q rest (a.put o.dst (.slice p' (n + 1) c')) w') : wpList Tryd.prog ops Q (o :: rest) a w := by
  obtain ⟨i0, hi, hz0, hz1, hz2⟩ := info_parts info_u64
  refine wpList_append_own_at w hgd s x 22 ho base 28 i0 (.int .u64 0) 1 8 Tryd.underlying22 hi hz0 hz1 hz2 rfl (by decide) _ n xs hs hown ⟨g, 0, none⟩ 1 1 [u] hx rfl ?_ ?_ (by unfold maxLen; omega) (by omega) hbase (fun v' w' h1 h2 _ h4 => ?_)
  · intro j q hj
    match j, hj with
    | 0, hj => simp at hj; subst hj; simpa [Addr.add] using hcell
  · intro q hq; simp at hq; subst hq; exact hu
  · obtain ⟨p', c', rfl, _⟩ := own_form h1
    rw [ownBlock_obk] at h2
    rw [ownBlock_obk, ownBlock_obk] at h4
    exact h p' c' w' h1 h2 h4
end Go.Proofs.YtklikjjipoghlaaDoor
