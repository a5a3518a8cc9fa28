/- Slices of stamps (three cells each), handed in or owned. Conditions: none. -/
import Derived.Test.YtlhhcgiifgkngaaDoorLogRP
import Derived.Test.YtlhhcgiifgkngaaDoorPairs
import Derived.Test.YtlhhcgiifgkngaaDoorRows
import Derived.WalkKit
import Derived.Maps.AppendAt
namespace Go.Proofs.YtlhhcgiifgkngaaDoor
open Go.RowKit Go.ChangeShapes
theorem run_store_flS (P : Program) (w : World) (a : Addr) (m : Mode) (k : FloatKind) (b : Nat) : (store a (.float k b) m).run P w = stored P w a (.float k b) m := run_store P w a _ m rfl
attribute [go_sem] run_store_flS
def sN (x : StP) : Value := .string x.1
def sA (x : StP) : Value := .int .i64 x.2.1
def sT (x : StP) : Value := .float .f64 x.2.2
def encS (x : StP) : List Value := [sN x, sA x, sT x]
/-- the cells of stamps -/
def cells3 (l : List StP) : List Value := l.flatMap encS
theorem cells3_cons (x : StP) (l : List StP) : cells3 (x :: l) = sN x :: sA x :: sT x :: cells3 l := rfl
theorem cells3_append (l m : List StP) : cells3 (l ++ m) = cells3 l ++ cells3 m := by unfold cells3; simp
theorem cells3_len (l : List StP) : (cells3 l).length = l.length * 3 := by
  induction l with
  | nil => rfl
  | cons x l ih => rw [cells3_cons, List.length_cons, List.length_cons, List.length_cons, ih, List.length_cons]; omega
theorem cells3_at {l : List StP} {k : Nat} {x : StP} (h : l[k]? = some x) : (cells3 l)[k * 3]? = some (sN x) ∧ (cells3 l)[k * 3 + 1]? = some (sA x) ∧ (cells3 l)[k * 3 + 2]? = some (sT x) := by
  induction l generalizing k with
  | nil => cases h
  | cons y l ih =>
    rw [cells3_cons]
    cases k with
    | zero => simp at h; subst h; exact ⟨rfl, rfl, rfl⟩
    | succ k =>
      have := ih (k := k) (by simpa using h)
      rw [show (k + 1) * 3 = k * 3 + 1 + 1 + 1 from by omega]
      simpa using this
/-- a slice of stamps that the call can read -/
structure StAt (w : World) (p : Option Addr) (n c : Nat) (l : List StP) : Prop where
  len : l.length = n
  at_ : 0 < n → ∃ b o, p = some ⟨b, o, none⟩ ∧ b < w.heap.size ∧ ∀ k x, l[k]? = some x → w.cell? ⟨b, o + k * 3, none⟩ = some (sN x) ∧ w.cell? ⟨b, o + k * 3 + 1, none⟩ = some (sA x) ∧ w.cell? ⟨b, o + k * 3 + 2, none⟩ = some (sT x)
  big : n ≤ 4398046511104
theorem StAt.below {w w' : World} {p : Option Addr} {n c : Nat} {l : List StP} (h : StAt w p n c l) (hb : Below w.heap.size w w') : StAt w' p n c l :=
  ⟨h.len, fun hn => by
    obtain ⟨b, o, e, h1, h2⟩ := h.at_ hn
    refine ⟨b, o, e, Nat.lt_of_lt_of_le h1 hb.size, fun k x hx => ?_⟩
    obtain ⟨h3, h4, h5⟩ := h2 k x hx
    exact ⟨(hb.cell h1).trans h3, (hb.cell h1).trans h4, (hb.cell h1).trans h5⟩, h.big⟩
theorem StAt.cell {w : World} {p : Option Addr} {n c : Nat} {l : List StP} (h : StAt w p n c l) {k : Nat} {x : StP} (hx : l[k]? = some x) :
    ∃ b o, p = some ⟨b, o, none⟩ ∧ b < w.heap.size ∧ w.cell? ⟨b, o + k * 3, none⟩ = some (sN x) ∧ w.cell? ⟨b, o + k * 3 + 1, none⟩ = some (sA x) ∧ w.cell? ⟨b, o + k * 3 + 2, none⟩ = some (sT x) := by
  have hk := (List.getElem?_eq_some_iff.1 hx).1
  have := h.len
  obtain ⟨b, o, e, h1, h2⟩ := h.at_ (by omega)
  exact ⟨b, o, e, h1, h2 k x hx⟩
theorem StAt.own {w : World} {base n c : Nat} {e : TypeId} {p : Option Addr} {l : List StP} (h : w.ownsRow base e 3 (.slice p n c) n (cells3 l)) (hbig : n ≤ 4398046511104) : StAt w p n c l := by
  have hl : l.length = n := by have := h.1; rw [cells3_len] at this; omega
  refine ⟨hl, fun hn => ?_, hbig⟩
  obtain ⟨b, cap, hv, _, _⟩ := h.form hn
  injection hv with e1 e2 e3
  subst e1 e3
  have hlt := h.lt b rfl
  refine ⟨b, 0, rfl, hlt.2, fun k x hx => ?_⟩
  obtain ⟨h1, h2, h3⟩ := cells3_at hx
  have c1 := h.cells (g := b) rfl _ _ h1
  have c2 := h.cells (g := b) rfl _ _ h2
  have c3 := h.cells (g := b) rfl _ _ h3
  rw [Addr.add_lit] at c1 c2 c3
  exact ⟨c1, c2, c3⟩
/-- the part from place k on -/
theorem StAt.drop {w : World} {b o : Nat} {n c c' k : Nat} {l : List StP} (h : StAt w (some ⟨b, o, none⟩) n c l) (hk : k ≤ n) : StAt w (some ⟨b, o + k * 3, none⟩) (n - k) c' (l.drop k) := by
  refine ⟨by rw [List.length_drop, h.len], fun hn => ?_, Nat.le_trans (Nat.sub_le _ _) h.big⟩
  obtain ⟨b', o', e, h1, h2⟩ := h.at_ (by omega)
  injection e with e
  injection e with e1 e2
  subst e1 e2
  refine ⟨b, o + k * 3, rfl, h1, fun j x hx => ?_⟩
  rw [List.getElem?_drop] at hx
  have := h2 _ x hx
  rw [Nat.add_mul] at this
  simpa [Nat.add_assoc] using this
/-- a stamp's part of the slice, wherever it begins -/
theorem StAt.nil_ (w : World) (p : Option Addr) (c : Nat) : StAt w p 0 c [] := ⟨rfl, fun h => absurd h (Nat.lt_irrefl _), Nat.zero_le _⟩
theorem info_stamp : (Tryd.prog.info? 73).map (fun i => (i.zero, i.size, i.bytes)) = some (some (.agg #[.string ⟨#[]⟩, .int .i64 0, .float .f64 0]), 3, 32) := by kernel_rfl
theorem app_stamp (w : World) {ops : Array Oper} {rest : List Oper} {o : Oper} {a : Act} {Q : Exit → Act → World → Prop} (hgd : o.guard = none) (s x : Operand)
    (ho : o.op = .call { callee := .builtin .append, args := #[s, x], argTypes := #[69, 69] })
    (base : Nat) (v : Value) (n : Nat) (xs : List StP) (hs : a.eval s = v) (hown : w.ownsRow base 73 3 v n (cells3 xs))
    (g : Nat) (y : StP) (hx : a.eval x = .slice (some ⟨g, 0, none⟩) 1 1) (hc0 : w.cell? ⟨g, 0, none⟩ = some (.string y.1)) (hc1 : w.cell? ⟨g, 1, none⟩ = some (.int .i64 y.2.1)) (hc2 : w.cell? ⟨g, 2, none⟩ = some (.float .f64 y.2.2))
    (hn : n ≤ 4398046511103) (hbase : base ≤ w.heap.size)
    (h : ∀ v' w', w'.ownsRow base 73 3 v' (n + 1) (cells3 (xs ++ [y])) → w.grownBy w' v.ownBlock → wpList Tryd.prog ops Q rest (a.put o.dst v') w') : wpList Tryd.prog ops Q (o :: rest) a w := by
  obtain ⟨i0, hi, hz0, hz1, hz2⟩ := info_parts info_stamp
  refine wpList_append_own w hgd s x 69 ho base 73 i0 _ 3 32 Tryd.underlying69 hi hz0 hz1 hz2 rfl (by decide) v n _ hs hown ⟨g, 0, none⟩ 1 1 (encS y) hx rfl ?_ ?_ (by unfold maxLen; omega) (by omega) hbase (fun v' w' h1 h2 _ => h v' w' ?_ h2)
  · intro j q hj
    match j, hj with
    | 0, hj => simp [encS] at hj; subst hj; simpa [Addr.add, sN] using hc0
    | 1, hj => simp [encS] at hj; subst hj; simpa [Addr.add, sA] using hc1
    | 2, hj => simp [encS] at hj; subst hj; simpa [Addr.add, sT] using hc2
  · intro q hq
    simp only [encS, List.mem_cons, List.not_mem_nil, or_false] at hq
    rcases hq with rfl | rfl | rfl <;> rfl
  · rw [cells3_append]; exact h1
end Go.Proofs.YtlhhcgiifgkngaaDoor
