/- Appending an ask to a list of asks of the call's own; the list of asks as it lies behind. Conditions: none. -/
import Derived.Test.YtcegmcnknkjcpaaDoorAskCountW
import Derived.Test.YtcegmcnknkjcpaaDoorTyped
namespace Go.Proofs.YtcegmcnknkjcpaaDoor
open Go.RowKit
def askC (t : QT) : List Value := [.int .i64 t.kind, .string t.name, .int .i64 t.num, .slice t.p t.xs.length t.cap]
def asksC (l : List QT) : List Value := l.flatMap askC
theorem asksC_snoc (l : List QT) (t : QT) : asksC (l ++ [t]) = asksC l ++ askC t := by unfold asksC; rw [List.flatMap_append]; simp
theorem asksC_len (l : List QT) : (asksC l).length = l.length * 4 := by
  induction l with
  | nil => rfl
  | cons x l ih =>
    show (askC x ++ asksC l).length = _
    rw [List.length_append, ih, List.length_cons]
    have : (askC x).length = 4 := rfl
    omega
theorem asksC_at {l : List QT} {k : Nat} {x : QT} (h : l[k]? = some x) (j : Nat) (hj : j < 4) : (asksC l)[k * 4 + j]? = (askC x)[j]? := by
  induction l generalizing k with
  | nil => simp at h
  | cons y l ih =>
    have e : asksC (y :: l) = askC y ++ asksC l := rfl
    have hy : (askC y).length = 4 := rfl
    rw [e]
    cases k with
    | zero =>
      simp only [List.getElem?_cons_zero, Option.some.injEq] at h
      subst h
      rw [Nat.zero_mul, Nat.zero_add, List.getElem?_append_left (by omega)]
    | succ k =>
      rw [List.getElem?_append_right (by omega), hy, show (k + 1) * 4 + j - 4 = k * 4 + j by omega]
      exact ih (by simpa using h)
theorem info_ask : (Tryd.prog.info? 24).map (fun i => (i.zero, i.size, i.bytes)) = some (some (.agg #[.int .i64 0, .string ⟨#[]⟩, .int .i64 0, .slice none 0 0]), 4, 56) := by kernel_rfl
theorem app_ask (w : World) {ops : Array Oper} {rest : List Oper} {o : Oper} {a : Act} {Q : Exit → Act → World → Prop} (hgd : o.guard = none) (s x : Operand)
    (ho : o.op = .call { callee := .builtin .append, args := #[s, x], argTypes := #[22, 22] })
    (base : Nat) (v : Value) (n : Nat) (xs : List QT) (hs : a.eval s = v) (hown : w.ownsRow base 24 4 v n (asksC xs))
    (g : Nat) (y : QT) (hx : a.eval x = .slice (some ⟨g, 0, none⟩) 1 1) (hc0 : w.cell? ⟨g, 0, none⟩ = some (.int .i64 y.kind)) (hc1 : w.cell? ⟨g, 1, none⟩ = some (.string y.name)) (hc2 : w.cell? ⟨g, 2, none⟩ = some (.int .i64 y.num)) (hc3 : w.cell? ⟨g, 3, none⟩ = some (.slice y.p y.xs.length y.cap))
    (hn : n ≤ 1099511627776) (hbase : base ≤ w.heap.size)
    (h : ∀ v' w', w'.ownsRow base 24 4 v' (n + 1) (asksC (xs ++ [y])) → w.grownBy w' v.ownBlock → (v'.ownBlock = v.ownBlock ∨ v'.ownBlock = some w.heap.size) → wpList Tryd.prog ops Q rest (a.put o.dst v') w') : wpList Tryd.prog ops Q (o :: rest) a w := by
  obtain ⟨i0, hi, hz0, hz1, hz2⟩ := info_parts info_ask
  refine wpList_append_all w hgd s x 22 ho base 24 i0 _ 4 56 Tryd.underlying22 hi hz0 hz1 hz2 rfl (by decide) v n _ hs hown ⟨g, 0, none⟩ 1 1 (askC y) hx rfl ?_ ?_ (by unfold maxLen; omega) (by omega) hbase (fun _ => True) ?_ ?_ ?_ (fun v' w' h1 h2 _ h4 => h v' w' ?_ h2 h4)
  · intro j q hj
    match j, hj with
    | 0, hj => simp [askC] at hj; subst hj; simpa [Addr.add] using hc0
    | 1, hj => simp [askC] at hj; subst hj; simpa [Addr.add] using hc1
    | 2, hj => simp [askC] at hj; subst hj; simpa [Addr.add] using hc2
    | 3, hj => simp [askC] at hj; subst hj; simpa [Addr.add] using hc3
    | j + 4, hj => simp [askC] at hj
  · intro q hq; simp [askC] at hq; rcases hq with rfl | rfl | rfl | rfl <;> rfl
  · intro q hq; trivial
  · intro q hq; trivial
  · intro b hb
    rcases hown.2 with ⟨rfl, _⟩ | ⟨g', cap, cur, rfl, _, hlt, _, _, _, _⟩
    · simp [Value.ownBlock] at hb
    · simp [Value.ownBlock] at hb
      subst hb
      exact ⟨cur, _, _, hlt, fun _ _ => trivial⟩
  · rw [asksC_snoc]; exact h1
/-- a list of the call's own, as what is in an ask -/
theorem own_kids {w : World} {base : Nat} {p : Option Addr} {c : Nat} {l : List QT} (hown : w.ownsRow base 24 4 (.slice p l.length c) l.length (asksC l)) (hk : ∀ x ∈ l, QIn w x) :
    QsIn w p 0 l ∧ l.length ≤ c ∧ ((p = none ∧ c = 0 ∧ l = []) ∨ ∃ b cur, p = some ⟨b, 0, none⟩ ∧ base ≤ b ∧ b < w.heap.size ∧ w.heap[b]? = some (.cells cur 24 (0, 0)) ∧ cur.size = 4 * c ∧ c ≤ 9223372036854775807) := by
  rcases hown.2 with ⟨hv, hn⟩ | ⟨g, cap, cur, hv, hb, hg, hnc, hml, hcs, _⟩
  · injection hv with e1 e2 e3
    have hl := List.length_eq_zero_iff.1 hn
    subst e1 e3 hl
    exact ⟨trivial, Nat.le_refl _, .inl ⟨rfl, rfl, rfl⟩⟩
  · injection hv with e1 e2 e3
    subst e1 e3
    have hlt := (Array.getElem?_eq_some_iff.1 hg).1
    refine ⟨QsIn.mk fun j x hx => ⟨⟨g, 0, rfl, hlt, ?_⟩, hk x (List.mem_of_getElem? hx)⟩, hnc, .inr ⟨g, cur, rfl, hb, hlt, hg, by omega, by unfold maxLen at hml; omega⟩⟩
    have hj : j < l.length := by
      rcases Nat.lt_or_ge j l.length with h1 | h1
      · exact h1
      · rw [List.getElem?_eq_none h1] at hx; cases hx
    have hc : ∀ i, i < 4 → w.cell? ⟨g, j * 4 + i, none⟩ = (askC x)[i]? := fun i hi => by
      rw [hown.cellAt (j * 4 + i) (by omega), asksC_at hx i hi]
    rw [show 0 + 4 * (0 + j) = j * 4 by omega]
    exact ⟨hc 0 (by omega), hc 1 (by omega), hc 2 (by omega), hc 3 (by omega)⟩
end Go.Proofs.YtcegmcnknkjcpaaDoor
