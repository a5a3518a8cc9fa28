/- Asks of their own that are written over: what is in memory then. Conditions: none. -/
import Derived.Test.YtcegmcnknkjcpaaDoorNormFnW
namespace Go.Proofs.YtcegmcnknkjcpaaDoor
open Go.RowKit Go.Shelf Go.Sort
/-- a group of four that is written over -/
def SpG (cur : Array Value) (i : Nat) : Prop := cur[4 * i]? = some (.int .i64 99) ∧ cur[4 * i + 1]? = some (.string ⟨#[]⟩) ∧ cur[4 * i + 2]? = some (.int .i64 0) ∧ cur[4 * i + 3]? = some (.slice none 0 0)
def EqG (cur cur' : Array Value) (i : Nat) : Prop := ∀ r, r < 4 → cur'[4 * i + r]? = cur[4 * i + r]?
theorem SpG.of {cur cur' : Array Value} {i : Nat} (h : SpG cur i) (he : EqG cur cur' i) : SpG cur' i :=
  ⟨(he 0 (by omega)).trans h.1, (he 1 (by omega)).trans h.2.1, (he 2 (by omega)).trans h.2.2.1, (he 3 (by omega)).trans h.2.2.2⟩
/-- the blocks of asks from n up to N are written over here and there, all else stays -/
structure Spl (n N : Nat) (u u' : World) : Prop where
  below : Below n u u'
  keep : ∀ b, N ≤ b → b < u.heap.size → u'.heap[b]? = u.heap[b]?
  grp : ∀ (b : Nat) (cur : Array Value), u.heap[b]? = some (.cells cur 24 (0, 0)) → ∃ cur' : Array Value, u'.heap[b]? = some (.cells cur' 24 (0, 0)) ∧ cur'.size = cur.size ∧ ∀ i, EqG cur cur' i ∨ SpG cur' i
theorem Spl.refl (n N : Nat) (u : World) : Spl n N u u := ⟨Below.refl _ _, fun _ _ _ => rfl, fun _ cur h => ⟨cur, h, rfl, fun _ => .inl fun _ _ => rfl⟩⟩
theorem Spl.trans {n N : Nat} {u v w : World} (h : Spl n N u v) (g : Spl n N v w) : Spl n N u w := by
  refine ⟨h.below.trans g.below, fun b h1 h2 => (g.keep b h1 (Nat.lt_of_lt_of_le h2 h.below.size)).trans (h.keep b h1 h2), fun b cur hb => ?_⟩
  obtain ⟨c1, h1, h2, h3⟩ := h.grp b cur hb
  obtain ⟨c2, g1, g2, g3⟩ := g.grp b c1 h1
  refine ⟨c2, g1, g2.trans h2, fun i => ?_⟩
  rcases g3 i with e | e
  · rcases h3 i with f | f
    · exact .inl fun r hr => (e r hr).trans (f r hr)
    · exact .inr (f.of e)
  · exact .inr e
/-- a call that lays blocks of its own -/
theorem Spl.ofBelow {n N : Nat} {u v : World} (hn : n ≤ u.heap.size) (h : Below u.heap.size u v) : Spl n N u v := by
  refine ⟨h.mono hn, fun b _ hb => h.block b hb, fun b cur hb => ⟨cur, ?_, rfl, fun _ => .inl fun _ _ => rfl⟩⟩
  rw [h.block b (Array.getElem?_eq_some_iff.1 hb).1]
  exact hb
theorem Spl.set4 {n N b i : Nat} {u : World} {cur : Array Value} (h : u.heap[b]? = some (.cells cur 24 (0, 0))) (hn : n ≤ b) (hN : b < N) (hi : 4 * i + 4 ≤ cur.size) :
    Spl n N u ((((u.setCell ⟨b, i * 4, none⟩ (.int .i64 99)).setCell ⟨b, i * 4 + 1, none⟩ (.string ⟨#[]⟩)).setCell ⟨b, i * 4 + 2, none⟩ (.int .i64 0)).setCell ⟨b, i * 4 + 3, none⟩ (.slice none 0 0)) := by
  refine ⟨((((Below.refl _ _).setCell hn _).setCell hn _).setCell hn _).setCell hn _, fun b' h1 _ => ?_, fun b' cur' hb' => ?_⟩
  · have hbb : b' ≠ b := by omega
    rw [heap_setCell_other _ _ b' _ hbb, heap_setCell_other _ _ b' _ hbb, heap_setCell_other _ _ b' _ hbb, heap_setCell_other _ _ b' _ hbb]
  by_cases hbb : b' = b
  · subst hbb
    rw [h] at hb'
    injection hb' with hb'
    injection hb' with hb' _
    subst hb'
    refine ⟨(((cur.set! (i * 4) (.int .i64 99)).set! (i * 4 + 1) (.string ⟨#[]⟩)).set! (i * 4 + 2) (.int .i64 0)).set! (i * 4 + 3) (.slice none 0 0), ?_, by simp, fun j => ?_⟩
    · simp only [setCell_eq]
      simp [mapBlock, onCells, Array.getElem?_modify, h]
    · by_cases hj : j = i
      · subst hj
        refine .inr ⟨?_, ?_, ?_, ?_⟩
        all_goals simp [Array.getElem?_setIfInBounds, Array.set!_eq_setIfInBounds, Nat.mul_comm 4 j]
        all_goals omega
      · refine .inl fun r hr => ?_
        simp only [Array.set!_eq_setIfInBounds, Array.getElem?_setIfInBounds]
        rw [if_neg (by omega), if_neg (by omega), if_neg (by omega), if_neg (by omega)]
  · refine ⟨cur', ?_, rfl, fun _ => .inl fun _ _ => rfl⟩
    rw [heap_setCell_other _ _ b' _ hbb, heap_setCell_other _ _ b' _ hbb, heap_setCell_other _ _ b' _ hbb, heap_setCell_other _ _ b' _ hbb]
    exact hb'
/-- an ask of its own, of which some is written over -/
inductive SpIn (w : World) (n N : Nat) : QT → Prop where
  | mk {k : Int} {s : ByteArray} {m : Int} {p : Option Addr} {c : Nat} {xs : List QT}
    (h : (p = none ∧ c = 0 ∧ xs = []) ∨ ∃ (b : Nat) (cur : Array Value), p = some ⟨b, 0, none⟩ ∧ n ≤ b ∧ b < N ∧ w.heap[b]? = some (.cells cur 24 (0, 0)) ∧ (cur.size = 4 * c ∧ c ≤ 9223372036854775807) ∧ xs.length ≤ c ∧
      ∀ (j : Nat) (x : QT), xs[j]? = some x → (cur[4 * j]? = some (.int .i64 x.kind) ∧ cur[4 * j + 1]? = some (.string x.name) ∧ cur[4 * j + 2]? = some (.int .i64 x.num) ∧ cur[4 * j + 3]? = some (.slice x.p x.xs.length x.cap)) ∨ SpG cur j)
    (hx : ∀ x ∈ xs, SpIn w n N x) : SpIn w n N (.mk k s m p c xs)
theorem SpIn.kids {w : World} {n N : Nat} {t : QT} (h : SpIn w n N t) : ∀ x ∈ t.xs, SpIn w n N x := by cases h; assumption
theorem SpIn.place {w : World} {n N : Nat} {t : QT} (h : SpIn w n N t) : (t.p = none ∧ t.cap = 0 ∧ t.xs = []) ∨ ∃ (b : Nat) (cur : Array Value), t.p = some ⟨b, 0, none⟩ ∧ n ≤ b ∧ b < N ∧ w.heap[b]? = some (.cells cur 24 (0, 0)) ∧ (cur.size = 4 * t.cap ∧ t.cap ≤ 9223372036854775807) ∧ t.xs.length ≤ t.cap ∧
      ∀ (j : Nat) (x : QT), t.xs[j]? = some x → (cur[4 * j]? = some (.int .i64 x.kind) ∧ cur[4 * j + 1]? = some (.string x.name) ∧ cur[4 * j + 2]? = some (.int .i64 x.num) ∧ cur[4 * j + 3]? = some (.slice x.p x.xs.length x.cap)) ∨ SpG cur j := by cases h; assumption
theorem SpIn.spl {w w' : World} {n N : Nat} {t : QT} (h : SpIn w n N t) (hs : Spl n N w w') : SpIn w' n N t := by
  induction t using QT.ind with
  | h k s m p c xs ih =>
    refine .mk ?_ fun x hx => ih x hx (h.kids x hx)
    rcases h.place with h1 | ⟨b, cur, h1, h2, h7, h3, h4, h5, h6⟩
    · exact .inl h1
    · obtain ⟨cur', g1, g2, g3⟩ := hs.grp b cur h3
      refine .inr ⟨b, cur', h1, h2, h7, g1, ⟨g2.trans h4.1, h4.2⟩, h5, fun j x hx => ?_⟩
      rcases g3 j with e | e
      · rcases h6 j x hx with f | f
        · exact .inl ⟨(e 0 (by omega)).trans f.1, (e 1 (by omega)).trans f.2.1, (e 2 (by omega)).trans f.2.2.1, (e 3 (by omega)).trans f.2.2.2⟩
        · exact .inr (f.of e)
      · exact .inr e
theorem SpIn.ofOwn {w : World} {n : Nat} {t : QT} (h : QIn w t) (ho : QOw w n t) : SpIn w n w.heap.size t := by
  induction t using QT.ind with
  | h k s m p c xs ih =>
    have hk := h.kids
    have hs := h.small
    refine .mk ?_ fun x hx => ?_
    · rcases ho.place with h1 | ⟨b, cur, h1, h2, h3, h4, h5⟩
      · exact .inl h1
      · refine .inr ⟨b, cur, h1, h2, h3, h4, h5, hs.2.1, fun j x hx => .inl ?_⟩
        obtain ⟨⟨b', o, e1, _, e3⟩, _⟩ := hk.at hx
        rw [h1] at e1
        injection e1 with e1
        injection e1 with e1 e2
        subst e1 e2
        obtain ⟨f0, f1, f2, f3⟩ := e3
        simp only [World.cell?, h4] at f0 f1 f2 f3
        simp at f0 f1 f2 f3
        exact ⟨f0, f1, f2, f3⟩
    · obtain ⟨j, hj⟩ := List.getElem?_of_mem hx
      exact ih x hx (hk.at hj).2 (ho.kids x hx)
/-- what stands in place of an ask that is written over -/
def spT : QT := .mk 99 ⟨#[]⟩ 0 none 0 []
theorem spT_in (w : World) (n N : Nat) : SpIn w n N spT := .mk (.inl ⟨rfl, rfl, rfl⟩) (fun _ h => by cases h)
/-- the cells of a part, as a walk reads them -/
theorem SpIn.at {w : World} {b j : Nat} {cur : Array Value} {x : QT} (h : w.heap[b]? = some (.cells cur 24 (0, 0)))
    (h6 : (cur[4 * j]? = some (.int .i64 x.kind) ∧ cur[4 * j + 1]? = some (.string x.name) ∧ cur[4 * j + 2]? = some (.int .i64 x.num) ∧ cur[4 * j + 3]? = some (.slice x.p x.xs.length x.cap)) ∨ SpG cur j) :
    ∃ y : QT, (y = x ∨ y = spT) ∧ w.cell? ⟨b, j * 4, none⟩ = some (.int .i64 y.kind) ∧ w.cell? ⟨b, j * 4 + 1, none⟩ = some (.string y.name) ∧ w.cell? ⟨b, j * 4 + 2, none⟩ = some (.int .i64 y.num) ∧ w.cell? ⟨b, j * 4 + 3, none⟩ = some (.slice y.p y.xs.length y.cap) := by
  rw [Nat.mul_comm 4 j] at h6
  rcases h6 with h6 | h6
  · refine ⟨x, .inl rfl, ?_⟩
    simp only [World.cell?, h]
    simpa using h6
  · unfold SpG at h6
    rw [Nat.mul_comm 4 j] at h6
    refine ⟨spT, .inr rfl, ?_⟩
    show w.cell? ⟨b, j * 4, none⟩ = some (.int .i64 99) ∧ w.cell? ⟨b, j * 4 + 1, none⟩ = some (.string ⟨#[]⟩) ∧ w.cell? ⟨b, j * 4 + 2, none⟩ = some (.int .i64 0) ∧ w.cell? ⟨b, j * 4 + 3, none⟩ = some (.slice none 0 0)
    simp only [World.cell?, h]
    simpa using h6
end Go.Proofs.YtcegmcnknkjcpaaDoor
