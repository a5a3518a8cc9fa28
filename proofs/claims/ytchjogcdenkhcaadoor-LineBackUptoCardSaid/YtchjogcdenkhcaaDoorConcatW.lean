/- The walk of slices.Concat at two slices of strings. Conditions: the slices read as listed; together of 2^43 elements at most. -/
import Derived.Test.YtchjogcdenkhcaaDoorNLSetW
import Derived.Test.YtchjogcdenkhcaaDoorGrowLay
namespace Go.Proofs.YtchjogcdenkhcaaDoor
open Go.RowKit Go.Shelf
theorem run_append_nil_x {P : Program} (w : World) (base : Nat) (t ty e : TypeId) (i : TypeInfo) (ht : P.underlying t = some (.slice e)) (hi : P.info? e = some i)
    (v : Value) (k : Nat) (xs : List Value) (hown : w.ownsRow base e i.size v k xs) (c : Nat) :
    (Builtin.append_ #[t, t] ty #[v, .slice none 0 c]).run P w = .ok v w := by
  rcases hown.2 with ⟨rfl, rfl⟩ | ⟨g, cap, cur, rfl, hbg, hg, hnc, hcm, hcs, htake⟩
  · simp [Builtin.append_, run_underlying ht, sizeOf, typeInfo, hi, Builtin.lenOf, Builtin.firstCells]
  · simp [Builtin.append_, run_underlying ht, sizeOf, typeInfo, hi, Builtin.lenOf, Builtin.firstCells, hnc, storeCells]
theorem app_nl (w : World) {ops : Array Oper} {rest : List Oper} {o : Oper} {a : Act} {Q : Exit → Act → World → Prop} (hgd : o.guard = none) (s x : Operand)
    (ho : o.op = .call { callee := .builtin .append, args := #[s, x], argTypes := #[33, 33] })
    (base : Nat) (v : Value) (k : Nat) (xs : List Value) (hs : a.eval s = v) (hown : w.ownsRow base 9 1 v k xs)
    (q : Option Addr) (m d : Nat) (ys : List ByteArray) (hx : a.eval x = .slice q m d) (hN : NL w q m d ys)
    (hn : k + m ≤ 8796093022208) (hbase : base ≤ w.heap.size)
    (h : ∀ v' w', w'.ownsRow base 9 1 v' (k + m) (xs ++ strsV ys) → w.grownBy w' v.ownBlock → wpList Tryd.prog ops Q rest (a.put o.dst v') w') : wpList Tryd.prog ops Q (o :: rest) a w := by
  obtain ⟨i0, hi, hz0, hz1, hz2⟩ := info_parts info_str
  have hl := hN.at_.len
  subst hl
  cases q with
  | none =>
    have h0 : ys.length = 0 := by
      rcases Nat.eq_zero_or_pos ys.length with h | h
      · exact h
      · obtain ⟨ad, h1, _⟩ := hN.at_.reads.2 h; cases h1
    have hy : ys = [] := List.length_eq_zero_iff.1 h0
    subst hy
    have hrun := run_append_nil_x w base 33 o.type 9 i0 Tryd.underlying33 hi v k xs (by rw [hz1]; exact hown) d
    refine wpList_plain hgd fun K hK' => ?_
    unfold Oper.wp
    simp only [execOp, ho, resolve, invoke, builtin, Sem.run_bind, Sem.run_pure, Result.andThen_ok, List.map_toArray, List.map_cons, List.map_nil, hs, hx]
    rw [show ([] : List ByteArray).length = 0 from rfl, hrun]
    exact hK' _ _ (h v w (by simpa [strsV] using hown) ⟨rfl, rfl, rfl, Nat.le_refl _, fun _ _ _ => rfl⟩)
  | some ad =>
    obtain ⟨b, o', rfl, _⟩ := hN.plain _ rfl
    refine wpList_append_own w hgd s x 33 ho base 9 i0 (.string ⟨#[]⟩) 1 16 Tryd.underlying33 hi hz0 hz1 hz2 rfl (by decide) v k xs hs hown ⟨b, o', none⟩ ys.length d (strsV ys) hx (by simp [strsV]) ?_ ?_ (by unfold maxLen; omega) (by omega) hbase (fun v' w' h1 h2 _ => h v' w' h1 h2)
    · intro j u hj
      unfold strsV at hj
      rw [List.getElem?_map, Option.map_eq_some_iff] at hj
      obtain ⟨y, hy, rfl⟩ := hj
      have hjl := (List.getElem?_eq_some_iff.1 hy).1
      rw [Addr.add_lit, hN.cellAt j hjl, List.getD_eq_getElem?_getD, hy]; rfl
    · intro u hu
      obtain ⟨y, _, rfl⟩ := List.mem_map.1 hu
      rfl
/-- what Concat answers -/
def CatPost (w : World) (zs : List ByteArray) (e : Ending) (w' : World) : Prop := ∃ (g : Option Addr) (c : Nat), e = .returned (.slice g zs.length c) ∧ w'.ownsRow w.heap.size 9 1 (.slice g zs.length c) zs.length (strsV zs) ∧ Below w.heap.size w w'
end Go.Proofs.YtchjogcdenkhcaaDoor
