/- What all cells of a slice's own block are, the room behind it let in; append keeps it. Conditions: none. -/
import Derived.Laws.OwnMore
import Derived.Maps.AppendAt
import Derived.Test.YtcegmcnknkjcpaaDoorProg
namespace Go.Proofs.YtcegmcnknkjcpaaDoor
open Go
/-- all cells of the block at which a slice begins are so -/
def AllC (w : World) (v : Value) (Pr : Value → Prop) : Prop := ∀ b, v.ownBlock = some b → ∃ cur t fr, w.heap[b]? = some (.cells cur t fr) ∧ ∀ u ∈ cur.toList, Pr u
theorem AllC.nil_ (w : World) (Pr : Value → Prop) : AllC w (.slice none 0 0) Pr := fun b h => by simp [Value.ownBlock] at h
theorem AllC.kept {w w' : World} {v : Value} {Pr : Value → Prop} {row : Option Nat} (h : AllC w v Pr) (hg : w.grownBy w' row) (hne : v.ownBlock = none ∨ v.ownBlock ≠ row) : AllC w' v Pr := fun b hb => by
  obtain ⟨cur, t, fr, h1, h2⟩ := h b hb
  refine ⟨cur, t, fr, ?_, h2⟩
  rw [hg.block b (Array.getElem?_eq_some_iff.1 h1).1 ?_]
  · exact h1
  · rcases hne with h3 | h3
    · rw [h3] at hb; cases hb
    · rw [← hb]; exact h3
theorem zero_all {z : Array Value} {n : Nat} {Pr : Value → Prop} (hz : ∀ u ∈ z.toList, Pr u) : ∀ u ∈ (Builtin.zeroCells z n).toList, Pr u := by
  intro u hu
  unfold Builtin.zeroCells at hu
  simp only [Array.toList_map, List.mem_map, Array.toList_range, List.mem_range] at hu
  obtain ⟨i, hi, rfl⟩ := hu
  have h0 : 0 < z.size := by
    rcases Nat.eq_zero_or_pos z.size with h | h
    · rw [h] at hi; simp at hi
    · exact h
  have hm := Nat.mod_lt i h0
  rw [getElem!_pos z _ hm]
  exact hz _ (by simp)
theorem append_all {P : Program} {w : World} {base : Nat} {t ty e : TypeId} {i : TypeInfo} {z : Value} (ht : P.underlying t = some (.slice e)) (hi : P.info? e = some i) (hz : i.zero = some z)
    {v : Value} {n : Nat} {xs : List Value} (hown : w.ownsRow base e i.size v n xs)
    {a : Addr} {m c : Nat} {news : List Value} (hl : news.length = m * i.size) (hnews : ∀ j u, news[j]? = some u → w.cell? (a.add j) = some u) (h1 : ∀ u ∈ news, u.oneCell' = true)
    (h63 : n + m ≤ maxLen) (hbytes : (n + m) * i.bytes ≤ 140737488355328) {Pr : Value → Prop} (pz : ∀ u ∈ z.cells.toList, Pr u) (pn : ∀ u ∈ news, Pr u) (hp : AllC w v Pr)
    {v' : Value} {w' : World} (hr : (Builtin.append_ #[t, t] ty #[v, .slice (some a) m c]).run P w = .ok v' w') : AllC w' v' Pr := by
  have hsmall : n + m ≤ 9223372036854775807 := by simp only [maxLen] at h63; omega
  have hall : ∀ l : List Value, (∀ u ∈ l, Pr u) → ∀ k, AllC (w.drew.alloc (.cells (l.toArray ++ news.toArray ++ Builtin.zeroCells z.cells k) e)) (.slice (some ⟨w.heap.size, 0, none⟩) (n + m) (grownCap w (n + m) 0 e)) Pr := by
    intro l hl k b hb
    have hb' : w.heap.size = b := by simpa [Value.ownBlock] using hb
    subst hb'
    refine ⟨_, _, _, heap_alloc_new w.drew _, fun u hu => ?_⟩
    simp only [Array.toList_append, List.mem_append] at hu
    rcases hu with (hu | hu) | hu
    · exact hl u hu
    · exact pn u hu
    · exact zero_all pz u hu
  rcases hown.2 with ⟨rfl, rfl⟩ | ⟨g, cap, cur, rfl, hbg, hg, hnc, hcm, hcs, htake⟩
  · by_cases hm : m = 0
    · subst hm
      have hn : news = [] := List.eq_nil_of_length_eq_zero (by simpa using hl)
      subst hn
      have h0 : (Builtin.append_ #[t, t] ty #[.slice none 0 0, .slice (some a) 0 c]).run P w = .ok (.slice none 0 0) w := by
        simp [Builtin.append_, run_underlying ht, sizeOf, typeInfo, hi, Builtin.lenOf, Builtin.firstCells, loadCells, loadCellsFrom]
      rw [h0] at hr
      injection hr with e1 e2
      subst e1 e2
      exact AllC.nil_ _ _
    · have h0 := run_append_nil (P := P) w t ty e i z ht hi hz a m c news hl hnews (by omega) (by omega) (by have hb := hbytes; simp only [Nat.zero_add] at hb; omega)
      rw [h0] at hr
      injection hr with e1 e2
      subst e1 e2
      intro b hb
      have hb' : w.heap.size = b := by simpa [Value.ownBlock] using hb
      subst hb'
      have := hall [] (fun u hu => by cases hu) (grownCap w m 0 e - m) w.heap.size (by simp [Value.ownBlock])
      simpa using this
  · have hcur : ∀ u ∈ cur.toList, Pr u := by
      obtain ⟨cur', t', fr', h2, h3⟩ := hp g (by simp [Value.ownBlock])
      rw [hg] at h2
      injection h2 with h2
      injection h2 with h2
      subst h2
      exact h3
    have hxs : ∀ u ∈ xs, Pr u := fun u hu => hcur u (by rw [← htake] at hu; exact List.mem_of_mem_take hu)
    by_cases hroom : n + m ≤ cap
    · have hfit : n * i.size + news.length ≤ cur.size := by rw [hl, hcs, ← Nat.add_mul]; exact Nat.mul_le_mul_right _ hroom
      have h0 := run_append_room (P := P) w t ty e i ht hi g n cap cur hg a m c news hl hnews h1 hroom hfit
      rw [h0] at hr
      injection hr with e1 e2
      subst e1 e2
      intro b hb
      have hb' : g = b := by simpa [Value.ownBlock] using hb
      subst hb'
      refine ⟨_, _, _, setRow_heap w g cur _ e _ hg, fun u hu => ?_⟩
      simp only [List.mem_append] at hu
      rcases hu with (hu | hu) | hu
      · exact hcur u (List.mem_of_mem_take hu)
      · exact pn u hu
      · exact hcur u (List.mem_of_mem_drop hu)
    · have holds : ∀ j u, xs[j]? = some u → w.cell? ((⟨g, 0, none⟩ : Addr).add j) = some u := hown.cells (g := g) rfl
      have h0 := run_append_grow (P := P) w t ty e i z ht hi hz ⟨g, 0, none⟩ n cap xs hown.1 holds a m c news hl hnews (by omega) (by omega) (growslice_fits (by omega) hbytes)
      rw [h0] at hr
      injection hr with e1 e2
      subst e1 e2
      intro b hb
      have hb' : w.heap.size = b := by simpa [Value.ownBlock] using hb
      subst hb'
      exact hall xs hxs _ w.heap.size (by simp [Value.ownBlock])
/-- append to a slice of the call's own, with what all its cells are -/
theorem wpList_append_all {P : Program} (w : World) {ops : Array Oper} {rest : List Oper} {o : Oper} {a : Act} {Q : Exit → Act → World → Prop} (hgd : o.guard = none) (s x : Operand) (t : TypeId)
    (ho : o.op = .call { callee := .builtin .append, args := #[s, x], argTypes := #[t, t] })
    (base : Nat) (e : TypeId) (i : TypeInfo) (z : Value) (size bytes : Nat) (ht : P.underlying t = some (.slice e)) (hi : P.info? e = some i) (hz : i.zero = some z) (hsize : i.size = size) (hby : i.bytes = bytes) (hzs : z.cells.size = size) (hsz : 0 < size)
    (v : Value) (n : Nat) (xs : List Value) (hs : a.eval s = v) (hown : w.ownsRow base e size v n xs)
    (ad : Addr) (m c : Nat) (news : List Value) (hx : a.eval x = .slice (some ad) m c) (hl : news.length = m * size) (hnews : ∀ j u, news[j]? = some u → w.cell? (ad.add j) = some u) (h1 : ∀ u ∈ news, u.oneCell' = true)
    (h63 : n + m ≤ maxLen) (hbytes : (n + m) * bytes ≤ 140737488355328) (hbase : base ≤ w.heap.size) (Pr : Value → Prop) (pz : ∀ u ∈ z.cells.toList, Pr u) (pn : ∀ u ∈ news, Pr u) (hp : AllC w v Pr)
    (h : ∀ v' w', w'.ownsRow base e size v' (n + m) (xs ++ news) → w.grownBy w' v.ownBlock → AllC w' v' Pr → (v'.ownBlock = v.ownBlock ∨ v'.ownBlock = some w.heap.size) → wpList P ops Q rest (a.put o.dst v') w') : wpList P ops Q (o :: rest) a w := by
  subst hsize
  subst hby
  refine wpList_plain hgd fun K hK => ?_
  obtain ⟨v', w', hr, h2, h3, _, h6⟩ := run_append_own_at (P := P) w base t o.type e i z i.size i.bytes ht hi hz rfl rfl hzs hsz v n xs hown ad m c news hl hnews h1 h63 hbytes hbase
  have h5 := append_all ht hi hz hown hl hnews h1 h63 hbytes pz pn hp hr
  unfold Oper.wp execOp
  simp only [ho, resolve, invoke, builtin, Sem.run_bind, Sem.run_pure, Result.andThen_ok, List.map_toArray, List.map_cons, List.map_nil, hs, hx, hr]
  exact hK _ _ (h v' w' h2 h3 h5 h6)
end Go.Proofs.YtcegmcnknkjcpaaDoor
