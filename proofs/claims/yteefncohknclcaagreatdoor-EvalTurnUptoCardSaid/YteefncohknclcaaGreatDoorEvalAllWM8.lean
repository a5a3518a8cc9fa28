/- Texts joined: BoxQ, Typed, AskAppW, FreeW, FormsW. Conditions: theirs. -/
import Derived.Laws.ResultCell
import Derived.Laws.Tables
import Derived.Sort.Row
import Derived.Test.YteefncohknclcaaGreatDoorEvalAllWM7
import Derived.Laws.OwnMore
import Derived.Maps.AppendAt
import Derived.Test.YteefncohknclcaaGreatDoorProg
import Derived.Test.YteefncohknclcaaGreatDoorNLSetW
import Derived.ArgAppend
import Derived.Deep.RegionLaw
import Derived.Test.YteefncohknclcaaGreatDoorAskP
import Derived.Test.YteefncohknclcaaGreatDoorEvalAllWM3
namespace Go.Proofs.YteefncohknclcaaGreatDoor
open Go.RowKit Go.Sort
theorem hanQ (w : World) (o : Obj) : (w.alloc o).heap[w.heap.size]? = some o := by
  show (w.heap.push o)[w.heap.size]? = some o
  simp
theorem haoQ (w : World) (o : Obj) (i : Nat) (h : i < w.heap.size) : (w.alloc o).heap[i]? = w.heap[i]? := by
  show (w.heap.push o)[i]? = w.heap[i]?
  rw [Array.getElem?_push, if_neg (Nat.ne_of_lt h)]
theorem box4Q {w : World} {b : Nat} {t : TypeId} {v0 v1 v2 v3 : Value} (h : w.heap[b]? = some (.cells #[v0, v1, v2, v3] t (0, 0))) :
    w.cell? ⟨b, 0, none⟩ = some v0 ∧ w.cell? ⟨b, 1, none⟩ = some v1 ∧ w.cell? ⟨b, 2, none⟩ = some v2 ∧ w.cell? ⟨b, 3, none⟩ = some v3 ∧ ∀ o, w.frozen? ⟨b, o, none⟩ = false := by
  refine ⟨?_, ?_, ?_, ?_, fun o => ?_⟩
  all_goals simp [World.cell?, World.frozen?, h]
theorem box4Q_all {w : World} {b : Nat} {t : TypeId} {v0 v1 v2 v3 : Value} (h : w.heap[b]? = some (.cells #[v0, v1, v2, v3] t (0, 0))) (u0 u1 u2 u3 : Value) :
    ((((w.setCell ⟨b, 0, none⟩ u0).setCell ⟨b, 1, none⟩ u1).setCell ⟨b, 2, none⟩ u2).setCell ⟨b, 3, none⟩ u3).heap[b]? = some (.cells #[u0, u1, u2, u3] t (0, 0)) := by
  simp only [setCell_eq]
  simp [mapBlock, onCells, Array.getElem?_modify, h]
theorem below_set4Q {B b : Nat} {w w' : World} (h : Below B w w') (hb : B ≤ b) (u0 u1 u2 u3 : Value) :
    Below B w ((((w'.setCell ⟨b, 0, none⟩ u0).setCell ⟨b, 1, none⟩ u1).setCell ⟨b, 2, none⟩ u2).setCell ⟨b, 3, none⟩ u3) :=
  (((h.setCell hb _).setCell hb _).setCell hb _).setCell hb _
theorem set4Q_other (w : World) (b k : Nat) (u0 u1 u2 u3 : Value) (h : k ≠ b) : ((((w.setCell ⟨b, 0, none⟩ u0).setCell ⟨b, 1, none⟩ u1).setCell ⟨b, 2, none⟩ u2).setCell ⟨b, 3, none⟩ u3).heap[k]? = w.heap[k]? := by
  rw [heap_setCell_other _ _ k _ h, heap_setCell_other _ _ k _ h, heap_setCell_other _ _ k _ h, heap_setCell_other _ _ k _ h]
theorem results_ctQ {P : Program} {fn : Func} {p u : Tmp} {ty : TypeId} (h : fn.results = #[.cell p ty, .tmp u]) (tmps : Array Value) (w : World) (g : Nat) (t : TypeId) (cs : Array Value) (fr : Nat × Nat) (d : TypeDesc) (x : Value)
    (hp : tmps.getD p undef = .pointer (some ⟨g, 0, none⟩)) (hx : tmps.getD u undef = x) (hg : w.heap[g]? = some (.cells cs t fr))
    (hu : P.underlying ty = some d) (hd : (match d with | .struct _ | .array _ _ => true | _ => false) = true) (hi : (P.info? ty).map (·.size) = some cs.size) :
    (results fn tmps).run P w = .ok (.tuple #[.agg cs, x]) w := by
  have hp' : tmps[p]?.getD undef = .pointer (some ⟨g, 0, none⟩) := by simpa using hp
  have hx' : tmps[u]?.getD undef = x := by simpa using hx
  rw [results_cell_tmp h]
  simp [hp', hx', asAddr, run_loadVar_row w g t ty cs fr d hg hu hd hi, Result.andThen]
/-- the world in which a call has laid its ask and the cell of its answer -/
theorem arg2r (w : World) (v0 v1 v2 v3 : Value) : ∃ W, W = (w.alloc (.cells #[v0, v1, v2, v3] 29)).alloc (.cells #[.int .i64 0, .string ⟨#[]⟩, .int .i64 0, .slice none 0 0] 29) ∧ Below w.heap.size w W ∧ W.heap.size = w.heap.size + 2 ∧
    ∀ u : World, Below W.heap.size W u → u.heap[w.heap.size]? = some (.cells #[v0, v1, v2, v3] 29 (0, 0)) ∧ u.heap[w.heap.size + 1]? = some (.cells #[.int .i64 0, .string ⟨#[]⟩, .int .i64 0, .slice none 0 0] 29 (0, 0)) := by
  obtain ⟨W, hW⟩ : ∃ W, W = (w.alloc (.cells #[v0, v1, v2, v3] 29)).alloc (.cells #[.int .i64 0, .string ⟨#[]⟩, .int .i64 0, .slice none 0 0] 29) := ⟨_, rfl⟩
  have hs : W.heap.size = w.heap.size + 2 := by rw [hW]; simp
  refine ⟨W, hW, by rw [hW]; exact ((Below.refl _ _).alloc (Nat.le_refl _) _).alloc (by simp) _, hs, fun u hu => ?_⟩
  rw [hu.block _ (by omega), hu.block _ (by omega), hW]
  refine ⟨?_, ?_⟩
  · rw [haoQ _ _ _ (by simp), hanQ]
  · have := hanQ (w.alloc (.cells #[v0, v1, v2, v3] 29)) (.cells #[.int .i64 0, .string ⟨#[]⟩, .int .i64 0, .slice none 0 0] 29)
    simpa using this
end Go.Proofs.YteefncohknclcaaGreatDoor
namespace Go.Proofs.YteefncohknclcaaGreatDoor
open Go
/-- all cells of the block at which a slice begins are so -/
def AllC (w : World) (v : Value) (Pr : Value → Prop) : Prop := ∀ b, v.ownBlock = some b → ∃ cur t fr, w.heap[b]? = some (.cells cur t fr) ∧ ∀ u ∈ cur.toList, Pr u
theorem AllC.nil_ (w : World) (Pr : Value → Prop) : AllC w (.slice none 0 0) Pr := fun b h => by simp [Value.ownBlock] at h
theorem AllC.kept {w w' : World} {v : Value} {Pr : Value → Prop} {row : Option Nat} (h : AllC w v Pr) (hg : w.grownBy w' row) (hne : v.ownBlock = none ∨ v.ownBlock ≠ row) : AllC w' v Pr := fun b hb => by
  obtain ⟨cur, t, fr, h1, h2⟩ := h b hb
  refine ⟨cur, t, fr, ?_, h2⟩
  rw [hg.block b (Array.getElem?_eq_some_iff.1 h1).1 ?_]
  · exact h1
  · rcases hne with h3 | h3
    · rw [h3] at hb; cases hb
    · rw [← hb]; exact h3
theorem zero_all {z : Array Value} {n : Nat} {Pr : Value → Prop} (hz : ∀ u ∈ z.toList, Pr u) : ∀ u ∈ (Builtin.zeroCells z n).toList, Pr u := by
  intro u hu
  unfold Builtin.zeroCells at hu
  simp only [Array.toList_map, List.mem_map, Array.toList_range, List.mem_range] at hu
  obtain ⟨i, hi, rfl⟩ := hu
  have h0 : 0 < z.size := by
    rcases Nat.eq_zero_or_pos z.size with h | h
    · rw [h] at hi; simp at hi
    · exact h
  have hm := Nat.mod_lt i h0
  rw [getElem!_pos z _ hm]
  exact hz _ (by simp)
theorem append_all {P : Program} {w : World} {base : Nat} {t ty e : TypeId} {i : TypeInfo} {z : Value} (ht : P.underlying t = some (.slice e)) (hi : P.info? e = some i) (hz : i.zero = some z)
    {v : Value} {n : Nat} {xs : List Value} (hown : w.ownsRow base e i.size v n xs)
    {a : Addr} {m c : Nat} {news : List Value} (hl : news.length = m * i.size) (hnews : ∀ j u, news[j]? = some u → w.cell? (a.add j) = some u) (h1 : ∀ u ∈ news, u.oneCell' = true)
    (h63 : n + m ≤ maxLen) (hbytes : (n + m) * i.bytes ≤ 140737488355328) {Pr : Value → Prop} (pz : ∀ u ∈ z.cells.toList, Pr u) (pn : ∀ u ∈ news, Pr u) (hp : AllC w v Pr)
    {v' : Value} {w' : World} (hr : (Builtin.append_ #[t, t] ty #[v, .slice (some a) m c]).run P w = .ok v' w') : AllC w' v' Pr := by
  have hsmall : n + m ≤ 9223372036854775807 := by simp only [maxLen] at h63; omega
  have hall : ∀ l : List Value, (∀ u ∈ l, Pr u) → ∀ k, AllC (w.drew.alloc (.cells (l.toArray ++ news.toArray ++ Builtin.zeroCells z.cells k) e)) (.slice (some ⟨w.heap.size, 0, none⟩) (n + m) (grownCap w (n + m) 0 e)) Pr := by
    intro l hl k b hb
    have hb' : w.heap.size = b := by simpa [Value.ownBlock] using hb
    subst hb'
    refine ⟨_, _, _, heap_alloc_new w.drew _, fun u hu => ?_⟩
    simp only [Array.toList_append, List.mem_append] at hu
    rcases hu with (hu | hu) | hu
    · exact hl u hu
    · exact pn u hu
    · exact zero_all pz u hu
  rcases hown.2 with ⟨rfl, rfl⟩ | ⟨g, cap, cur, rfl, hbg, hg, hnc, hcm, hcs, htake⟩
  · by_cases hm : m = 0
    · subst hm
      have hn : news = [] := List.eq_nil_of_length_eq_zero (by simpa using hl)
      subst hn
      have h0 : (Builtin.append_ #[t, t] ty #[.slice none 0 0, .slice (some a) 0 c]).run P w = .ok (.slice none 0 0) w := by
        simp [Builtin.append_, run_underlying ht, sizeOf, typeInfo, hi, Builtin.lenOf, Builtin.firstCells, loadCells, loadCellsFrom]
      rw [h0] at hr
      injection hr with e1 e2
      subst e1 e2
      exact AllC.nil_ _ _
    · have h0 := run_append_nil (P := P) w t ty e i z ht hi hz a m c news hl hnews (by omega) (by omega) (by have hb := hbytes; simp only [Nat.zero_add] at hb; omega)
      rw [h0] at hr
      injection hr with e1 e2
      subst e1 e2
      intro b hb
      have hb' : w.heap.size = b := by simpa [Value.ownBlock] using hb
      subst hb'
      have := hall [] (fun u hu => by cases hu) (grownCap w m 0 e - m) w.heap.size (by simp [Value.ownBlock])
      simpa using this
  · have hcur : ∀ u ∈ cur.toList, Pr u := by
      obtain ⟨cur', t', fr', h2, h3⟩ := hp g (by simp [Value.ownBlock])
      rw [hg] at h2
      injection h2 with h2
      injection h2 with h2
      subst h2
      exact h3
    have hxs : ∀ u ∈ xs, Pr u := fun u hu => hcur u (by rw [← htake] at hu; exact List.mem_of_mem_take hu)
    by_cases hroom : n + m ≤ cap
    · have hfit : n * i.size + news.length ≤ cur.size := by rw [hl, hcs, ← Nat.add_mul]; exact Nat.mul_le_mul_right _ hroom
      have h0 := run_append_room (P := P) w t ty e i ht hi g n cap cur hg a m c news hl hnews h1 hroom hfit
      rw [h0] at hr
      injection hr with e1 e2
      subst e1 e2
      intro b hb
      have hb' : g = b := by simpa [Value.ownBlock] using hb
      subst hb'
      refine ⟨_, _, _, setRow_heap w g cur _ e _ hg, fun u hu => ?_⟩
      simp only [List.mem_append] at hu
      rcases hu with (hu | hu) | hu
      · exact hcur u (List.mem_of_mem_take hu)
      · exact pn u hu
      · exact hcur u (List.mem_of_mem_drop hu)
    · have holds : ∀ j u, xs[j]? = some u → w.cell? ((⟨g, 0, none⟩ : Addr).add j) = some u := hown.cells (g := g) rfl
      have h0 := run_append_grow (P := P) w t ty e i z ht hi hz ⟨g, 0, none⟩ n cap xs hown.1 holds a m c news hl hnews (by omega) (by omega) (growslice_fits (by omega) hbytes)
      rw [h0] at hr
      injection hr with e1 e2
      subst e1 e2
      intro b hb
      have hb' : w.heap.size = b := by simpa [Value.ownBlock] using hb
      subst hb'
      exact hall xs hxs _ w.heap.size (by simp [Value.ownBlock])
/-- append to a slice of the call's own, with what all its cells are -/
theorem wpList_append_all {P : Program} (w : World) {ops : Array Oper} {rest : List Oper} {o : Oper} {a : Act} {Q : Exit → Act → World → Prop} (hgd : o.guard = none) (s x : Operand) (t : TypeId)
    (ho : o.op = .call { callee := .builtin .append, args := #[s, x], argTypes := #[t, t] })
    (base : Nat) (e : TypeId) (i : TypeInfo) (z : Value) (size bytes : Nat) (ht : P.underlying t = some (.slice e)) (hi : P.info? e = some i) (hz : i.zero = some z) (hsize : i.size = size) (hby : i.bytes = bytes) (hzs : z.cells.size = size) (hsz : 0 < size)
    (v : Value) (n : Nat) (xs : List Value) (hs : a.eval s = v) (hown : w.ownsRow base e size v n xs)
    (ad : Addr) (m c : Nat) (news : List Value) (hx : a.eval x = .slice (some ad) m c) (hl : news.length = m * size) (hnews : ∀ j u, news[j]? = some u → w.cell? (ad.add j) = some u) (h1 : ∀ u ∈ news, u.oneCell' = true)
    (h63 : n + m ≤ maxLen) (hbytes : (n + m) * bytes ≤ 140737488355328) (hbase : base ≤ w.heap.size) (Pr : Value → Prop) (pz : ∀ u ∈ z.cells.toList, Pr u) (pn : ∀ u ∈ news, Pr u) (hp : AllC w v Pr)
    (h : ∀ v' w', w'.ownsRow base e size v' (n + m) (xs ++ news) → w.grownBy w' v.ownBlock → AllC w' v' Pr → (v'.ownBlock = v.ownBlock ∨ v'.ownBlock = some w.heap.size) → wpList P ops Q rest (a.put o.dst v') w') : wpList P ops Q (o :: rest) a w := by
  subst hsize
  subst hby
  refine wpList_plain hgd fun K hK => ?_
  obtain ⟨v', w', hr, h2, h3, _, h6⟩ := run_append_own_at (P := P) w base t o.type e i z i.size i.bytes ht hi hz rfl rfl hzs hsz v n xs hown ad m c news hl hnews h1 h63 hbytes hbase
  have h5 := append_all ht hi hz hown hl hnews h1 h63 hbytes pz pn hp hr
  unfold Oper.wp execOp
  simp only [ho, resolve, invoke, builtin, Sem.run_bind, Sem.run_pure, Result.andThen_ok, List.map_toArray, List.map_cons, List.map_nil, hs, hx, hr]
  exact hK _ _ (h v' w' h2 h3 h5 h6)
end Go.Proofs.YteefncohknclcaaGreatDoor
namespace Go.Proofs.YteefncohknclcaaGreatDoor
open Go.RowKit
def askC (t : QT) : List Value := [.int .i64 t.kind, .string t.name, .int .i64 t.num, .slice t.p t.xs.length t.cap]
def asksC (l : List QT) : List Value := l.flatMap askC
theorem asksC_snoc (l : List QT) (t : QT) : asksC (l ++ [t]) = asksC l ++ askC t := by unfold asksC; rw [List.flatMap_append]; simp
theorem asksC_len (l : List QT) : (asksC l).length = l.length * 4 := by
  induction l with
  | nil => rfl
  | cons x l ih =>
    show (askC x ++ asksC l).length = _
    rw [List.length_append, ih, List.length_cons]
    have : (askC x).length = 4 := rfl
    omega
theorem asksC_at {l : List QT} {k : Nat} {x : QT} (h : l[k]? = some x) (j : Nat) (hj : j < 4) : (asksC l)[k * 4 + j]? = (askC x)[j]? := by
  induction l generalizing k with
  | nil => simp at h
  | cons y l ih =>
    have e : asksC (y :: l) = askC y ++ asksC l := rfl
    have hy : (askC y).length = 4 := rfl
    rw [e]
    cases k with
    | zero =>
      simp only [List.getElem?_cons_zero, Option.some.injEq] at h
      subst h
      rw [Nat.zero_mul, Nat.zero_add, List.getElem?_append_left (by omega)]
    | succ k =>
      rw [List.getElem?_append_right (by omega), hy, show (k + 1) * 4 + j - 4 = k * 4 + j by omega]
      exact ih (by simpa using h)
theorem info_ask : (Tryz.prog.info? 29).map (fun i => (i.zero, i.size, i.bytes)) = some (some (.agg #[.int .i64 0, .string ⟨#[]⟩, .int .i64 0, .slice none 0 0]), 4, 56) := by kernel_rfl
theorem app_ask (w : World) {ops : Array Oper} {rest : List Oper} {o : Oper} {a : Act} {Q : Exit → Act → World → Prop} (hgd : o.guard = none) (s x : Operand)
    (ho : o.op = .call { callee := .builtin .append, args := #[s, x], argTypes := #[27, 27] })
    (base : Nat) (v : Value) (n : Nat) (xs : List QT) (hs : a.eval s = v) (hown : w.ownsRow base 29 4 v n (asksC xs))
    (g : Nat) (y : QT) (hx : a.eval x = .slice (some ⟨g, 0, none⟩) 1 1) (hc0 : w.cell? ⟨g, 0, none⟩ = some (.int .i64 y.kind)) (hc1 : w.cell? ⟨g, 1, none⟩ = some (.string y.name)) (hc2 : w.cell? ⟨g, 2, none⟩ = some (.int .i64 y.num)) (hc3 : w.cell? ⟨g, 3, none⟩ = some (.slice y.p y.xs.length y.cap))
    (hn : n ≤ 1099511627776) (hbase : base ≤ w.heap.size)
    (h : ∀ v' w', w'.ownsRow base 29 4 v' (n + 1) (asksC (xs ++ [y])) → w.grownBy w' v.ownBlock → (v'.ownBlock = v.ownBlock ∨ v'.ownBlock = some w.heap.size) → wpList Tryz.prog ops Q rest (a.put o.dst v') w') : wpList Tryz.prog ops Q (o :: rest) a w := by
  obtain ⟨i0, hi, hz0, hz1, hz2⟩ := info_parts info_ask
  refine wpList_append_all w hgd s x 27 ho base 29 i0 _ 4 56 Tryz.underlying27 hi hz0 hz1 hz2 rfl (by decide) v n _ hs hown ⟨g, 0, none⟩ 1 1 (askC y) hx rfl ?_ ?_ (by unfold maxLen; omega) (by omega) hbase (fun _ => True) ?_ ?_ ?_ (fun v' w' h1 h2 _ h4 => h v' w' ?_ h2 h4)
  · intro j q hj
    match j, hj with
    | 0, hj => simp [askC] at hj; subst hj; simpa [Addr.add] using hc0
    | 1, hj => simp [askC] at hj; subst hj; simpa [Addr.add] using hc1
    | 2, hj => simp [askC] at hj; subst hj; simpa [Addr.add] using hc2
    | 3, hj => simp [askC] at hj; subst hj; simpa [Addr.add] using hc3
    | j + 4, hj => simp [askC] at hj
  · intro q hq; simp [askC] at hq; rcases hq with rfl | rfl | rfl | rfl <;> rfl
  · intro q hq; trivial
  · intro q hq; trivial
  · intro b hb
    rcases hown.2 with ⟨rfl, _⟩ | ⟨g', cap, cur, rfl, _, hlt, _, _, _, _⟩
    · simp [Value.ownBlock] at hb
    · simp [Value.ownBlock] at hb
      subst hb
      exact ⟨cur, _, _, hlt, fun _ _ => trivial⟩
  · rw [asksC_snoc]; exact h1
/-- a list of the call's own, as what is in an ask -/
theorem own_kids {w : World} {base : Nat} {p : Option Addr} {c : Nat} {l : List QT} (hown : w.ownsRow base 29 4 (.slice p l.length c) l.length (asksC l)) (hk : ∀ x ∈ l, QIn w x) :
    QsIn w p 0 l ∧ l.length ≤ c ∧ ((p = none ∧ c = 0 ∧ l = []) ∨ ∃ b cur, p = some ⟨b, 0, none⟩ ∧ base ≤ b ∧ b < w.heap.size ∧ w.heap[b]? = some (.cells cur 29 (0, 0)) ∧ cur.size = 4 * c ∧ c ≤ 9223372036854775807) := by
  rcases hown.2 with ⟨hv, hn⟩ | ⟨g, cap, cur, hv, hb, hg, hnc, hml, hcs, _⟩
  · injection hv with e1 e2 e3
    have hl := List.length_eq_zero_iff.1 hn
    subst e1 e3 hl
    exact ⟨trivial, Nat.le_refl _, .inl ⟨rfl, rfl, rfl⟩⟩
  · injection hv with e1 e2 e3
    subst e1 e3
    have hlt := (Array.getElem?_eq_some_iff.1 hg).1
    refine ⟨QsIn.mk fun j x hx => ⟨⟨g, 0, rfl, hlt, ?_⟩, hk x (List.mem_of_getElem? hx)⟩, hnc, .inr ⟨g, cur, rfl, hb, hlt, hg, by omega, by unfold maxLen at hml; omega⟩⟩
    have hj : j < l.length := by
      rcases Nat.lt_or_ge j l.length with h1 | h1
      · exact h1
      · rw [List.getElem?_eq_none h1] at hx; cases hx
    have hc : ∀ i, i < 4 → w.cell? ⟨g, j * 4 + i, none⟩ = (askC x)[i]? := fun i hi => by
      rw [hown.cellAt (j * 4 + i) (by omega), asksC_at hx i hi]
    rw [show 0 + 4 * (0 + j) = j * 4 by omega]
    exact ⟨hc 0 (by omega), hc 1 (by omega), hc 2 (by omega), hc 3 (by omega)⟩
end Go.Proofs.YteefncohknclcaaGreatDoor
namespace Go.Proofs.YteefncohknclcaaGreatDoor
open Go.RowKit Go.Shelf
theorem grown_transF {w u z : World} {r r' : Option Nat} (h : w.grownBy u r) (g : u.grownBy z r') (hr : r' = r ∨ ∃ b, r' = some b ∧ w.heap.size ≤ b) : w.grownBy z r :=
  ⟨g.os.trans h.os, g.tape.trans h.tape, g.output.trans h.output, Nat.le_trans h.size g.size, fun k hk hne => (g.block k (Nat.lt_of_lt_of_le hk h.size) (by
    rcases hr with rfl | ⟨b, rfl, hb⟩
    · exact hne
    · intro e; injection e with e; omega)).trans (h.block k hk hne)⟩
theorem grown_below {w u : World} (h : Below w.heap.size w u) (r : Option Nat) : w.grownBy u r := ⟨h.os, h.tape, h.output, h.size, fun k hk _ => h.block k hk⟩
theorem own_belowF {w w' : World} {base e n : Nat} {v : Value} {xs : List Value} (h : w.ownsRow base e 1 v n xs) (hb : Below w.heap.size w w') : w'.ownsRow base e 1 v n xs := by
  refine h.kept (row := none) ⟨hb.os, hb.tape, hb.output, hb.size, fun k hk _ => hb.block k hk⟩ ?_
  cases hv : v.ownBlock
  · exact .inl rfl
  · exact .inr (by simp)
theorem grown_reflF (w : World) (r : Option Nat) : w.grownBy w r := ⟨rfl, rfl, rfl, Nat.le_refl _, fun _ _ _ => rfl⟩
/-- what lies below a call's own blocks stays where a row of its own grows -/
theorem below_grownF {b : Nat} {w u z : World} {r : Option Nat} (h : Below b w u) (g : u.grownBy z r) (hb : b ≤ u.heap.size) (hr : ∀ k, r = some k → b ≤ k) : Below b w z := h.grown g hb hr
theorem NL.grown {w u : World} {p : Option Addr} {n c : Nat} {zs : List ByteArray} {r : Option Nat} (h : NL w p n c zs) (g : w.grownBy u r) (hr : ∀ ad, p = some ad → r ≠ some ad.block) : NL u p n c zs := by
  refine ⟨⟨h.at_.len, ⟨h.at_.reads.1, fun hn => ?_⟩, h.at_.size, h.at_.big⟩, h.nil, fun ad ha => ?_, h.reach⟩
  · obtain ⟨ad, e, hb, hc⟩ := h.at_.reads.2 hn
    refine ⟨ad, e, Nat.lt_of_lt_of_le hb g.size, fun j u2 hu => ?_⟩
    have hblk := g.block ad.block hb (fun e2 => hr ad e e2.symm)
    have e2 : u.cell? (ad.add j) = w.cell? (ad.add j) := World.cell?_of_block (by rw [block_of_add]; exact hblk)
    exact e2.trans (hc j u2 hu)
  · obtain ⟨b, off, e, hlt⟩ := h.plain ad ha
    exact ⟨b, off, e, Nat.lt_of_lt_of_le hlt g.size⟩
theorem NL_none (w : World) : NL w none 0 0 [] := ⟨⟨rfl, Reads.none_, (fun _ h => by cases h), by omega⟩, fun _ => rfl, (fun _ h => by cases h), by omega⟩
theorem NL_ownF {w : World} {base n : Nat} {v : Value} {zs : List ByteArray} (h : w.ownsRow base 9 1 v n (strsV zs)) (hl : zs.length = n) (hn : 0 < n) (hs : ∀ s ∈ zs, s.size ≤ 4611686018427387904) (hb : n ≤ 8796093022) :
    ∃ g c, v = .slice (some ⟨g, 0, none⟩) n c ∧ base ≤ g ∧ g < w.heap.size ∧ n ≤ c ∧ NL w (some ⟨g, 0, none⟩) n c zs := by
  obtain ⟨g, c, rfl, h1, h2⟩ := h.form hn
  have hnc : n ≤ c := by
    rcases h.2 with ⟨hv, _⟩ | ⟨g', cap, cur, hv, _, _, h3, _⟩
    · cases hv
    · injection hv with _ _ e; subst e; exact h3
  exact ⟨g, c, rfl, h1, h2, hnc, ⟨⟨hl, Reads.of_own h, hs, by omega⟩, (fun h => by cases h), (fun ad ha => by injection ha with ha; exact ⟨g, 0, ha.symm, h2⟩), by omega⟩⟩
theorem app_strK (w : World) {ops : Array Oper} {rest : List Oper} {o : Oper} {a : Act} {Q : Exit → Act → World → Prop} (hgd : o.guard = none) (s x : Operand)
    (ho : o.op = .call { callee := .builtin .append, args := #[s, x], argTypes := #[22, 22] })
    (base : Nat) (v : Value) (n : Nat) (xs : List ByteArray) (hs : a.eval s = v) (hown : w.ownsRow base 9 1 v n (strsV xs))
    (g : Nat) (u : ByteArray) (hx : a.eval x = .slice (some ⟨g, 0, none⟩) 1 1) (hcell : w.cell? ⟨g, 0, none⟩ = some (.string u))
    (hn : n < 8796093022208) (hbase : base ≤ w.heap.size)
    (h : ∀ v' w', w'.ownsRow base 9 1 v' (n + 1) (strsV (xs ++ [u])) → w.grownBy w' v.ownBlock → (v'.ownBlock = v.ownBlock ∨ v'.ownBlock = some w.heap.size) → wpList Tryz.prog ops Q rest (a.put o.dst v') w') : wpList Tryz.prog ops Q (o :: rest) a w := by
  obtain ⟨i0, hi, hz0, hz1, hz2⟩ := info_parts info_str
  refine wpList_append_all w hgd s x 22 ho base 9 i0 (.string ⟨#[]⟩) 1 16 Tryz.underlying22 hi hz0 hz1 hz2 rfl (by decide) v n (strsV xs) hs hown ⟨g, 0, none⟩ 1 1 [.string u] hx rfl ?_ ?_ (by unfold maxLen; omega) (by omega) hbase (fun _ => True) ?_ ?_ ?_ (fun v' w' h1 h2 _ h4 => h v' w' (by rw [strsV_snoc]; exact h1) h2 h4)
  · intro j q hj
    match j, hj with
    | 0, hj => simp at hj; subst hj; simpa [Addr.add] using hcell
  · intro q hq; simp at hq; subst hq; rfl
  · intro q hq; trivial
  · intro q hq; trivial
  · intro b hb
    rcases hown.2 with ⟨rfl, _⟩ | ⟨g', cap, cur, rfl, _, hlt, _, _, _, _⟩
    · simp [Value.ownBlock] at hb
    · simp [Value.ownBlock] at hb
      subst hb
      exact ⟨cur, _, _, hlt, fun _ _ => trivial⟩
/-- a list that is full grows into a block of its own -/
theorem step_strF {ops : Array Oper} {o : Oper} {a : Act} {w : World} {K : Act → World → Prop} {Q : Exit → Act → World → Prop} {E : Prop} (hgd : o.guard = none) (s x : Operand)
    (ho : o.op = .call { callee := .builtin .append, args := #[s, x], argTypes := #[22, 22] })
    (p : Option Addr) (n c : Nat) (xs : List ByteArray) (hs : a.eval s = .slice p n n) (hN : NL w p n c xs)
    (g : Nat) (u : ByteArray) (hx : a.eval x = .slice (some ⟨g, 0, none⟩) 1 1) (hcell : w.cell? ⟨g, 0, none⟩ = some (.string u))
    (hn : n < 8796093022)
    (h : ∀ v' w', w'.ownsRow w.heap.size 9 1 v' (n + 1) (strsV (xs ++ [u])) → Below w.heap.size w w' → K (a.put o.dst v') w') :
    if Region.wanted o (yielded ops a.tmps) = true then Oper.wp Tryz.prog o a w K Q else E := by
  have hw : Region.wanted o (yielded ops a.tmps) = true := by simp [Region.wanted, hgd]
  rw [if_pos hw]
  obtain ⟨i0, hi, hz0, hz1, hz2⟩ := info_parts info_str
  have key : ∃ v' w', (Builtin.append_ #[22, 22] o.type #[.slice p n n, .slice (some ⟨g, 0, none⟩) 1 1]).run Tryz.prog w = .ok v' w' ∧ w'.ownsRow w.heap.size 9 1 v' (n + 1) (strsV xs ++ [.string u]) ∧ w.grownBy w' none := by
    have hc1 : ∀ (j : Nat) (q : Value), [Value.string u][j]? = some q → w.cell? ((⟨g, 0, none⟩ : Addr).add j) = some q := by
      intro j q hj
      match j, hj with
      | 0, hj => simp at hj; subst hj; simpa [Addr.add] using hcell
    rcases Nat.eq_zero_or_pos n with h0 | h0
    · subst h0
      have hx0 : xs = [] := List.length_eq_zero_iff.1 hN.at_.len
      subst hx0
      cases p with
      | none =>
        obtain ⟨v', w', h1, h2, h3, _⟩ := run_append_own (P := Tryz.prog) w w.heap.size 22 o.type 9 i0 _ 1 16 Tryz.underlying22 hi hz0 hz1 hz2 rfl (by decide) (.slice none 0 0) 0 [] (World.ownsRow_nil w _ _ _) ⟨g, 0, none⟩ 1 1 [.string u] rfl hc1 (by intro q hq; simp at hq; subst hq; rfl) (by unfold maxLen; omega) (by omega) (Nat.le_refl _)
        exact ⟨v', w', h1, h2, h3⟩
      | some ad =>
        exact run_append_arg_grows (P := Tryz.prog) w 22 o.type 9 i0 _ 1 16 Tryz.underlying22 hi hz0 hz1 hz2 rfl (by decide) ad 0 0 [] rfl (fun j u hj => by simp at hj) ⟨g, 0, none⟩ 1 1 [.string u] rfl hc1 (by omega) (by unfold maxLen; omega) (by omega)
    · obtain ⟨ad, rfl, _, hc⟩ := hN.at_.reads.2 h0
      exact run_append_arg_grows (P := Tryz.prog) w 22 o.type 9 i0 _ 1 16 Tryz.underlying22 hi hz0 hz1 hz2 rfl (by decide) ad n n (strsV xs) (by unfold strsV; rw [List.length_map, hN.at_.len]; omega) hc ⟨g, 0, none⟩ 1 1 [.string u] rfl hc1 (by omega) (by unfold maxLen; omega) (by omega)
  obtain ⟨v', w', hr, h2, h3⟩ := key
  unfold Oper.wp execOp
  simp only [ho, resolve, invoke, builtin, Sem.run_bind, Sem.run_pure, Result.andThen_ok, List.map_toArray, List.map_cons, List.map_nil, hs, hx, hr]
  exact h v' w' (by rw [strsV_snoc]; exact h2) ⟨h3.os, h3.tape, h3.output, h3.size, fun k hk => h3.block k hk (by simp)⟩
/-- what a call of free answers: the list it was handed, longer -/
def FreePost (t : QT) (bd l : List ByteArray) (base : Nat) (v : Value) (w : World) (e : Ending) (w' : World) : Prop :=
  ∃ (v' : Value) (m : List ByteArray), e = .returned v' ∧ byt m = qfree (qabs t) (byt bd) ∧ w'.ownsRow base 9 1 v' (l ++ m).length (strsV (l ++ m)) ∧ w.grownBy w' v.ownBlock ∧ (v'.ownBlock = v.ownBlock ∨ ∃ g, v'.ownBlock = some g ∧ w.heap.size ≤ g)
theorem qfree_len (x : QA) : ∀ bd, (qfree x bd).length ≤ qcnt x := by
  induction x using QA.ind with
  | h k s n xs ih =>
    intro bd
    have ho : (qown k s bd).length ≤ 1 := by unfold qown; split <;> simp
    match xs with
    | [] => rw [free0, cnt_mk]; simp [qcnts]; exact ho
    | [x] =>
      have := ih x (by simp) bd
      rw [free1, cnt_mk, cnts_one, List.length_append]; omega
    | x :: y :: r =>
      have h1 := ih x (by simp) bd
      have h2 := ih y (by simp) (qbd k s bd)
      rw [free2, cnt_mk, List.length_append, List.length_append]
      simp only [qcnts]
      omega
theorem byt_app (l m : List ByteArray) : byt (l ++ m) = byt l ++ byt m := List.map_append
/-- the list of the free vars, so far -/
structure FInv (W : World) (base : Nat) (l : List ByteArray) (v : Value) (F : List Txt) (vj : Value) (m : List ByteArray) (u : World) : Prop where
  eq : byt m = F
  own : u.ownsRow base 9 1 vj (l ++ m).length (strsV (l ++ m))
  grown : W.grownBy u v.ownBlock
  blk : vj.ownBlock = v.ownBlock ∨ ∃ g, vj.ownBlock = some g ∧ W.heap.size ≤ g
theorem FInv.later {W : World} {base : Nat} {l : List ByteArray} {v : Value} {F : List Txt} {vj : Value} {m : List ByteArray} {u u1 : World} (h : FInv W base l v F vj m u) (hb : Below u.heap.size u u1) : FInv W base l v F vj m u1 :=
  ⟨h.eq, own_belowF h.own hb, grown_transF h.grown (grown_below hb v.ownBlock) (.inl rfl), h.blk⟩
theorem FInv.step {W : World} {base : Nat} {l bd : List ByteArray} {v : Value} {F : List Txt} {vj : Value} {m : List ByteArray} {u u2 : World} {x : QT} {e : Ending} (h : FInv W base l v F vj m u) (hp : FreePost x bd (l ++ m) base vj u e u2) :
    ∃ v' m', e = .returned v' ∧ FInv W base l v (F ++ qfree (qabs x) (byt bd)) v' (m ++ m') u2 := by
  obtain ⟨v', m', rfl, h1, h2, h3, h4⟩ := hp
  refine ⟨v', m', rfl, by rw [byt_app, h.eq, h1], by rw [← List.append_assoc]; exact h2, grown_transF h.grown h3 (h.blk.imp id fun ⟨g, e, hg⟩ => ⟨g, e, hg⟩), ?_⟩
  rcases h4 with h4 | ⟨g, e, hg⟩
  · rw [h4]; exact h.blk
  · exact .inr ⟨g, e, Nat.le_trans h.grown.size hg⟩
theorem FInv.bound {W : World} {base : Nat} {l bd : List ByteArray} {v : Value} {F : List Txt} {vj : Value} {m : List ByteArray} {u : World} {p : Option Addr} {n c : Nat} (h : FInv W base l v F vj m u) (hN : NL W p n c bd) (hne : ∀ ad, p = some ad → v.ownBlock ≠ some ad.block) :
    NL u p n c bd ∧ ∀ ad, p = some ad → vj.ownBlock ≠ some ad.block := by
  refine ⟨hN.grown h.grown hne, fun ad ha e => ?_⟩
  obtain ⟨b, off, e1, hlt⟩ := hN.plain ad ha
  rcases h.blk with h1 | ⟨g, h1, h2⟩
  · exact hne ad ha (h1.symm.trans e)
  · rw [h1] at e
    injection e with e
    rw [e1] at e
    have e : g = b := e
    omega
def frs (k : Int) (s : Txt) (bd : List Txt) : List QA → Nat → List Txt
  | _, 0 => []
  | [], _ + 1 => []
  | x :: _, 1 => qfree x bd
  | [x], _ + 2 => qfree x bd
  | x :: y :: _, _ + 2 => qfree x bd ++ qfree y (qbd k s bd)
theorem frs_len (k : Int) (s : Txt) (bd : List Txt) (xs : List QA) (j : Nat) (hj : j ≤ xs.length) (h2 : xs.length ≤ 2) (x : QA) (hx : xs[j]? = some x) : (frs k s bd xs j).length + qcnt x ≤ qcnts xs ∧ (k ≠ 4 ∨ j = 0 → frs k s bd xs (j + 1) = frs k s bd xs j ++ qfree x bd) ∧ (k = 4 → j = 1 → frs k s bd xs (j + 1) = frs k s bd xs j ++ qfree x (bd ++ [s])) := by
  match xs, j, hx with
  | y :: r, 0, hx =>
    simp only [List.getElem?_cons_zero, Option.some.injEq] at hx
    subst hx
    refine ⟨by simp [frs, qcnts], fun _ => ?_, fun _ h => by omega⟩
    simp [frs]
  | [y, z], 1, hx =>
    simp only [List.getElem?_cons_succ, List.getElem?_cons_zero, Option.some.injEq] at hx
    subst hx
    have h3 := qfree_len y bd
    refine ⟨by simp only [frs, qcnts]; omega, fun h => ?_, fun h _ => ?_⟩
    · rcases h with h | h
      · simp only [frs, qbd, if_neg h]
      · omega
    · simp only [frs, qbd, if_pos h]
  | [y], j + 1, hx => simp at hx
  | [y, z], j + 2, hx => simp at hx
  | y :: z :: q :: r, _, _ => simp at h2
set_option maxHeartbeats 8000000 in
set_option maxRecDepth 100000 in
theorem free_ok (W0 : World) (base : Nat) (hW0 : W0.heap.size ≤ base) : ∀ (t : QT), QIn W0 t → qchk qpat (qabs t) = 0 → ∀ (p : Option Addr) (n c : Nat) (bd l : List ByteArray) (v : Value) (w : World), Below W0.heap.size W0 w → base ≤ w.heap.size → NL w p n c bd → (∀ ad, p = some ad → v.ownBlock ≠ some ad.block) →
    w.ownsRow base 9 1 v l.length (strsV l) → l.length + qcnt (qabs t) ≤ 1048576 → n + qcnt (qabs t) ≤ 1048576 → n ≤ c →
    Calls Tryz.prog 39 #[t.v, .slice p n c, v] w (FreePost t bd l base v w) := by
  intro t
  induction t using QT.ind with
  | h k s q pt ct xs ih =>
    intro hQ hchk p n c bd l v w hB hb hN hne ho hl hn hnc
    obtain ⟨hnd, hkc⟩ := qchk_zero.1 (show qchk qpat (.mk k s.data.toList q (qabss xs)) = 0 from hchk)
    have hcs : 1 + qcnts (qabss xs) = qcnt (qabs (.mk k s q pt ct xs)) := rfl
    rw [← hcs] at hl hn
    have hx2 : xs.length ≤ 2 := by
      rw [← qabss_len]
      rcases node_cases hnd with h | h | h | h | h | h | h | h | h | h <;> omega
    have hx3 : k = 3 → xs = [] := by
      intro h3
      have : (qabss xs).length = 0 := by rcases node_cases hnd with h | h | h | h | h | h | h | h | h | h <;> first | (exfalso; omega) | omega
      rw [qabss_len] at this
      exact List.length_eq_zero_iff.1 this
    obtain ⟨W, hW, hBW, hS, hC⟩ := arg1 w (.int .i64 k) (.string s) (.int .i64 q) (.slice pt xs.length ct)
    have hsm := hQ.small
    have hss : s.size ≤ 1048576 := hsm.1
    have HSS := Lib.hid hss
    have HK : Hid (QsIn W0 pt 0 xs) := hQ.kids
    have HC := Lib.hid hC
    have HBW := Lib.hid hBW
    have HB0 := Lib.hid (hB.trans (hBW.mono hB.size))
    have HN := Lib.hid (hN.below hBW)
    have HNE := Lib.hid hne
    have HI0 : Hid (FInv W base l v [] v [] W) := ⟨rfl, by rw [List.append_nil]; exact own_belowF ho hBW, grown_reflF _ _, .inl rfl⟩
    have HPOST : Hid (∀ (F : List Txt) (vj : Value) (m : List ByteArray) (u : World), FInv W base l v F vj m u → F = qfree (qabs (.mk k s q pt ct xs)) (byt bd) → FreePost (.mk k s q pt ct xs) bd l base v w (.returned vj) u) := by
      show ∀ (F : List Txt) (vj : Value) (m : List ByteArray) (u : World), _
      intro F vj m u h hF
      refine ⟨vj, m, rfl, h.eq.trans hF, h.own, grown_transF (grown_below hBW v.ownBlock) h.grown (.inl rfl), h.blk.imp id fun ⟨g, e, hg⟩ => ⟨g, e, Nat.le_trans hBW.size hg⟩⟩
    have HBX : Hid (∀ u : World, W.grownBy u v.ownBlock → u.cell? ⟨w.heap.size, 0, none⟩ = some (.int .i64 k) ∧ u.cell? ⟨w.heap.size, 1, none⟩ = some (.string s) ∧ u.cell? ⟨w.heap.size, 2, none⟩ = some (.int .i64 q) ∧ u.cell? ⟨w.heap.size, 3, none⟩ = some (.slice pt xs.length ct)) := by
      show ∀ u : World, _
      intro u hg
      have hblk : u.heap[w.heap.size]? = W.heap[w.heap.size]? := hg.block _ (by omega) fun e => by
        have := (ho.lt _ e.symm).2
        omega
      have hc : ∀ i, u.cell? ⟨w.heap.size, i, none⟩ = W.cell? ⟨w.heap.size, i, none⟩ := fun i => World.cell?_of_block hblk
      rw [hc, hc, hc, hc]
      exact hC W (Below.refl _ _)
    have HVB : Hid (∀ b, v.ownBlock = some b → W0.heap.size ≤ b) := by
      show ∀ b, _
      exact fun b e => Nat.le_trans hW0 (ho.lt b e).1
    have HIH := Lib.hid ih
    have HKC : Hid (∀ x ∈ xs, qchk qpat (qabs x) = 0) := by
      show ∀ x ∈ xs, _
      exact fun x hx => hkc _ (by rw [qabss_map]; exact List.mem_map_of_mem hx)
    have HSZ : Hid (base ≤ W.heap.size ∧ l.length + (1 + qcnts (qabss xs)) ≤ 1048576 ∧ n + (1 + qcnts (qabss xs)) ≤ 1048576) := ⟨Nat.le_trans hb hBW.size, hl, hn⟩
    obtain ⟨k0, k1, k2, k3⟩ := HC.out W (Below.refl _ _)
    show Calls Tryz.prog 39 #[.agg #[.int .i64 k, .string s, .int .i64 q, .slice pt xs.length ct], .slice p n c, v] w _
    clear hQ hchk hnd hkc hcs hsm ih hB hb hN hne ho hl hn hBW hS hC
    go_enter Tryz.func39, Tryz.ntmps39
    go_upto_region 1 with fail
    rw [← hW]
    clear hW
    by_cases h3 : k = 3
    · obtain rfl := hx3 h3
      subst h3
      clear hx2 hx3
      by_cases hin : Lib.containsS bd s = true
      · have HF := Lib.hid (HPOST.out [] v [] W HI0.out (by
          show [] = qfree (.mk 3 s.data.toList q []) (byt bd)
          rw [free0]
          unfold qown
          rw [if_neg (fun h => h.2 (mem_byt.2 (has_iff.1 hin)))]))
        go_wp2_with (go_at_call 27; refine (nl_contains HN.out s).mono ?_; rw [hin]; rintro e w' ⟨rfl, hw⟩; rw [hw]; clear hw)
        go_loopw [28, 2] (fun i x wr => i = .int .i64 0 ∧ x = v ∧ wr = W) (fun _ _ _ => 0)
        case atStart => exact ⟨rfl, rfl, rfl⟩
        case round =>
          obtain ⟨rfl, rfl, rfl⟩ := hrel
          go_wp2_with fail
          go_ret
          exact HF.out
      · have hin : Lib.containsS bd s = false := by simpa using hin
        have HIN := Lib.hid hin
        have hln : l.length + 1 ≤ 1048576 := by have := HSZ.out.2.1; omega
        have HO : Hid (W.ownsRow base 9 1 v l.length (strsV l)) := by have := HI0.out.own; rw [List.append_nil] at this; exact this
        go_wp2_with (first
          | (go_at_call 27; refine (nl_contains HN.out s).mono ?_; rw [HIN.out]; rintro e w' ⟨rfl, hw⟩; rw [hw]; clear hw)
          | (at_builtin; refine app_strK _ rfl _ _ rfl base v l.length l rfl (HO.out.alloc _) W.heap.size s rfl ?c1 (by omega) ?c2 ?_; rotate_right; intro v' w6 hown6 hgrow6 hv6; have HO6 := Lib.hid hown6; have HG6 := Lib.hid hgrow6; have HV6 := Lib.hid hv6; have HGW := Lib.hid (grown_transF (grown_below ((Below.refl W.heap.size W).alloc (Nat.le_refl _) _) v.ownBlock) hgrow6 (.inl rfl)); obtain ⟨z0, z1, z2, z3⟩ := HBX.out w6 HGW.out; clear hown6 hgrow6 hv6))
        case c1 => rw [World.cell?_alloc_at _ _ _ _ rfl]; rfl
        case c2 => have := HSZ.out.1; simp; omega
        have HI6 : Hid (FInv W base l v [s.data.toList] v' [s] w6) := by
          refine ⟨rfl, by rw [List.length_append]; exact HO6.out, HGW.out, ?_⟩
          rcases HV6.out with h | h
          · exact .inl h
          · exact .inr ⟨_, h, by simp⟩
        have HF := Lib.hid (HPOST.out [s.data.toList] v' [s] w6 HI6.out (by
          show _ = qfree (.mk 3 s.data.toList q []) (byt bd)
          rw [free0]
          unfold qown
          rw [if_pos ⟨rfl, fun h => by have := has_iff.2 (mem_byt.1 h); rw [HIN.out] at this; cases this⟩]))
        go_loopw [28, 2] (fun i x wr => i = .int .i64 0 ∧ x = v' ∧ wr = w6) (fun _ _ _ => 0)
        case atStart => exact ⟨rfl, rfl, rfl⟩
        case round =>
          obtain ⟨rfl, rfl, rfl⟩ := hrel
          go_wp2_with fail
          go_ret
          exact HF.out
    · have e3 : (k == 3) = false := by rw [beq_eq_false_iff_ne]; exact h3
      have H3 := Lib.hid h3
      clear h3 hx3
      go_wp2_with fail
      go_loopw [28, 2] (fun i x wr => ∃ (j : Nat) (m : List ByteArray), j ≤ xs.length ∧ i = .int .i64 j ∧ Hid (FInv W base l v (frs k s.data.toList (byt bd) (qabss xs) j) x m wr)) (fun i _ _ => xs.length - (intOf i).toNat)
      case atStart => exact ⟨0, [], Nat.zero_le _, rfl, HI0.out⟩
      case round =>
        obtain ⟨j, m, hj, rfl, HI⟩ := hrel
        have HBw : Hid (Below W0.heap.size W0 wr) := HB0.out.grown HI.out.grown HB0.out.size HVB.out
        obtain ⟨vj, hvj⟩ : ∃ vj, vj = u2 := ⟨_, rfl⟩
        subst hvj
        by_cases hlt : j < xs.length
        · obtain ⟨x, hx⟩ : ∃ x, xs[j]? = some x := ⟨_, List.getElem?_eq_getElem hlt⟩
          have hxa : (qabss xs)[j]? = some (qabs x) := by rw [qabss_map, List.getElem?_map, hx]; rfl
          obtain ⟨f1, f2, f3⟩ := frs_len k s.data.toList (byt bd) (qabss xs) j (by rw [qabss_len]; exact hj) (by rw [qabss_len]; exact hx2) (qabs x) hxa
          have HF2 := Lib.hid f2
          have HF3 := Lib.hid f3
          have hml : m.length = (frs k s.data.toList (byt bd) (qabss xs) j).length := by rw [← HI.out.eq]; exact (byt_len m).symm
          have HXS : Hid ((l ++ m).length + qcnt (qabs x) ≤ 1048576 ∧ n + 1 + qcnt (qabs x) ≤ 1048576) := by
            have := HSZ.out
            rw [List.length_append]
            show _ ∧ _
            omega
          obtain ⟨⟨b, o, rfl, hb, hf⟩, hqx⟩ := HK.out.at hx
          obtain ⟨c0, c1, c2, c3⟩ := four_at (hf.below HBw.out hb)
          have HCALL : Hid (∀ (p : Option Addr) (n2 c : Nat) (bd : List ByteArray) (u : World), n2 ≤ n + 1 → Below wr.heap.size wr u → NL u p n2 c bd → (∀ ad, p = some ad → vj.ownBlock ≠ some ad.block) → n2 ≤ c → Calls Tryz.prog 39 #[x.v, .slice p n2 c, vj] u (FreePost x bd (l ++ m) base vj u)) := by
            show ∀ (p : Option Addr) (n2 c : Nat) (bd : List ByteArray) (u : World), _
            intro p n2 c bd u hn2 hu hN hne hnc2
            refine HIH.out x (List.mem_of_getElem? hx) hqx (HKC.out x (List.mem_of_getElem? hx)) p n2 c bd (l ++ m) vj u (HBw.out.trans (hu.mono HBw.out.size)) ?_ hN hne (own_belowF HI.out.own hu) HXS.out.1 (by have := HXS.out.2; omega) hnc2
            have h1 := HI.out.grown.size
            have h2 := HSZ.out.1
            have h3 := hu.size
            omega
          obtain ⟨bn1, bn2⟩ := HI.out.bound HN.out HNE.out
          have HN2 := Lib.hid bn1
          have HNE2 := Lib.hid bn2
          obtain ⟨Y, hY, hBY, hSY, hCY⟩ := arg1 wr (.int .i64 x.kind) (.string x.name) (.int .i64 x.num) (.slice x.p x.xs.length x.cap)
          have HBY := Lib.hid hBY
          have HCY := Lib.hid hCY
          have HIY := Lib.hid (HI.out.later hBY)
          clear f1 f2 f3 hml hxa hqx hf hb hx bn1 bn2 hBY hCY hSY k0 k1 k2 k3
          go_upto_region 6 with fail
          rw [← hY]
          clear hY c0 c1 c2 c3
          obtain ⟨k0, k1, k2, k3⟩ := HBX.out Y HIY.out.grown
          obtain ⟨y0, y1, y2, y3⟩ := HCY.out Y (Below.refl _ _)
          by_cases h4 : k = 4
          · subst h4
            by_cases hj1 : j = 1
            · subst hj1
              have HF4 := Lib.hid (HF3.out rfl rfl)
              have HBSS : Hid (byt (bd ++ [s]) = byt bd ++ [s.data.toList]) := byt_app bd [s]
              have hss2 : s.size ≤ 4611686018427387904 := by omega
              have HBS : Hid (∀ z ∈ bd ++ [s], z.size ≤ 4611686018427387904) := by
                show ∀ z ∈ _, _
                intro z hz
                rcases List.mem_append.1 hz with h | h
                · exact HN.out.at_.size z h
                · rw [List.mem_singleton.1 h]; exact hss2
              have HNL : Hid (bd.length = n) := HN.out.at_.len
              have hnb : n + 1 ≤ 1048576 := by have := HSZ.out.2.2; omega
              obtain ⟨Z, hZ⟩ : ∃ Z, Z = (Y.alloc (.cells #[.string s] 9)).drew := ⟨_, rfl⟩
              have hBZ : Below Y.heap.size Y Z := by rw [hZ]; exact ((Below.refl _ _).alloc (Nat.le_refl _) _).drew
              have HBZ := Lib.hid hBZ
              have HNZ : Hid (NL ((Y.alloc (.cells #[.string s] 9)).drew) p n c bd) := by show NL _ _ _ _ _; rw [← hZ]; exact (HN2.out.below HBY.out).below hBZ
              have HSC : Hid (((Y.alloc (.cells #[.string s] 9)).drew).cell? ⟨Y.heap.size, 0, none⟩ = some (.string s)) := by show (Y.alloc _).cell? _ = _; rw [World.cell?_alloc_at _ _ _ _ rfl]; rfl
              have HNEW : Hid (∀ (v' : Value) (w5 : World), w5.ownsRow ((Y.alloc (.cells #[.string s] 9)).drew).heap.size 9 1 v' (n + 1) (strsV (bd ++ [s])) → Below ((Y.alloc (.cells #[.string s] 9)).drew).heap.size ((Y.alloc (.cells #[.string s] 9)).drew) w5 →
                  ∃ g c', v' = .slice (some ⟨g, 0, none⟩) (n + 1) c' ∧ Below Y.heap.size Y w5 ∧ NL w5 (some ⟨g, 0, none⟩) (n + 1) c' (bd ++ [s]) ∧ n + 1 ≤ c' ∧ ∀ ad, (some ⟨g, 0, none⟩ : Option Addr) = some ad → vj.ownBlock ≠ some ad.block) := by
                show ∀ (v' : Value) (w5 : World), _
                intro v' w5 h1 h2
                rw [← hZ] at h1 h2
                obtain ⟨g, c', e1, e2, _, e5, e4⟩ := NL_ownF h1 (by rw [List.length_append, HNL.out]; rfl) (by omega) HBS.out (by omega)
                refine ⟨g, c', e1, HBZ.out.trans (h2.mono HBZ.out.size), e4, e5, fun ad ha e => ?_⟩
                injection ha with ha
                have h3 := (HIY.out.own.lt _ e).2
                have h4 := HBZ.out.size
                rw [← ha] at h3
                have h3 : g < Y.heap.size := h3
                omega
              clear hZ hBZ
              have hpn := HN.out.plain
              have hp0 := HN.out.nil
              rcases p with _ | ad
              · obtain rfl := hp0 rfl
                have hn0 : n = 0 := by
                  rcases Nat.eq_zero_or_pos n with h | h
                  · exact h
                  · obtain ⟨ad, e, _⟩ := HN.out.at_.reads.2 h
                    cases e
                subst hn0
                clear hpn hp0
                go_upto_region 8 with fail
                go_region_law (refine step_strF rfl _ _ rfl none 0 0 bd rfl HNZ.out Y.heap.size s rfl HSC.out (by omega) ?_; intro v' w5 h1 h2; obtain ⟨g, c', rfl, r1, r2, r4, r3⟩ := HNEW.out v' w5 h1 h2; have HNC5 := Lib.hid r4; have HB5 := Lib.hid r1; have HN5 := Lib.hid r2; have HE5 := Lib.hid r3; obtain ⟨q0, q1, q2, q3⟩ := HCY.out w5 r1; clear h1 h2 r1 r2 r3 r4)
                all_goals
                  go_wp2_with (go_at_call 39; refine (HCALL.out (some ⟨g, 0, none⟩) 1 c' (bd ++ [s]) w5 (Nat.le_refl _) (HBY.out.trans (HB5.out.mono HBY.out.size)) HN5.out HE5.out HNC5.out).mono ?_; intro e w6 hp5; obtain ⟨v', m', rfl, hI'⟩ := (HIY.out.later HB5.out).step hp5; have HI' := Lib.hid hI'; clear hp5 hI')
                  go_roundw
                  case rel =>
                    refine ⟨1 + 1, m ++ m', by omega, by go_num, ?_⟩
                    show FInv _ _ _ _ _ _ _ _
                    rw [HF4.out, ← HBSS.out]
                    exact HI'.out
                  case measure => simp [intOf]; omega
              · obtain ⟨b2, off, rfl, _⟩ := hpn ad rfl
                clear hpn hp0
                go_upto_region 8 with fail
                go_region_law (refine step_strF rfl _ _ rfl (some ⟨b2, off, none⟩) n c bd rfl HNZ.out Y.heap.size s rfl HSC.out (by omega) ?_; intro v' w5 h1 h2; obtain ⟨g, c', rfl, r1, r2, r4, r3⟩ := HNEW.out v' w5 h1 h2; have HNC5 := Lib.hid r4; have HB5 := Lib.hid r1; have HN5 := Lib.hid r2; have HE5 := Lib.hid r3; obtain ⟨q0, q1, q2, q3⟩ := HCY.out w5 r1; clear h1 h2 r1 r2 r3 r4)
                all_goals
                  go_wp2_with (go_at_call 39; refine (HCALL.out (some ⟨g, 0, none⟩) (n + 1) c' (bd ++ [s]) w5 (Nat.le_refl _) (HBY.out.trans (HB5.out.mono HBY.out.size)) HN5.out HE5.out HNC5.out).mono ?_; intro e w6 hp5; obtain ⟨v', m', rfl, hI'⟩ := (HIY.out.later HB5.out).step hp5; have HI' := Lib.hid hI'; clear hp5 hI')
                  go_roundw
                  case rel =>
                    refine ⟨1 + 1, m ++ m', by omega, by go_num, ?_⟩
                    show FInv _ _ _ _ _ _ _ _
                    rw [HF4.out, ← HBSS.out]
                    exact HI'.out
                  case measure => simp [intOf]; omega
            · have hj0 : j = 0 := by omega
              subst hj0
              clear hj1
              go_wp2_with (go_at_call 39; refine (HCALL.out p n c bd Y (Nat.le_succ _) HBY.out (HN2.out.below HBY.out) HNE2.out hnc).mono ?_; intro e w5 hp5; obtain ⟨v', m', rfl, hI'⟩ := HIY.out.step hp5; have HI' := Lib.hid hI'; clear hp5 hI')
              go_roundw
              case rel =>
                refine ⟨0 + 1, m ++ m', by omega, by go_num, ?_⟩
                show FInv _ _ _ _ _ _ _ _
                rw [HF2.out (by simp)]
                exact HI'.out
              case measure => simp [intOf]; omega
          · have e4 : (k == 4) = false := by rw [beq_eq_false_iff_ne]; exact h4
            have H4 := Lib.hid h4
            clear h4
            go_wp2_with (go_at_call 39; refine (HCALL.out p n c bd Y (Nat.le_succ _) HBY.out (HN2.out.below HBY.out) HNE2.out hnc).mono ?_; intro e w5 hp5; obtain ⟨v', m', rfl, hI'⟩ := HIY.out.step hp5; have HI' := Lib.hid hI'; clear hp5 hI')
            go_roundw
            case rel =>
              refine ⟨j + 1, m ++ m', by omega, by go_num, ?_⟩
              show FInv _ _ _ _ _ _ _ _
              rw [HF2.out (.inl H4.out)]
              exact HI'.out
            case measure => simp [intOf]; omega
        · obtain rfl : j = xs.length := by omega
          obtain ⟨k0, k1, k2, k3⟩ := HBX.out wr HI.out.grown
          have HFR : Hid (frs k s.data.toList (byt bd) (qabss xs) xs.length = qfree (qabs (.mk k s q pt ct xs)) (byt bd)) := by
            show _ = qfree (.mk k s.data.toList q (qabss xs)) (byt bd)
            have hno : qown k s.data.toList (byt bd) = [] := by unfold qown; rw [if_neg (fun h => H3.out h.1)]
            match xs, hx2 with
            | [], _ => rw [show qabss [] = [] from rfl, free0, hno]; rfl
            | [x], _ => rw [show qabss [x] = [qabs x] from rfl, free1, hno]; rfl
            | [x, y], _ => rw [show qabss [x, y] = [qabs x, qabs y] from rfl, free2, hno]; rfl
            | _ :: _ :: _ :: _, h => simp at h
          have HF := Lib.hid (HPOST.out _ vj m wr HI.out HFR.out)
          go_wp2_with fail
          go_ret
          exact HF.out
end Go.Proofs.YteefncohknclcaaGreatDoor
namespace Go.Proofs.YteefncohknclcaaGreatDoor
open Go.ChangeShapes Go.WideShapes Go.ChangeAt Go.RowKit
def formsN : String := "millwright/ask.forms"
def kindsN : String := "millwright/ask.kinds"
theorem formsG : Tryz.prog.globalNamed formsN = some 0 := by kernel_rfl
theorem formsTy : (Tryz.prog.globals[0]?).map (·.type) = some 129 := by kernel_rfl
theorem formsC : Tryz.prog.cellsOf 128 = 4 := by kernel_rfl
theorem formsMem : (formsN, (Rows.laid_millwright_ask_forms : DataW Unit)) ∈ laidL := by
  show _ ∈ [_, _, _, _, _, _, _]
  repeat (first | exact List.Mem.head _ | apply List.Mem.tail)
def formD (k : Nat) : DataW Unit := .agg [.lit (.int .i64 (qmany k : Int)), .lit (.bool (qnamed k)), .lit (.bool (qnumd k)), .lit (.string (qword k))]
theorem formsD : (Rows.laid_millwright_ask_forms : DataW Unit) = .agg ((List.range 16).map formD) := by rfl
/-- the table of the forms -/
def Forms (w : World) : Prop := ∀ k : Nat, k < 16 → w.cell? ⟨0, 4 * k, none⟩ = some (.int .i64 (qmany k : Int)) ∧ w.cell? ⟨0, 4 * k + 1, none⟩ = some (.bool (qnamed k)) ∧ w.cell? ⟨0, 4 * k + 2, none⟩ = some (.bool (qnumd k)) ∧ w.cell? ⟨0, 4 * k + 3, none⟩ = some (.string (qtx (qword k)))
set_option maxRecDepth 100000 in
theorem form_four {w : World} {sp : Nat → Bool} {held : Bool} {fuel k : Nat} {cs : List Value} {p : List MemPlace} (h : DataW.trod (fun _ => ()) Tryz.prog w 0 sp held fuel 128 cs = some (formD k, p)) :
    cs = [.int .i64 (qmany k : Int), .bool (qnamed k), .bool (qnumd k), .string (qtx (qword k))] := by
  have ht := Tryz.underlying128
  obtain ⟨xs, m, _, hxy, hlen, hxl, hff⟩ := DataW.trod_struct ht h
  rw [formsC] at hlen
  have s0 : Tryz.prog.cellsOf 3 = 1 := by kernel_rfl
  have s1 : Tryz.prog.cellsOf 4 = 1 := by kernel_rfl
  have s3 : Tryz.prog.cellsOf 9 = 1 := by kernel_rfl
  match cs, hlen, xs, hxl with
  | [v0, v1, v2, v3], _, [y0, y1, y2, y3], _ =>
    have g0 := hff 0 _ rfl
    have g1 := hff 1 _ rfl
    have g2 := hff 2 _ rfl
    have g3 := hff 3 _ rfl
    simp [s0, s1, s3] at g0 g1 g2 g3
    obtain ⟨z0, e0, x0, _⟩ := DataW.trod_int Tryz.underlying3 g0
    obtain ⟨z1, e1, x1⟩ := DataW.trod_bool Tryz.underlying4 g1
    obtain ⟨z2, e2, x2⟩ := DataW.trod_bool Tryz.underlying4 g2
    obtain ⟨z3, e3, x3, _⟩ := DataW.trod_string Tryz.underlying9 g3
    injection hxy with hd _
    unfold formD at hd
    rw [x0, x1, x2, x3] at hd
    simp only [List.map_cons, List.map_nil, DataW.agg.injEq, List.cons.injEq, DataW.lit.injEq, Lit.int.injEq, Lit.bool.injEq, Lit.string.injEq, true_and, and_true] at hd
    obtain ⟨h0, h1, h2, h3⟩ := hd
    injection e0 with e0 _
    injection e1 with e1 _
    injection e2 with e2 _
    injection e3 with e3 _
    rw [e0, e1, e2, e3, h0, h1, h2, h3, list_qtx]
set_option maxRecDepth 100000 in
theorem forms_of {w : World} (h : laidMetH Tryz.prog laidL w) : Forms w := by
  rw [MakeChecks.laidMetH_plain _ _ _ (by kernel_rfl)] at h
  obtain ⟨ps, hl, _⟩ := h
  obtain ⟨g, t, cs, fuel, p, h1, h2, h3, h4⟩ := laid_one hl _ formsMem
  obtain rfl := Option.some.inj (formsG.symm.trans h1)
  obtain rfl := Option.some.inj (formsTy.symm.trans h2)
  obtain ⟨xs, m, _, hx, hlen, hxl, hff⟩ := DataW.trod_array Tryz.underlying129 h4
  intro k hk
  injection hx with hx _
  have hx : (Rows.laid_millwright_ask_forms : DataW Unit) = .agg (xs.map (·.1)) := hx
  rw [formsD] at hx
  injection hx with hx
  have hxk := congrArg (fun l : List (DataW Unit) => l[k]?) hx
  simp only [List.getElem?_map, List.getElem?_range hk, Option.map_some] at hxk
  obtain ⟨x, hx1, hx2⟩ := Option.map_eq_some_iff.1 hxk.symm
  have hf := hff k hk
  rw [hx1, formsC] at hf
  obtain ⟨x1, x2⟩ := x
  have hx2 : x1 = formD k := hx2
  subst hx2
  have hc := form_four hf
  have hg : ∀ j v, ((cs.toList.drop (k * 4)).take 4)[j]? = some v → w.cell? ⟨0, 4 * k + j, none⟩ = some v := by
    intro j v hv
    rw [World.var?_cell formsG h3]
    rw [List.getElem?_take] at hv
    split at hv
    · rw [List.getElem?_drop] at hv
      rw [← hv, show 4 * k + j = k * 4 + j by omega]
      simp
    · cases hv
  rw [hc] at hg
  exact ⟨hg 0 _ rfl, hg 1 _ rfl, hg 2 _ rfl, hg 3 _ rfl⟩
theorem kindsG : Tryz.prog.globalNamed kindsN = some 1 := by kernel_rfl
theorem kindsTy : (Tryz.prog.globals[1]?).map (·.type) = some 144 := by kernel_rfl
theorem kindsC : Tryz.prog.cellsOf 9 = 1 := by kernel_rfl
theorem kindsMem : (kindsN, (Rows.laid_millwright_ask_kinds : DataW Unit)) ∈ laidL := by
  show _ ∈ [_, _, _, _, _, _, _]
  repeat (first | exact List.Mem.head _ | apply List.Mem.tail)
theorem kindsD : (Rows.laid_millwright_ask_kinds : DataW Unit) = .agg ((List.range 4).map fun k : Nat => .lit (.string (qkindw (k : Int)))) := by rfl
/-- the table of the words of kinds -/
def Kinds (w : World) : Prop := ∀ k : Nat, k < 4 → w.cell? ⟨1, k, none⟩ = some (.string (qtx (qkindw (k : Int))))
set_option maxRecDepth 100000 in
theorem kinds_of {w : World} (h : laidMetH Tryz.prog laidL w) : Kinds w := by
  rw [MakeChecks.laidMetH_plain _ _ _ (by kernel_rfl)] at h
  obtain ⟨ps, hl, _⟩ := h
  obtain ⟨g, t, cs, fuel, p, h1, h2, h3, h4⟩ := laid_one hl _ kindsMem
  obtain rfl := Option.some.inj (kindsG.symm.trans h1)
  obtain rfl := Option.some.inj (kindsTy.symm.trans h2)
  obtain ⟨xs, m, _, hx, hlen, hxl, hff⟩ := DataW.trod_array Tryz.underlying144 h4
  intro k hk
  injection hx with hx _
  have hx : (Rows.laid_millwright_ask_kinds : DataW Unit) = .agg (xs.map (·.1)) := hx
  rw [kindsD] at hx
  injection hx with hx
  have hxk := congrArg (fun l : List (DataW Unit) => l[k]?) hx
  simp only [List.getElem?_map, List.getElem?_range hk, Option.map_some] at hxk
  obtain ⟨x, hx1, hx2⟩ := Option.map_eq_some_iff.1 hxk.symm
  have hf := hff k hk
  rw [hx1, kindsC] at hf
  obtain ⟨x1, x2⟩ := x
  have hx2 : x1 = .lit (.string (qkindw (k : Int))) := hx2
  subst hx2
  obtain ⟨s, e, hs, _⟩ := DataW.trod_string Tryz.underlying9 hf
  injection hs with hs _
  injection hs with hs
  injection hs with hs
  rw [World.var?_cell kindsG h3]
  have hv : (cs.toList.drop (k * 1))[0]? = some (.string s) := by
    have := congrArg (fun l : List Value => l[0]?) e
    simpa using this
  rw [List.getElem?_drop] at hv
  rw [hs, list_qtx, ← hv]
  simp
theorem Forms.lt {w : World} (h : Forms w) : 0 < w.heap.size := by
  have := (h 0 (by omega)).1
  rcases Nat.lt_or_ge 0 w.heap.size with hlt | hge
  · exact hlt
  · unfold World.cell? at this
    simp [Array.getElem?_eq_none hge] at this
theorem Forms.below {w w' : World} (h : Forms w) (hb : Below w.heap.size w w') : Forms w' := by
  intro k hk
  have hlt := h.lt
  obtain ⟨h0, h1, h2, h3⟩ := h k hk
  exact ⟨(hb.cell hlt).trans h0, (hb.cell hlt).trans h1, (hb.cell hlt).trans h2, (hb.cell hlt).trans h3⟩
theorem Kinds.below {w w' : World} (h : Kinds w) (hb : Below w.heap.size w w') : Kinds w' := by
  intro k hk
  have hlt : 1 < w.heap.size := by
    have := h k hk
    rcases Nat.lt_or_ge 1 w.heap.size with hlt | hge
    · exact hlt
    · unfold World.cell? at this
      simp [Array.getElem?_eq_none hge] at this
  exact (hb.cell hlt).trans (h k hk)
end Go.Proofs.YteefncohknclcaaGreatDoor
