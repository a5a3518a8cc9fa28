/- Texts joined: CloneMLay, MacroCW, Typed, FileStW, FileAddW, MacroFlW. Conditions: theirs. -/
import Derived.Shelf.SlicesE.Clone
import Derived.Test.YtoiolepengcagaaGreatDoorProg
import Derived.Test.YtoiolepengcagaaGreatDoorGraphRightLWM7
import Derived.Deep.RegionLaw
import Derived.Laws.OwnMore
import Derived.Maps.AppendAt
import Derived.Test.YtoiolepengcagaaGreatDoorInferW
import Derived.BigQuiet
import Derived.Deep.CutRange
namespace Go.Proofs
open Go.Shelf Go.RowKit
end Go.Proofs
namespace Go.Proofs.YtoiolepengcagaaGreatDoor
open Go.RowKit Go.Shelf Go.Maps
theorem own_drew {w : World} {base size n : Nat} {e : TypeId} {v : Value} {xs : List Value} (h : w.ownsRow base e size v n xs) : w.drew.ownsRow base e size v n xs := own_none h ⟨rfl, rfl, rfl, Nat.le_refl _, fun _ _ _ => rfl⟩
theorem grown_drew {w u : World} {row : Option Nat} (h : w.grownBy u row) : w.grownBy u.drew row := ⟨h.os, h.tape, h.output, h.size, h.block⟩
theorem info_mac : (Tryz.prog.info? 86).map (fun i => (i.zero, i.size, i.bytes)) = some (some (.agg #[.string ⟨#[]⟩, .string ⟨#[]⟩]), 2, 32) := by kernel_rfl
theorem mac_cells {l : List Mac} {u : Value} (h : u ∈ cells2 mF mG l) : u.oneCell' = true := by
  unfold cells2 at h
  rw [List.mem_flatMap] at h
  obtain ⟨m, _, hm⟩ := h
  simp at hm
  rcases hm with rfl | rfl <;> rfl
theorem MacsIn.own {w : World} {base n c : Nat} {p : Option Addr} {l : List Mac} (h : w.ownsRow base 86 2 (.slice p n c) n (cells2 mF mG l)) (hbig : n ≤ 8796093022208) (hs : ∀ m ∈ l, m.1.length ≤ 1048600 ∧ m.2.length ≤ 1048600) : MacsIn w p n c l := ⟨P2At.own h hbig, hs⟩
/-- append of one macro, as one step of a region that draws -/
theorem step_mac {ops : Array Oper} {o : Oper} {a : Act} {w : World} {K : Act → World → Prop} {Q : Exit → Act → World → Prop} {E : Prop} (hg : o.guard = none) (s x : Operand)
    (ho : o.op = .call { callee := .builtin .append, args := #[s, x], argTypes := #[39, 39] })
    (base : Nat) (v : Value) (n : Nat) (l : List Mac) (hs : a.eval s = v) (hown : w.ownsRow base 86 2 v n (cells2 mF mG l))
    (g : Nat) (m : Mac) (hx : a.eval x = .slice (some ⟨g, 0, none⟩) 1 1) (c0 : w.cell? ⟨g, 0, none⟩ = some (mF m)) (c1 : w.cell? ⟨g, 1, none⟩ = some (mG m)) (hn : n ≤ 4398046511103) (hbase : base ≤ w.heap.size)
    (h : ∀ v' w', w'.ownsRow base 86 2 v' (n + 1) (cells2 mF mG (l ++ [m])) → w.grownBy w' v.ownBlock → K (a.put o.dst v') w') :
    if Region.wanted o (yielded ops a.tmps) = true then Oper.wp Tryz.prog o a w K Q else E := by
  have hw : Region.wanted o (yielded ops a.tmps) = true := by simp [Region.wanted, hg]
  rw [if_pos hw]
  obtain ⟨i0, hi, hz0, hz1, hz2⟩ := info_parts info_mac
  refine wp_append_own w s x 39 ho base 86 i0 _ 2 32 Tryz.underlying39 hi hz0 hz1 hz2 rfl (by decide) v n _ hs hown ⟨g, 0, none⟩ 1 1 [mF m, mG m] hx rfl ?_ ?_ (by unfold maxLen; omega) (by omega) hbase (fun v' w' h1 h2 _ => h v' w' ?_ h2)
  · intro j q hj
    match j, hj with
    | 0, hj => simp at hj; subst hj; simpa [Addr.add] using c0
    | 1, hj => simp at hj; subst hj; simpa [Addr.add] using c1
  · intro q hq; simp at hq; rcases hq with rfl | rfl <;> rfl
  · rw [cells2_append]; exact h1
end Go.Proofs.YtoiolepengcagaaGreatDoor
namespace Go.Proofs.YtoiolepengcagaaGreatDoor
open Go
/-- all cells of the block at which a slice begins are so -/
def AllC (w : World) (v : Value) (Pr : Value → Prop) : Prop := ∀ b, v.ownBlock = some b → ∃ cur t fr, w.heap[b]? = some (.cells cur t fr) ∧ ∀ u ∈ cur.toList, Pr u
theorem AllC.nil_ (w : World) (Pr : Value → Prop) : AllC w (.slice none 0 0) Pr := fun b h => by simp [Value.ownBlock] at h
theorem AllC.kept {w w' : World} {v : Value} {Pr : Value → Prop} {row : Option Nat} (h : AllC w v Pr) (hg : w.grownBy w' row) (hne : v.ownBlock = none ∨ v.ownBlock ≠ row) : AllC w' v Pr := fun b hb => by
  obtain ⟨cur, t, fr, h1, h2⟩ := h b hb
  refine ⟨cur, t, fr, ?_, h2⟩
  rw [hg.block b (Array.getElem?_eq_some_iff.1 h1).1 ?_]
  · exact h1
  · rcases hne with h3 | h3
    · rw [h3] at hb; cases hb
    · rw [← hb]; exact h3
theorem zero_all {z : Array Value} {n : Nat} {Pr : Value → Prop} (hz : ∀ u ∈ z.toList, Pr u) : ∀ u ∈ (Builtin.zeroCells z n).toList, Pr u := by
  intro u hu
  unfold Builtin.zeroCells at hu
  simp only [Array.toList_map, List.mem_map, Array.toList_range, List.mem_range] at hu
  obtain ⟨i, hi, rfl⟩ := hu
  have h0 : 0 < z.size := by
    rcases Nat.eq_zero_or_pos z.size with h | h
    · rw [h] at hi; simp at hi
    · exact h
  have hm := Nat.mod_lt i h0
  rw [getElem!_pos z _ hm]
  exact hz _ (by simp)
theorem append_all {P : Program} {w : World} {base : Nat} {t ty e : TypeId} {i : TypeInfo} {z : Value} (ht : P.underlying t = some (.slice e)) (hi : P.info? e = some i) (hz : i.zero = some z)
    {v : Value} {n : Nat} {xs : List Value} (hown : w.ownsRow base e i.size v n xs)
    {a : Addr} {m c : Nat} {news : List Value} (hl : news.length = m * i.size) (hnews : ∀ j u, news[j]? = some u → w.cell? (a.add j) = some u) (h1 : ∀ u ∈ news, u.oneCell' = true)
    (h63 : n + m ≤ maxLen) (hbytes : (n + m) * i.bytes ≤ 140737488355328) {Pr : Value → Prop} (pz : ∀ u ∈ z.cells.toList, Pr u) (pn : ∀ u ∈ news, Pr u) (hp : AllC w v Pr)
    {v' : Value} {w' : World} (hr : (Builtin.append_ #[t, t] ty #[v, .slice (some a) m c]).run P w = .ok v' w') : AllC w' v' Pr := by
  have hsmall : n + m ≤ 9223372036854775807 := by simp only [maxLen] at h63; omega
  have hall : ∀ l : List Value, (∀ u ∈ l, Pr u) → ∀ k, AllC (w.drew.alloc (.cells (l.toArray ++ news.toArray ++ Builtin.zeroCells z.cells k) e)) (.slice (some ⟨w.heap.size, 0, none⟩) (n + m) (grownCap w (n + m) 0 e)) Pr := by
    intro l hl k b hb
    have hb' : w.heap.size = b := by simpa [Value.ownBlock] using hb
    subst hb'
    refine ⟨_, _, _, heap_alloc_new w.drew _, fun u hu => ?_⟩
    simp only [Array.toList_append, List.mem_append] at hu
    rcases hu with (hu | hu) | hu
    · exact hl u hu
    · exact pn u hu
    · exact zero_all pz u hu
  rcases hown.2 with ⟨rfl, rfl⟩ | ⟨g, cap, cur, rfl, hbg, hg, hnc, hcm, hcs, htake⟩
  · by_cases hm : m = 0
    · subst hm
      have hn : news = [] := List.eq_nil_of_length_eq_zero (by simpa using hl)
      subst hn
      have h0 : (Builtin.append_ #[t, t] ty #[.slice none 0 0, .slice (some a) 0 c]).run P w = .ok (.slice none 0 0) w := by
        simp [Builtin.append_, run_underlying ht, sizeOf, typeInfo, hi, Builtin.lenOf, Builtin.firstCells, loadCells, loadCellsFrom]
      rw [h0] at hr
      injection hr with e1 e2
      subst e1 e2
      exact AllC.nil_ _ _
    · have h0 := run_append_nil (P := P) w t ty e i z ht hi hz a m c news hl hnews (by omega) (by omega) (by have hb := hbytes; simp only [Nat.zero_add] at hb; omega)
      rw [h0] at hr
      injection hr with e1 e2
      subst e1 e2
      intro b hb
      have hb' : w.heap.size = b := by simpa [Value.ownBlock] using hb
      subst hb'
      have := hall [] (fun u hu => by cases hu) (grownCap w m 0 e - m) w.heap.size (by simp [Value.ownBlock])
      simpa using this
  · have hcur : ∀ u ∈ cur.toList, Pr u := by
      obtain ⟨cur', t', fr', h2, h3⟩ := hp g (by simp [Value.ownBlock])
      rw [hg] at h2
      injection h2 with h2
      injection h2 with h2
      subst h2
      exact h3
    have hxs : ∀ u ∈ xs, Pr u := fun u hu => hcur u (by rw [← htake] at hu; exact List.mem_of_mem_take hu)
    by_cases hroom : n + m ≤ cap
    · have hfit : n * i.size + news.length ≤ cur.size := by rw [hl, hcs, ← Nat.add_mul]; exact Nat.mul_le_mul_right _ hroom
      have h0 := run_append_room (P := P) w t ty e i ht hi g n cap cur hg a m c news hl hnews h1 hroom hfit
      rw [h0] at hr
      injection hr with e1 e2
      subst e1 e2
      intro b hb
      have hb' : g = b := by simpa [Value.ownBlock] using hb
      subst hb'
      refine ⟨_, _, _, setRow_heap w g cur _ e _ hg, fun u hu => ?_⟩
      simp only [List.mem_append] at hu
      rcases hu with (hu | hu) | hu
      · exact hcur u (List.mem_of_mem_take hu)
      · exact pn u hu
      · exact hcur u (List.mem_of_mem_drop hu)
    · have holds : ∀ j u, xs[j]? = some u → w.cell? ((⟨g, 0, none⟩ : Addr).add j) = some u := hown.cells (g := g) rfl
      have h0 := run_append_grow (P := P) w t ty e i z ht hi hz ⟨g, 0, none⟩ n cap xs hown.1 holds a m c news hl hnews (by omega) (by omega) (growslice_fits (by omega) hbytes)
      rw [h0] at hr
      injection hr with e1 e2
      subst e1 e2
      intro b hb
      have hb' : w.heap.size = b := by simpa [Value.ownBlock] using hb
      subst hb'
      exact hall xs hxs _ w.heap.size (by simp [Value.ownBlock])
/-- append to a slice of the call's own, with what all its cells are -/
theorem wpList_append_all {P : Program} (w : World) {ops : Array Oper} {rest : List Oper} {o : Oper} {a : Act} {Q : Exit → Act → World → Prop} (hgd : o.guard = none) (s x : Operand) (t : TypeId)
    (ho : o.op = .call { callee := .builtin .append, args := #[s, x], argTypes := #[t, t] })
    (base : Nat) (e : TypeId) (i : TypeInfo) (z : Value) (size bytes : Nat) (ht : P.underlying t = some (.slice e)) (hi : P.info? e = some i) (hz : i.zero = some z) (hsize : i.size = size) (hby : i.bytes = bytes) (hzs : z.cells.size = size) (hsz : 0 < size)
    (v : Value) (n : Nat) (xs : List Value) (hs : a.eval s = v) (hown : w.ownsRow base e size v n xs)
    (ad : Addr) (m c : Nat) (news : List Value) (hx : a.eval x = .slice (some ad) m c) (hl : news.length = m * size) (hnews : ∀ j u, news[j]? = some u → w.cell? (ad.add j) = some u) (h1 : ∀ u ∈ news, u.oneCell' = true)
    (h63 : n + m ≤ maxLen) (hbytes : (n + m) * bytes ≤ 140737488355328) (hbase : base ≤ w.heap.size) (Pr : Value → Prop) (pz : ∀ u ∈ z.cells.toList, Pr u) (pn : ∀ u ∈ news, Pr u) (hp : AllC w v Pr)
    (h : ∀ v' w', w'.ownsRow base e size v' (n + m) (xs ++ news) → w.grownBy w' v.ownBlock → AllC w' v' Pr → (v'.ownBlock = v.ownBlock ∨ v'.ownBlock = some w.heap.size) → wpList P ops Q rest (a.put o.dst v') w') : wpList P ops Q (o :: rest) a w := by
  subst hsize
  subst hby
  refine wpList_plain hgd fun K hK => ?_
  obtain ⟨v', w', hr, h2, h3, _, h6⟩ := run_append_own_at (P := P) w base t o.type e i z i.size i.bytes ht hi hz rfl rfl hzs hsz v n xs hown ad m c news hl hnews h1 h63 hbytes hbase
  have h5 := append_all ht hi hz hown hl hnews h1 h63 hbytes pz pn hp hr
  unfold Oper.wp execOp
  simp only [ho, resolve, invoke, builtin, Sem.run_bind, Sem.run_pure, Result.andThen_ok, List.map_toArray, List.map_cons, List.map_nil, hs, hx, hr]
  exact hK _ _ (h v' w' h2 h3 h5 h6)
end Go.Proofs.YtoiolepengcagaaGreatDoor
namespace Go.Proofs.YtoiolepengcagaaGreatDoor
open Go.RowKit Go.Shelf
/-- a rule and the blocks of its two slices -/
structure RV where
  g1 : Nat
  g2 : Nat
  T : List ByteArray
  N : List ByteArray
def rvF (r : RV) : Value := .slice (some ⟨r.g1, 0, none⟩) r.T.length r.T.length
def rvG (r : RV) : Value := .slice (some ⟨r.g2, 0, none⟩) r.N.length r.N.length
/-- where the file's rows lie -/
structure FV where
  pm : Option Addr
  cm : Nat
  pp : Option Addr
  cp : Nat
  pi : Option Addr
  ci : Nat
  pr : Option Addr
  cr : Nat
def FV.m (s : FV) (F : FileV) : Value := .slice s.pm F.ms.length s.cm
def FV.p (s : FV) (F : FileV) : Value := .slice s.pp F.ph.length s.cp
def FV.i (s : FV) (F : FileV) : Value := .slice s.pi F.inf.length s.ci
def FV.r (s : FV) (F : FileV) : Value := .slice s.pr F.rs.length s.cr
structure FSt (base B : Nat) (F : FileV) (s : FV) (rl xl : List RV) (w : World) : Prop where
  box : w.heap[B]? = some (.cells #[s.m F, s.p F, s.i F, s.r F] 43 (0, 0))
  lt : B < base
  ms : w.ownsRow base 86 2 (s.m F) F.ms.length (cells2 mF mG F.ms)
  ph : w.ownsRow base 9 1 (s.p F) F.ph.length (strsV F.ph)
  inf : w.ownsRow base 100 2 (s.i F) F.inf.length (cells2 iF iG F.inf)
  rs : w.ownsRow base 61 2 (s.r F) F.rs.length (cells2 rvF rvG rl)
  same : rl.map (fun r => (r.T, r.N)) = F.rs
  own : ∀ r ∈ rl ++ xl, RowS w base r.g1 r.T ∧ RowS w base r.g2 r.N ∧ (s.p F).ownBlock ≠ some r.g1 ∧ (s.p F).ownBlock ≠ some r.g2
  sm : ∀ m ∈ F.ms, m.1.length ≤ 1048600 ∧ m.2.length ≤ 1048600
  sp : ∀ x ∈ F.ph, x.size ≤ 40
  si : ∀ x ∈ F.inf, x.1.size ≤ 1048700 ∧ x.2.size ≤ 1048700
theorem own_apart {w : World} {b b' e e' k k' n n' : Nat} {v v' : Value} {xs xs' : List Value} (h : w.ownsRow b e k v n xs) (h' : w.ownsRow b' e' k' v' n' xs') (he : e ≠ e') : v.ownBlock = none ∨ v.ownBlock ≠ v'.ownBlock := by
  rcases h.2 with ⟨rfl, _⟩ | ⟨g, cap, cur, rfl, _, hg, _⟩
  · exact .inl rfl
  · right
    intro e
    rcases h'.2 with ⟨rfl, _⟩ | ⟨g', cap', cur', rfl, _, hg', _⟩
    · simp [Value.ownBlock] at e
    · simp [Value.ownBlock] at e
      subst e
      rw [hg] at hg'
      injection hg' with hg'
      injection hg' with _ e1 _
      exact he e1
theorem grown_setF (w : World) (a : Addr) (u : Value) : w.grownBy (w.setCell a u) (some a.block) :=
  ⟨rfl, rfl, rfl, by simp, fun k _ hk => heap_setCell_other w a k u (fun e => hk (by rw [e]))⟩
theorem own_step {w w5 : World} {base e k n B i : Nat} {v u : Value} {xs : List Value} {r : Option Nat} (h : w.ownsRow base e k v n xs) (hg : w.grownBy w5 r) (hne : v.ownBlock = none ∨ v.ownBlock ≠ r) (hB : B < base) :
    (w5.setCell ⟨B, i, none⟩ u).ownsRow base e k v n xs :=
  (h.kept hg hne).kept (grown_setF w5 _ _) (.inr (fun e => by have := (h.lt B e).1; omega))
theorem own_set {w : World} {base e k n B i : Nat} {v u : Value} {xs : List Value} (h : w.ownsRow base e k v n xs) (hB : B < base) : (w.setCell ⟨B, i, none⟩ u).ownsRow base e k v n xs :=
  h.kept (grown_setF w _ _) (.inr (fun e => by have := (h.lt B e).1; omega))
theorem boxF {w : World} {b : Nat} {t : TypeId} {v0 v1 v2 v3 : Value} (h : w.heap[b]? = some (.cells #[v0, v1, v2, v3] t (0, 0))) :
    (w.cell? ⟨b, 0, none⟩ = some v0 ∧ w.cell? ⟨b, 1, none⟩ = some v1 ∧ w.cell? ⟨b, 2, none⟩ = some v2 ∧ w.cell? ⟨b, 3, none⟩ = some v3) ∧ ∀ o, w.frozen? ⟨b, o, none⟩ = false := by
  refine ⟨⟨?_, ?_, ?_, ?_⟩, fun o => ?_⟩
  all_goals simp [World.cell?, World.frozen?, h]
theorem boxF_set {w : World} {b : Nat} {t : TypeId} {v0 v1 v2 v3 : Value} (h : w.heap[b]? = some (.cells #[v0, v1, v2, v3] t (0, 0))) (u : Value) :
    (w.setCell ⟨b, 0, none⟩ u).heap[b]? = some (.cells #[u, v1, v2, v3] t (0, 0)) ∧ (w.setCell ⟨b, 1, none⟩ u).heap[b]? = some (.cells #[v0, u, v2, v3] t (0, 0)) ∧
    (w.setCell ⟨b, 2, none⟩ u).heap[b]? = some (.cells #[v0, v1, u, v3] t (0, 0)) ∧ (w.setCell ⟨b, 3, none⟩ u).heap[b]? = some (.cells #[v0, v1, v2, u] t (0, 0)) := by
  simp only [Go.Sort.setCell_eq]
  refine ⟨?_, ?_, ?_, ?_⟩
  all_goals simp [Go.Sort.mapBlock, Go.Sort.onCells, Array.getElem?_modify, h]
section
variable {base B : Nat} {F : FileV} {s : FV} {rl xl : List RV} {w w5 : World}
theorem FSt.blt (h : FSt base B F s rl xl w) : B < w.heap.size := (Array.getElem?_eq_some_iff.1 h.box).1
theorem FSt.below (h : FSt base B F s rl xl w) (hb : Below w.heap.size w w5) : FSt base B F s rl xl w5 where
  box := by rw [hb.block B h.blt]; exact h.box
  lt := h.lt
  ms := own_belowR h.ms hb
  ph := own_belowR h.ph hb
  inf := own_belowR h.inf hb
  rs := own_belowR h.rs hb
  same := h.same
  own := fun r hr => ⟨(h.own r hr).1.below hb, (h.own r hr).2.1.below hb, (h.own r hr).2.2⟩
  sm := h.sm
  sp := h.sp
  si := h.si
theorem FSt.boxAt (h : FSt base B F s rl xl w) {r : Option Nat} (hg : w.grownBy w5 r) (hr : ∀ k, r = some k → base ≤ k) : w5.heap[B]? = some (.cells #[s.m F, s.p F, s.i F, s.r F] 43 (0, 0)) := by
  rw [hg.block B h.blt (fun e => by have := hr B e.symm; have := h.lt; omega)]
  exact h.box
theorem RowS.step {base g B i : Nat} {T : List ByteArray} {u : Value} {w w5 : World} {r : Option Nat} (h : RowS w base g T) (hg : w.grownBy w5 r) (hr : r ≠ some g) (hB : B < base) : RowS (w5.setCell ⟨B, i, none⟩ u) base g T :=
  (h.grown hg hr).grown (grown_setF w5 _ _) (fun e => by injection e with e; have h1 := h.lt.1; have h2 : B = g := e; omega)
theorem RowS.other {base g b' e' k' n' : Nat} {T : List ByteArray} {v' : Value} {xs' : List Value} (h : RowS w base g T) (h' : w.ownsRow b' e' k' v' n' xs') (he : 9 ≠ e') : v'.ownBlock ≠ some g := by
  rcases own_apart h.1 h' he with h1 | h1
  · cases h1
  · exact fun e => h1 e.symm
/-- a macro more -/
theorem FSt.macro (h : FSt base B F s rl xl w) {x : Mac} {p : Option Addr} {c : Nat} (hx : x.1.length ≤ 1048600 ∧ x.2.length ≤ 1048600) (hg : w.grownBy w5 (s.m F).ownBlock)
    (ho : w5.ownsRow base 86 2 (.slice p (F.ms.length + 1) c) (F.ms.length + 1) (cells2 mF mG (F.ms ++ [x]))) :
    w5.heap[B]? = some (.cells #[s.m F, s.p F, s.i F, s.r F] 43 (0, 0)) ∧ FSt base B { F with ms := F.ms ++ [x] } { s with pm := p, cm := c } rl xl (w5.setCell ⟨B, 0, none⟩ (.slice p (F.ms.length + 1) c)) := by
  have hb := h.boxAt hg (fun k hk => (h.ms.lt k hk).1)
  have hl : (F.ms ++ [x]).length = F.ms.length + 1 := by simp
  refine ⟨hb, ⟨?_, h.lt, ?_, ?_, ?_, ?_, h.same, fun r hr => ?_, ?_, h.sp, h.si⟩⟩
  · have := (boxF_set hb (.slice p (F.ms.length + 1) c)).1
    rw [this]
    unfold FV.m
    rw [hl]
    rfl
  · have := own_set (i := 0) (u := .slice p (F.ms.length + 1) c) ho h.lt
    unfold FV.m
    rw [hl]
    exact this
  · exact own_step h.ph hg (own_apart h.ph h.ms (by decide)) h.lt
  · exact own_step h.inf hg (own_apart h.inf h.ms (by decide)) h.lt
  · exact own_step h.rs hg (own_apart h.rs h.ms (by decide)) h.lt
  · obtain ⟨h1, h2, h3, h4⟩ := h.own r hr
    exact ⟨h1.step hg (h1.other h.ms (by decide)) h.lt, h2.step hg (h2.other h.ms (by decide)) h.lt, h3, h4⟩
  · intro m hm
    rcases List.mem_append.1 hm with hm | hm
    · exact h.sm m hm
    · rw [List.mem_singleton.1 hm]; exact hx
/-- a phony name more -/
theorem FSt.phony (h : FSt base B F s rl xl w) {x : ByteArray} {p : Option Addr} {c : Nat} (hx : x.size ≤ 40) (hg : w.grownBy w5 (s.p F).ownBlock)
    (ho : w5.ownsRow base 9 1 (.slice p (F.ph.length + 1) c) (F.ph.length + 1) (strsV (F.ph ++ [x])))
    (hl : (Value.slice p (F.ph.length + 1) c).ownBlock = (s.p F).ownBlock ∨ (Value.slice p (F.ph.length + 1) c).ownBlock = some w.heap.size) :
    w5.heap[B]? = some (.cells #[s.m F, s.p F, s.i F, s.r F] 43 (0, 0)) ∧ FSt base B { F with ph := F.ph ++ [x] } { s with pp := p, cp := c } rl xl (w5.setCell ⟨B, 1, none⟩ (.slice p (F.ph.length + 1) c)) := by
  have hb := h.boxAt hg (fun k hk => (h.ph.lt k hk).1)
  have hln : (F.ph ++ [x]).length = F.ph.length + 1 := by simp
  refine ⟨hb, ⟨?_, h.lt, ?_, ?_, ?_, ?_, h.same, fun r hr => ?_, h.sm, ?_, h.si⟩⟩
  · have := (boxF_set hb (.slice p (F.ph.length + 1) c)).2.1
    rw [this]
    unfold FV.p
    rw [hln]
    rfl
  · exact own_step h.ms hg (own_apart h.ms h.ph (by decide)) h.lt
  · have := own_set (i := 1) (u := .slice p (F.ph.length + 1) c) ho h.lt
    unfold FV.p
    rw [hln]
    exact this
  · exact own_step h.inf hg (own_apart h.inf h.ph (by decide)) h.lt
  · exact own_step h.rs hg (own_apart h.rs h.ph (by decide)) h.lt
  · obtain ⟨h1, h2, h3, h4⟩ := h.own r hr
    have l1 := h1.lt.2
    have l2 := h2.lt.2
    refine ⟨h1.step hg h3 h.lt, h2.step hg h4 h.lt, ?_, ?_⟩
    · unfold FV.p
      rw [hln]
      show (Value.slice p (F.ph.length + 1) c).ownBlock ≠ _
      rcases hl with e | e
      · rw [e]; exact h3
      · rw [e]; intro e2; injection e2 with e2; omega
    · unfold FV.p
      rw [hln]
      show (Value.slice p (F.ph.length + 1) c).ownBlock ≠ _
      rcases hl with e | e
      · rw [e]; exact h4
      · rw [e]; intro e2; injection e2 with e2; omega
  · intro m hm
    rcases List.mem_append.1 hm with hm | hm
    · exact h.sp m hm
    · rw [List.mem_singleton.1 hm]; exact hx
/-- an inference more -/
theorem FSt.infer (h : FSt base B F s rl xl w) {x : Inf} {p : Option Addr} {c : Nat} (hx : x.1.size ≤ 1048700 ∧ x.2.size ≤ 1048700) (hg : w.grownBy w5 (s.i F).ownBlock)
    (ho : w5.ownsRow base 100 2 (.slice p (F.inf.length + 1) c) (F.inf.length + 1) (cells2 iF iG (F.inf ++ [x]))) :
    w5.heap[B]? = some (.cells #[s.m F, s.p F, s.i F, s.r F] 43 (0, 0)) ∧ FSt base B { F with inf := F.inf ++ [x] } { s with pi := p, ci := c } rl xl (w5.setCell ⟨B, 2, none⟩ (.slice p (F.inf.length + 1) c)) := by
  have hb := h.boxAt hg (fun k hk => (h.inf.lt k hk).1)
  have hl : (F.inf ++ [x]).length = F.inf.length + 1 := by simp
  refine ⟨hb, ⟨?_, h.lt, ?_, ?_, ?_, ?_, h.same, fun r hr => ?_, h.sm, h.sp, ?_⟩⟩
  · have := (boxF_set hb (.slice p (F.inf.length + 1) c)).2.2.1
    rw [this]
    unfold FV.i
    rw [hl]
    rfl
  · exact own_step h.ms hg (own_apart h.ms h.inf (by decide)) h.lt
  · exact own_step h.ph hg (own_apart h.ph h.inf (by decide)) h.lt
  · have := own_set (i := 2) (u := .slice p (F.inf.length + 1) c) ho h.lt
    unfold FV.i
    rw [hl]
    exact this
  · exact own_step h.rs hg (own_apart h.rs h.inf (by decide)) h.lt
  · obtain ⟨h1, h2, h3, h4⟩ := h.own r hr
    exact ⟨h1.step hg (h1.other h.inf (by decide)) h.lt, h2.step hg (h2.other h.inf (by decide)) h.lt, h3, h4⟩
  · intro m hm
    rcases List.mem_append.1 hm with hm | hm
    · exact h.si m hm
    · rw [List.mem_singleton.1 hm]; exact hx
/-- a rule more -/
theorem FSt.rule {x : RV} (h : FSt base B F s rl [x] w) {p : Option Addr} {c : Nat} (hg : w.grownBy w5 (s.r F).ownBlock)
    (ho : w5.ownsRow base 61 2 (.slice p (F.rs.length + 1) c) (F.rs.length + 1) (cells2 rvF rvG (rl ++ [x]))) :
    w5.heap[B]? = some (.cells #[s.m F, s.p F, s.i F, s.r F] 43 (0, 0)) ∧ FSt base B { F with rs := F.rs ++ [(x.T, x.N)] } { s with pr := p, cr := c } (rl ++ [x]) [] (w5.setCell ⟨B, 3, none⟩ (.slice p (F.rs.length + 1) c)) := by
  have hb := h.boxAt hg (fun k hk => (h.rs.lt k hk).1)
  have hl : (F.rs ++ [(x.T, x.N)]).length = F.rs.length + 1 := by simp
  refine ⟨hb, ⟨?_, h.lt, ?_, ?_, ?_, ?_, by rw [List.map_append, h.same]; rfl, fun r hr => ?_, h.sm, h.sp, h.si⟩⟩
  · have := (boxF_set hb (.slice p (F.rs.length + 1) c)).2.2.2
    rw [this]
    unfold FV.r
    rw [hl]
    rfl
  · exact own_step h.ms hg (own_apart h.ms h.rs (by decide)) h.lt
  · exact own_step h.ph hg (own_apart h.ph h.rs (by decide)) h.lt
  · exact own_step h.inf hg (own_apart h.inf h.rs (by decide)) h.lt
  · have := own_set (i := 3) (u := .slice p (F.rs.length + 1) c) ho h.lt
    unfold FV.r
    rw [hl]
    exact this
  · rw [List.append_nil] at hr
    obtain ⟨h1, h2, h3, h4⟩ := h.own r hr
    exact ⟨h1.step hg (h1.other h.rs (by decide)) h.lt, h2.step hg (h2.other h.rs (by decide)) h.lt, h3, h4⟩
/-- a rule that is looked at beside -/
theorem FSt.with (h : FSt base B F s rl [] w) {x : RV} (h1 : RowS w base x.g1 x.T) (h2 : RowS w base x.g2 x.N) (h3 : (s.p F).ownBlock ≠ some x.g1) (h4 : (s.p F).ownBlock ≠ some x.g2) : FSt base B F s rl [x] w := by
  have ho : ∀ r ∈ rl ++ [x], RowS w base r.g1 r.T ∧ RowS w base r.g2 r.N ∧ (s.p F).ownBlock ≠ some r.g1 ∧ (s.p F).ownBlock ≠ some r.g2 := by
    intro r hr
    rcases List.mem_append.1 hr with hr | hr
    · exact h.own r (List.mem_append_left _ hr)
    · rw [List.mem_singleton.1 hr]; exact ⟨h1, h2, h3, h4⟩
  exact { h with own := ho }
theorem FSt.less (h : FSt base B F s rl xl w) : FSt base B F s rl [] w :=
  { h with own := fun r hr => h.own r (List.mem_append_left _ (by simpa using hr)) }
end
end Go.Proofs.YtoiolepengcagaaGreatDoor
namespace Go.Proofs.YtoiolepengcagaaGreatDoor
open Go.RowKit Go.Shelf
theorem info_strF : (Tryz.prog.info? 9).map (fun i => (i.zero, i.size, i.bytes)) = some (some (.string ⟨#[]⟩), 1, 16) := by kernel_rfl
theorem info_infF : (Tryz.prog.info? 100).map (fun i => (i.zero, i.size, i.bytes)) = some (some (.agg #[.string ⟨#[]⟩, .string ⟨#[]⟩]), 2, 32) := by kernel_rfl
theorem info_ruleF : (Tryz.prog.info? 61).map (fun i => (i.zero, i.size, i.bytes)) = some (some (.agg #[.slice none 0 0, .slice none 0 0]), 2, 48) := by kernel_rfl
theorem app_strL (w : World) {ops : Array Oper} {rest : List Oper} {o : Oper} {a : Act} {Q : Exit → Act → World → Prop} (hgd : o.guard = none) (s x : Operand)
    (ho : o.op = .call { callee := .builtin .append, args := #[s, x], argTypes := #[23, 23] })
    (base : Nat) (v : Value) (n : Nat) (xs : List ByteArray) (hs : a.eval s = v) (hown : w.ownsRow base 9 1 v n (strsV xs))
    (g : Nat) (u : ByteArray) (hx : a.eval x = .slice (some ⟨g, 0, none⟩) 1 1) (hcell : w.cell? ⟨g, 0, none⟩ = some (.string u))
    (hn : n < 8796093022208) (hbase : base ≤ w.heap.size)
    (h : ∀ v' w', w'.ownsRow base 9 1 v' (n + 1) (strsV (xs ++ [u])) → w.grownBy w' v.ownBlock → (v'.ownBlock = v.ownBlock ∨ v'.ownBlock = some w.heap.size) → wpList Tryz.prog ops Q rest (a.put o.dst v') w') : wpList Tryz.prog ops Q (o :: rest) a w := by
  obtain ⟨i0, hi, hz0, hz1, hz2⟩ := info_parts info_strF
  refine wpList_append_all w hgd s x 23 ho base 9 i0 (.string ⟨#[]⟩) 1 16 Tryz.underlying23 hi hz0 hz1 hz2 rfl (by decide) v n (strsV xs) hs hown ⟨g, 0, none⟩ 1 1 [.string u] hx rfl ?_ ?_ (by unfold maxLen; omega) (by omega) hbase (fun _ => True) ?_ ?_ ?_ (fun v' w' h1 h2 _ h4 => h v' w' (by rw [strsV_snoc]; exact h1) h2 h4)
  · intro j q hj
    match j, hj with
    | 0, hj => simp at hj; subst hj; simpa [Addr.add] using hcell
  · intro q hq; simp at hq; subst hq; rfl
  · intro q hq; trivial
  · intro q hq; trivial
  · intro b hb
    rcases hown.2 with ⟨rfl, _⟩ | ⟨g', cap, cur, rfl, _, hlt, _, _, _, _⟩
    · simp [Value.ownBlock] at hb
    · simp [Value.ownBlock] at hb
      subst hb
      exact ⟨cur, _, _, hlt, fun _ _ => trivial⟩
theorem step_infF {ops : Array Oper} {o : Oper} {a : Act} {w : World} {K : Act → World → Prop} {Q : Exit → Act → World → Prop} {E : Prop} (hg : o.guard = none) (s x : Operand)
    (ho : o.op = .call { callee := .builtin .append, args := #[s, x], argTypes := #[40, 40] })
    (base : Nat) (v : Value) (n : Nat) (l : List Inf) (hs : a.eval s = v) (hown : w.ownsRow base 100 2 v n (cells2 iF iG l))
    (g : Nat) (m : Inf) (hx : a.eval x = .slice (some ⟨g, 0, none⟩) 1 1) (c0 : w.cell? ⟨g, 0, none⟩ = some (iF m)) (c1 : w.cell? ⟨g, 1, none⟩ = some (iG m)) (hn : n ≤ 1000000) (hbase : base ≤ w.heap.size)
    (h : ∀ v' w', w'.ownsRow base 100 2 v' (n + 1) (cells2 iF iG (l ++ [m])) → w.grownBy w' v.ownBlock → K (a.put o.dst v') w') :
    if Region.wanted o (yielded ops a.tmps) = true then Oper.wp Tryz.prog o a w K Q else E := by
  have hw : Region.wanted o (yielded ops a.tmps) = true := by simp [Region.wanted, hg]
  rw [if_pos hw]
  obtain ⟨i0, hi, hz0, hz1, hz2⟩ := info_parts info_infF
  refine wp_append_own w s x 40 ho base 100 i0 _ 2 32 Tryz.underlying40 hi hz0 hz1 hz2 rfl (by decide) v n _ hs hown ⟨g, 0, none⟩ 1 1 [iF m, iG m] hx rfl ?_ ?_ (by unfold maxLen; omega) (by omega) hbase (fun v' w' h1 h2 _ => h v' w' ?_ h2)
  · intro j q hj
    match j, hj with
    | 0, hj => simp at hj; subst hj; simpa [Addr.add] using c0
    | 1, hj => simp at hj; subst hj; simpa [Addr.add] using c1
  · intro q hq; simp at hq; rcases hq with rfl | rfl <;> rfl
  · rw [cells2_append]; exact h1
theorem step_ruleF {ops : Array Oper} {o : Oper} {a : Act} {w : World} {K : Act → World → Prop} {Q : Exit → Act → World → Prop} {E : Prop} (hg : o.guard = none) (s x : Operand)
    (ho : o.op = .call { callee := .builtin .append, args := #[s, x], argTypes := #[41, 41] })
    (base : Nat) (v : Value) (n : Nat) (l : List RV) (hs : a.eval s = v) (hown : w.ownsRow base 61 2 v n (cells2 rvF rvG l))
    (g : Nat) (m : RV) (hx : a.eval x = .slice (some ⟨g, 0, none⟩) 1 1) (c0 : w.cell? ⟨g, 0, none⟩ = some (rvF m)) (c1 : w.cell? ⟨g, 1, none⟩ = some (rvG m)) (hn : n ≤ 1000000) (hbase : base ≤ w.heap.size)
    (h : ∀ v' w', w'.ownsRow base 61 2 v' (n + 1) (cells2 rvF rvG (l ++ [m])) → w.grownBy w' v.ownBlock → K (a.put o.dst v') w') :
    if Region.wanted o (yielded ops a.tmps) = true then Oper.wp Tryz.prog o a w K Q else E := by
  have hw : Region.wanted o (yielded ops a.tmps) = true := by simp [Region.wanted, hg]
  rw [if_pos hw]
  obtain ⟨i0, hi, hz0, hz1, hz2⟩ := info_parts info_ruleF
  refine wp_append_own w s x 41 ho base 61 i0 _ 2 48 Tryz.underlying41 hi hz0 hz1 hz2 rfl (by decide) v n _ hs hown ⟨g, 0, none⟩ 1 1 [rvF m, rvG m] hx rfl ?_ ?_ (by unfold maxLen; omega) (by omega) hbase (fun v' w' h1 h2 _ => h v' w' ?_ h2)
  · intro j q hj
    match j, hj with
    | 0, hj => simp at hj; subst hj; simpa [Addr.add] using c0
    | 1, hj => simp at hj; subst hj; simpa [Addr.add] using c1
  · intro q hq; simp at hq; rcases hq with rfl | rfl <;> rfl
  · rw [cells2_append]; exact h1
theorem rb1w (w : World) (o : Obj) : Below w.heap.size w (w.alloc o) := (Below.refl _ _).alloc (Nat.le_refl _) _
/-- what add leaves -/
def AddPost (base B : Nat) (F : FileV) (T N : List ByteArray) (w : World) (e : Ending) (w' : World) : Prop :=
  e = .returned (.int .i64 (addF F T N).2) ∧ (∃ s rl, FSt base B (addF F T N).1 s rl [] w') ∧ Below B w w' ∧ w.heap.size ≤ w'.heap.size
theorem slice_form {w : World} {base e k n : Nat} {v : Value} {xs : List Value} (h : w.ownsRow base e k v n xs) : ∃ p c, v = .slice p n c := by
  rcases h.2 with ⟨rfl, rfl⟩ | ⟨g, cap, cur, rfl, _⟩
  · exact ⟨none, 0, rfl⟩
  · exact ⟨_, cap, rfl⟩
theorem FSt.nlp {base B : Nat} {F : FileV} {s : FV} {rl xl : List RV} {w : World} (h : FSt base B F s rl xl w) (hn : F.ph.length ≤ 1000) : NL w s.pp F.ph.length s.cp F.ph :=
  NL_own h.ph (fun x hx => by have := h.sp x hx; omega) (by omega)
theorem addF_3 {F : FileV} {T N : List ByteArray} (h : Lib.containsS T phonyS = true) (h1 : 1 < T.length) : addF F T N = (F, 3) := by unfold addF; rw [if_pos h, if_pos h1]
theorem addF_p {F : FileV} {T N : List ByteArray} (h : Lib.containsS T phonyS = true) (h1 : ¬ 1 < T.length) : addF F T N = ({ F with ph := addP F.ph N }, if 20 < (addP F.ph N).length then 2 else 0) := by unfold addF; rw [if_pos h, if_neg h1]
theorem addF_i {F : FileV} {T N : List ByteArray} (h : Lib.containsS T phonyS = false) (h1 : pairB (T.getD 0 ByteArray.empty) = true) (h2 : T.length = 1) (h3 : N.length = 0) : addF F T N = ({ F with inf := if hasI F.inf (pairI (T.getD 0 ByteArray.empty)) = true then F.inf else F.inf ++ [pairI (T.getD 0 ByteArray.empty)] }, 0) := by
  unfold addF; rw [h, if_neg (by decide), if_pos ⟨h1, h2, h3⟩]
theorem addF_r {F : FileV} {T N : List ByteArray} (h : Lib.containsS T phonyS = false) (h1 : ¬ (pairB (T.getD 0 ByteArray.empty) = true ∧ T.length = 1 ∧ N.length = 0)) : addF F T N = ({ F with rs := F.rs ++ [(T, N)] }, if 100 < F.rs.length + 1 then 2 else 0) := by
  unfold addF; rw [h, if_neg (by decide), if_neg h1, List.length_append]; rfl
theorem addP_len (P : List ByteArray) : ∀ N : List ByteArray, (addP P N).length ≤ P.length + N.length := by
  intro N
  unfold addP
  induction N generalizing P with
  | nil => exact Nat.le_refl _
  | cons n N ih =>
    rw [List.foldl_cons]
    refine Nat.le_trans (ih _) ?_
    split
    · rw [List.length_cons]; omega
    · rw [List.length_append, List.length_cons]; simp; omega
theorem addP_next {P N : List ByteArray} {j : Nat} (hj : j < N.length) : addP P (N.take (j + 1)) = if Lib.containsS (addP P (N.take j)) (N.getD j ByteArray.empty) = true then addP P (N.take j) else addP P (N.take j) ++ [N.getD j ByteArray.empty] := by
  rw [List.take_succ_eq_append_getElem hj, addP_snoc, List.getD_eq_getElem?_getD, List.getElem?_eq_getElem hj]
  rfl
theorem FSt.phl {base B : Nat} {F : FileV} {s : FV} {rl xl : List RV} {w : World} (h : FSt base B F s rl xl w) : w.cell? ⟨B, 1, none⟩ = some (.slice s.pp F.ph.length s.cp) := (boxF h.box).1.2.1
/-- .. and what is left of the world below -/
theorem below_app {b B : Nat} {w u z : World} {r : Option Nat} {i : Nat} {x : Value} (h : Below b w u) (g : u.grownBy z r) (hb : b ≤ u.heap.size) (hr : ∀ k, r = some k → b ≤ k) (hB : b ≤ B) : Below b w (z.setCell ⟨B, i, none⟩ x) := (h.grown g hb hr).setCell hB _
theorem FSt.drew {base B : Nat} {F : FileV} {s : FV} {rl xl : List RV} {w : World} (h : FSt base B F s rl xl w) : FSt base B F s rl xl w.drew := h.below ((Below.refl _ _).drew)
theorem FSt.infs {base B : Nat} {F : FileV} {s : FV} {rl xl : List RV} {w u : World} (h : FSt base B F s rl xl w) (hn : F.inf.length ≤ 1000000) (hb : Below w.heap.size w u) : InfsIn u s.pi F.inf.length s.ci F.inf := by
  have hw : InfsIn w s.pi F.inf.length s.ci F.inf := by
    refine ⟨P2At.own h.inf (by omega), fun x hx => ⟨by have := (h.si x hx).1; omega, by have := (h.si x hx).2; omega⟩, ?_⟩
    rcases h.inf.2 with ⟨hv, hn⟩ | ⟨g, cap, cur, hv, _, _, hc, _⟩
    · have hv' : Value.slice s.pi F.inf.length s.ci = .slice none 0 0 := hv
      injection hv' with _ e1 e2
      omega
    · have hv' : Value.slice s.pi F.inf.length s.ci = .slice (some ⟨g, 0, none⟩) F.inf.length cap := hv
      injection hv' with _ _ e2
      omega
  exact hw.below hb
theorem pairI_size {s : ByteArray} (h : s.size ≤ 1048600) : (pairI s).1.size ≤ 1048700 ∧ (pairI s).2.size ≤ 1048700 := by
  have key : ∀ k, ((partsB s).getD k ByteArray.empty).size ≤ s.size := fun k => by
    rcases Nat.lt_or_ge k (partsB s).length with hk | hk
    · rw [List.getD_eq_getElem?_getD, List.getElem?_eq_getElem hk]
      exact splitB_size ⟨#[46]⟩ _ s _ (List.getElem_mem hk)
    · rw [List.getD_eq_getElem?_getD, List.getElem?_eq_none hk]
      exact Nat.zero_le _
  have h1 := key 1
  have h2 := key 2
  unfold pairI
  constructor
  · show (ByteArray.size (_ ++ _)) ≤ _; rw [ByteArray.size_append]; show 1 + _ ≤ _; omega
  · show (ByteArray.size (_ ++ _)) ≤ _; rw [ByteArray.size_append]; show 1 + _ ≤ _; omega
set_option maxHeartbeats 8000000 in
set_option maxRecDepth 100000 in
theorem add_ok (base B : Nat) (F : FileV) (s : FV) (rl : List RV) (x : RV) (w : World) (h : FSt base B F s rl [x] w) (hM : MLm w) (hbase : base ≤ w.heap.size) (hok : RuleOk x.T x.N) (hp : F.ph.length ≤ 20) (hi : F.inf.length ≤ 1000) (hr : F.rs.length ≤ 1000) :
    Calls Tryz.prog 43 #[.pointer (some ⟨B, 0, none⟩), .agg #[rvF x, rvG x]] w (AddPost base B F x.T x.N w) := by
  obtain ⟨g1, g2, T, N⟩ := x
  have hlT := hok.few.1
  have hlN := hok.few.2
  have hne : 0 < T.length := by
    rcases Nat.eq_zero_or_pos T.length with e | e
    · exact absurd (List.length_eq_zero_iff.1 e) hok.some_
    · exact e
  have hsz : ∀ z ∈ T ++ N, z.size ≤ 40 := fun z hz => by
    have := hok.names z hz
    unfold nameE at this
    split at this
    · cases this
    · omega
  have HSZ := Lib.hid hsz
  obtain ⟨W, hW⟩ : ∃ W, W = w.alloc (.cells #[.slice (some ⟨g1, 0, none⟩) T.length T.length, .slice (some ⟨g2, 0, none⟩) N.length N.length] 61) := ⟨_, rfl⟩
  have hBW : Below w.heap.size w W := by rw [hW]; exact (Below.refl _ _).alloc (Nat.le_refl _) _
  have hWs : W.heap.size = w.heap.size + 1 := by rw [hW]; simp
  have hz : W.heap[w.heap.size]? = some (.cells #[.slice (some ⟨g1, 0, none⟩) T.length T.length, .slice (some ⟨g2, 0, none⟩) N.length N.length] 61 (0, 0)) := by rw [hW]; exact rb_new w _
  have HF := Lib.hid (h.below hBW)
  have HM := Lib.hid (hM.below hBW)
  have HWS := Lib.hid hWs
  have HBW := Lib.hid hBW
  have HBB := Lib.hid (show B < base from h.lt)
  obtain ⟨c1, c2, c3⟩ := rb_cells hz
  have HZ := Lib.hid hz
  have hown := HF.out.own ⟨g1, g2, T, N⟩ (by simp)
  have HNT := Lib.hid hown.1.nl
  have HNN := Lib.hid hown.2.1.nl
  clear h hBW hWs hz hM hok hsz hown
  show Calls Tryz.prog 43 #[.pointer (some ⟨B, 0, none⟩), .agg #[.slice (some ⟨g1, 0, none⟩) T.length T.length, .slice (some ⟨g2, 0, none⟩) N.length N.length]] w _
  go_enter Tryz.func43, Tryz.ntmps43
  go_upto_region 1 with fail
  rw [← hW]
  clear hW
  cases hph : Lib.containsS T phonyS with
  | true =>
    have HPH := Lib.hid hph
    clear hph
    go_upto_region 2 with (go_at_call 78; refine (nlw_contains HNT.out.weak phonyS).mono ?_; rw [HPH.out]; rintro e w' ⟨rfl, hw⟩; rw [hw]; clear hw)
    by_cases h1 : 1 < T.length
    · have HE := Lib.hid (addF_3 (F := F) (N := N) HPH.out h1)
      have hd : decide ((1 : Int) < (T.length : Int)) = true := decide_eq_true (by omega)
      go_wp2
      go_ret
      refine ⟨by rw [HE.out]; rfl, ⟨s, rl, ?_⟩, HBW.out.mono (by have := HBB.out; omega), HBW.out.size⟩
      rw [HE.out]
      exact HF.out.less
    · have HE := Lib.hid (addF_p (F := F) (N := N) HPH.out h1)
      have hd : decide ((1 : Int) < (T.length : Int)) = false := decide_eq_false (by omega)
      go_wp2_with fail
      go_loopw [19] (fun i wr => ∃ (j : Nat) (s' : FV), j ≤ N.length ∧ i = .int .i64 j ∧ Hid (FSt base B { F with ph := addP F.ph (N.take j) } s' rl [⟨g1, g2, T, N⟩] wr) ∧ Hid (Below B W wr) ∧ Hid (W.heap.size ≤ wr.heap.size)) (fun i _ => N.length - (intOf i).toNat)
      case atStart => exact ⟨0, s, Nat.zero_le _, rfl, HF.out, Below.refl _ _, Nat.le_refl _⟩
      case round =>
        obtain ⟨j, s', hj, rfl, HFj, HBj, HSj⟩ := hrel
        by_cases hlt : j < N.length
        · have HNX := Lib.hid (addP_next (P := F.ph) hlt)
          have hPl : (addP F.ph (N.take j)).length ≤ 40 := by have := addP_len F.ph (N.take j); rw [List.length_take] at this; omega
          have hNj : Hid (NL wr (some ⟨g2, 0, none⟩) N.length N.length N) := (HFj.out.own ⟨g1, g2, T, N⟩ (by simp)).2.1.nl
          have hcell : wr.cell? ⟨g2, j, none⟩ = some (.string (N.getD j ByteArray.empty)) := by
            have := hNj.out.weak.cellAt j hlt
            rwa [Nat.zero_add] at this
          have hy40 : (N.getD j ByteArray.empty).size ≤ 40 := HSZ.out _ (List.mem_append_right _ (by rw [List.getD_eq_getElem?_getD, List.getElem?_eq_getElem hlt]; exact List.getElem_mem hlt))
          have HNP : Hid (NL wr s'.pp (addP F.ph (N.take j)).length s'.cp (addP F.ph (N.take j))) := HFj.out.nlp (by show (addP F.ph (N.take j)).length ≤ 1000; omega)
          have e1 := HFj.out.phl
          simp only at e1
          have HFA : Hid (FSt base B { F with ph := addP F.ph (N.take j) } s' rl [⟨g1, g2, T, N⟩] (wr.alloc (.cells #[.string (N.getD j ByteArray.empty)] 9))) := HFj.out.below (rb1w wr _)
          have HBA : Hid (base ≤ (wr.alloc (.cells #[.string (N.getD j ByteArray.empty)] 9)).heap.size) := by show _ ≤ _; have h1 := HSj.out; have h2 := HBW.out.size; simp; omega
          have HBJA : Hid (Below B W (wr.alloc (.cells #[.string (N.getD j ByteArray.empty)] 9))) := HBj.out.alloc (by have h1 := HSj.out; have h2 := HBW.out.size; have h3 := HBB.out; omega) _
          have hy := Lib.hid hy40
          clear hy40
          generalize addP F.ph (N.take j) = P at *
          generalize N.getD j ByteArray.empty = y at *
          cases hc : Lib.containsS P y with
          | true =>
            have HC := Lib.hid hc
            have HNX2 : Hid (addP F.ph (N.take (j + 1)) = P) := by show _ = _; rw [HNX.out, hc]; rfl
            clear hc
            go_wp2_with (go_at_call 78; refine (nlw_contains HNP.out.weak y).mono ?_; rw [HC.out]; rintro e w' ⟨rfl, hw⟩; rw [hw]; clear hw)
            go_roundw
            case rel => exact ⟨j + 1, s', by omega, by go_num, by rw [HNX2.out]; exact HFj, HBj, HSj⟩
            case measure => simp [intOf]; omega
          | false =>
            have HC := Lib.hid hc
            have HNX2 : Hid (addP F.ph (N.take (j + 1)) = P ++ [y]) := by show _ = _; rw [HNX.out, hc]; rfl
            clear hc
            go_wp2_with (first
              | (go_at_call 78; refine (nlw_contains HNP.out.weak y).mono ?_; rw [HC.out]; rintro e w' ⟨rfl, hw⟩; rw [hw]; clear hw)
              | (at_builtin; refine app_strL _ rfl _ _ rfl base _ P.length P rfl HFA.out.ph wr.heap.size y rfl ?c1 (by omega) HBA.out ?_; rotate_right; intro v' w5 hown5 hgrow5 hlies5; obtain ⟨p5, c5, rfl⟩ := slice_form hown5; have h5 := HFA.out.phony hy.out hgrow5 hown5 hlies5; have H5 := Lib.hid h5.2; have HG5 := Lib.hid hgrow5; obtain ⟨⟨b0, b1, b2, b3⟩, b4⟩ := boxF h5.1; have hblt := (Array.getElem?_eq_some_iff.1 h5.1).1; clear h5 hown5 hgrow5 hlies5))
            case c1 => rw [World.cell?_alloc_at _ _ _ _ rfl]; rfl
            go_roundw
            case rel => exact ⟨j + 1, _, by omega, by go_num, by rw [HNX2.out]; exact H5, below_app HBJA.out HG5.out (by have := HBA.out; have h3 := HBB.out; omega) (fun k hk => by have := (HFA.out.ph.lt k hk).1; have h3 := HBB.out; omega) (Nat.le_refl _), by have h1 := HSj.out; have h2 := HG5.out.size; show W.heap.size ≤ _; simp at h2 ⊢; omega⟩
            case measure => simp [intOf]; omega
        · obtain rfl : j = N.length := by omega
          rw [List.take_length] at HFj
          have e1 := HFj.out.phl
          simp only at e1
          have HPN : Hid (addP F.ph N = addP F.ph N) := rfl
          by_cases hl : 20 < (addP F.ph N).length
          · have hd2 : decide ((20 : Int) < ((addP F.ph N).length : Int)) = true := decide_eq_true (by omega)
            have HL := Lib.hid hl
            clear hl
            go_wp2
            go_ret
            refine ⟨by rw [HE.out]; simp only [if_pos HL.out]; rfl, ⟨s', rl, ?_⟩, (HBW.out.mono (by have := HBB.out; omega)).trans HBj.out, by have := HSj.out; have := HBW.out.size; omega⟩
            rw [HE.out]
            exact HFj.out.less
          · have hd2 : decide ((20 : Int) < ((addP F.ph N).length : Int)) = false := decide_eq_false (by omega)
            have HL := Lib.hid hl
            clear hl
            go_wp2
            go_ret
            refine ⟨by rw [HE.out]; simp only [if_neg HL.out]; rfl, ⟨s', rl, ?_⟩, (HBW.out.mono (by have := HBB.out; omega)).trans HBj.out, by have := HSj.out; have := HBW.out.size; omega⟩
            rw [HE.out]
            exact HFj.out.less
  | false =>
    have HPH := Lib.hid hph
    clear hph
    obtain ⟨x0, hx0⟩ : ∃ x0, x0 = T.getD 0 ByteArray.empty := ⟨_, rfl⟩
    have hcell : W.cell? ⟨g1, 0, none⟩ = some (.string x0) := by
      have := HNT.out.weak.cellAt 0 hne
      rw [hx0]
      exact this
    have hx40 : x0.size ≤ 40 := HSZ.out _ (List.mem_append_left _ (by rw [hx0, List.getD_eq_getElem?_getD, List.getElem?_eq_getElem hne]; exact List.getElem_mem hne))
    have HP := Lib.hid (pair_ok x0 (by omega) W HM.out)
    have hps := pairI_size (s := x0) (by omega)
    have HPS := Lib.hid hps
    have HX0 := Lib.hid hx0
    clear hps hx0
    have HT0 : Hid (0 < T.length) := hne
    have hT1 : (1 : Int) ≤ (T.length : Int) := by omega
    cases hpb : pairB x0 with
    | false =>
      have hpv : pairV x0 = .agg #[.string ⟨#[]⟩, .string ⟨#[]⟩] := by unfold pairV; rw [hpb]; rfl
      rw [hpb, hpv] at HP
      have HE := Lib.hid (addF_r (F := F) (N := N) HPH.out (by rw [← HX0.out, hpb]; exact fun h => by cases h.1))
      clear hpv hpb
      go_upto_region 14 with (first
        | (go_at_call 78; refine (nlw_contains HNT.out.weak phonyS).mono ?_; rw [HPH.out]; rintro e w' ⟨rfl, hw⟩; rw [hw]; clear hw)
        | (go_at_call 79; refine HP.out.mono ?_; rintro e w2 ⟨rfl, hb⟩; have HB2 := Lib.hid hb; clear hb))
      obtain ⟨V, hV⟩ : ∃ V, V = w2.alloc (.cells #[.string ⟨#[]⟩, .string ⟨#[]⟩] 100) := ⟨_, rfl⟩
      have HBV : Hid (Below W.heap.size W V) := by show Below _ _ _; rw [hV]; exact HB2.out.alloc HB2.out.size _
      rw [← hV]
      clear hV
      obtain ⟨c1, c2, c3⟩ := rb_cells (show V.heap[w.heap.size]? = _ from by rw [HBV.out.block _ (by have := HWS.out; omega)]; exact HZ.out)
      have HFV : Hid (FSt base B F s rl [⟨g1, g2, T, N⟩] V) := HF.out.below HBV.out
      obtain ⟨⟨e0, e1, e2, e3⟩, e4⟩ := boxF HFV.out.box
      have hVs : w.heap.size < V.heap.size := by have h1 := HBV.out.size; have h2 := HWS.out; omega
      have hVB : base ≤ V.heap.size := by omega
      have hBlt : B < V.heap.size := by have := HBB.out; omega
      obtain ⟨XO, hXO⟩ : ∃ XO, XO = Obj.cells #[.slice (some ⟨g1, 0, none⟩) T.length T.length, .slice (some ⟨g2, 0, none⟩) N.length N.length] 61 := ⟨_, rfl⟩
      have HFA : Hid (FSt base B F s rl [⟨g1, g2, T, N⟩] (V.alloc XO).drew) := (HFV.out.below (rb1w V XO)).drew
      have XC0 : Hid ((V.alloc XO).drew.cell? ⟨V.heap.size, 0, none⟩ = some (rvF ⟨g1, g2, T, N⟩)) := by show (V.alloc XO).cell? _ = _; rw [hXO, World.cell?_alloc_at _ _ _ _ rfl]; rfl
      have XC1 : Hid ((V.alloc XO).drew.cell? ⟨V.heap.size, 1, none⟩ = some (rvG ⟨g1, g2, T, N⟩)) := by show (V.alloc XO).cell? _ = _; rw [hXO, World.cell?_alloc_at _ _ _ _ rfl]; rfl
      have HBA : Hid (base ≤ (V.alloc XO).drew.heap.size) := by show base ≤ (V.alloc XO).heap.size; simp; omega
      have HBX : Hid (Below B W (V.alloc XO).drew) := ((HBV.out.mono (by have := HBB.out; have := HWS.out; omega)).alloc (by have := HBB.out; omega) XO).drew
      rw [hXO] at HFA XC0 XC1 HBA HBX
      clear hXO
      go_upto_region 18 with fail
      go_region_law (refine step_ruleF rfl _ _ rfl base _ F.rs.length rl rfl HFA.out.rs V.heap.size ⟨g1, g2, T, N⟩ rfl XC0.out XC1.out (by omega) HBA.out ?_; intro v' w5 hown5 hgrow5; obtain ⟨p5, c5, rfl⟩ := slice_form hown5; have h5 := HFA.out.rule hgrow5 hown5; have H5 := Lib.hid h5.2; have HG5 := Lib.hid hgrow5; obtain ⟨⟨b0, b1, b2, b3⟩, b4⟩ := boxF h5.1; have hblt := (Array.getElem?_eq_some_iff.1 h5.1).1; clear h5 hown5 hgrow5)
      all_goals
        have hsz5 : w.heap.size ≤ w5.heap.size := by have h1 := HG5.out.size; have h2 := HBX.out.size; have h3 := HWS.out; omega
        have HB5 := Lib.hid ((HBW.out.mono (show B ≤ w.heap.size by have := HBB.out; omega)).trans (below_app (i := 3) (x := .slice p5 (F.rs.length + 1) c5) HBX.out HG5.out (by have := HBA.out; have h3 := HBB.out; omega) (fun k hk => by have := (HFA.out.rs.lt k hk).1; have h3 := HBB.out; omega) (Nat.le_refl _)))
        by_cases hl : 100 < F.rs.length + 1
        · have hd2 : decide ((100 : Int) < (F.rs.length : Int) + 1) = true := decide_eq_true (by omega)
          have HL := Lib.hid hl
          clear hl
          go_wp2
          go_ret
          refine ⟨by rw [HE.out]; simp only [if_pos HL.out]; rfl, ⟨{ s with pr := p5, cr := c5 }, rl ++ [⟨g1, g2, T, N⟩], ?_⟩, HB5.out, ?_⟩
          · rw [HE.out]; exact H5.out
          · show w.heap.size ≤ _; simp; omega
        · have hd2 : decide ((100 : Int) < (F.rs.length : Int) + 1) = false := decide_eq_false (by omega)
          have HL := Lib.hid hl
          clear hl
          go_wp2
          go_ret
          refine ⟨by rw [HE.out]; simp only [if_neg HL.out]; rfl, ⟨{ s with pr := p5, cr := c5 }, rl ++ [⟨g1, g2, T, N⟩], ?_⟩, HB5.out, ?_⟩
          · rw [HE.out]; exact H5.out
          · show w.heap.size ≤ _; simp; omega
    | true =>
      have hpv : pairV x0 = .agg #[.string (pairI x0).1, .string (pairI x0).2] := by unfold pairV; rw [hpb]; rfl
      rw [hpb, hpv] at HP
      have HPB := Lib.hid hpb
      clear hpv hpb
      obtain ⟨pi, hpi⟩ : ∃ pi, pi = pairI x0 := ⟨_, rfl⟩
      rw [← hpi] at HP HPS
      have HPI := Lib.hid hpi
      clear hpi
      obtain ⟨q1, q2⟩ := pi
      simp only at HP HPS
      go_upto_region 14 with (first
        | (go_at_call 78; refine (nlw_contains HNT.out.weak phonyS).mono ?_; rw [HPH.out]; rintro e w' ⟨rfl, hw⟩; rw [hw]; clear hw)
        | (go_at_call 79; refine HP.out.mono ?_; rintro e w2 ⟨rfl, hb⟩; have HB2 := Lib.hid hb; clear hb))
      obtain ⟨V, hV⟩ : ∃ V, V = w2.alloc (.cells #[.string q1, .string q2] 100) := ⟨_, rfl⟩
      have HBV : Hid (Below W.heap.size W V) := by show Below _ _ _; rw [hV]; exact HB2.out.alloc HB2.out.size _
      have hx1 : V.heap[w2.heap.size]? = some (.cells #[.string q1, .string q2] 100 (0, 0)) := by rw [hV]; exact rb_new _ _
      have HX1 := Lib.hid hx1
      clear hx1
      rw [← hV]
      clear hV
      obtain ⟨c1, c2, c3⟩ := rb_cells (show V.heap[w.heap.size]? = _ from by rw [HBV.out.block _ (by have := HWS.out; omega)]; exact HZ.out)
      by_cases h1 : T.length = 1
      · have hd1 : ((T.length : Int) == 1) = true := by rw [beq_iff_eq]; omega
        by_cases h2 : N.length = 0
        · have hd3 : ((N.length : Int) == 0) = true := by rw [beq_iff_eq]; omega
          have HE := Lib.hid (addF_i (F := F) HPH.out (by rw [← HX0.out]; exact HPB.out) h1 h2)
          rw [← HX0.out, ← HPI.out] at HE
          clear h1 h2
          have HFV : Hid (FSt base B F s rl [⟨g1, g2, T, N⟩] V) := HF.out.below HBV.out
          obtain ⟨⟨e0, e1, e2, e3⟩, e4⟩ := boxF HFV.out.box
          obtain ⟨x1, x2, x3⟩ := rb_cells HX1.out
          have hVs : w.heap.size < V.heap.size := by have h1 := HBV.out.size; have h2 := HWS.out; omega
          have hVB : base ≤ V.heap.size := by omega
          have hBlt : B < V.heap.size := by have := HBB.out; omega
          have hXlt : w2.heap.size < V.heap.size := (Array.getElem?_eq_some_iff.1 HX1.out).1
          have HII : Hid (∀ u : World, Below V.heap.size V u → InfsIn u s.pi F.inf.length s.ci F.inf) := by
            show ∀ u : World, _
            exact fun u hu => HFV.out.infs (by omega) hu
          have HCI : Hid (∀ u : World, Below V.heap.size V u → Calls Tryz.prog 80 #[.slice s.pi F.inf.length s.ci, .agg #[.string q1, .string q2]] u fun e w' => e = .returned (.bool (hasI F.inf (q1, q2))) ∧ Below u.heap.size u w') := by
            show ∀ u : World, _
            exact fun u hu => containsI_ok s.pi F.inf.length s.ci F.inf (q1, q2) u (HII.out u hu)
          go_upto_region 15 with fail
          cases hhs : hasI F.inf (q1, q2) with
          | true =>
            rw [hhs] at HCI HE
            clear hhs
            go_region_with (go_at_call 80; refine (HCI.out _ ((Below.refl _ _).drew)).mono ?_; rintro e w5 ⟨rfl, hb⟩; have HB5 := Lib.hid hb; clear hb)
            all_goals
              go_wp2
              go_ret
              refine ⟨by rw [HE.out]; rfl, ⟨s, rl, ?_⟩, (HBW.out.mono (by have := HBB.out; omega)).trans ((HBV.out.trans (((Below.refl _ _).drew.trans HB5.out).mono HBV.out.size)).mono (by have := HBB.out; have := HWS.out; omega)), by have h1 : V.heap.size ≤ w5.heap.size := HB5.out.size; omega⟩
              rw [HE.out]
              simp only [if_true]
              exact (HFV.out.below ((Below.refl _ _).drew.trans HB5.out)).less
          | false =>
            rw [hhs] at HCI HE
            clear hhs
            go_region_with (go_at_call 80; refine (HCI.out _ ((Below.refl _ _).drew)).mono ?_; rintro e w5 ⟨rfl, hb⟩; have HB5 := Lib.hid hb; clear hb)
            all_goals
              have hbV : Below V.heap.size V w5 := (Below.refl _ _).drew.trans HB5.out
              have HBV5 := Lib.hid hbV
              have HF5 := Lib.hid (HFV.out.below hbV)
              clear e0 e1 e2 e3 e4 x1 x2 x3
              obtain ⟨⟨e0, e1, e2, e3⟩, e4⟩ := boxF HF5.out.box
              obtain ⟨x1, x2, x3⟩ := rb_cells (show w5.heap[w2.heap.size]? = _ from by rw [hbV.block _ hXlt]; exact HX1.out)
              have hV5 : V.heap.size ≤ w5.heap.size := hbV.size
              clear hbV
              obtain ⟨XO, hXO⟩ : ∃ XO, XO = Obj.cells #[.string q1, .string q2] 100 := ⟨_, rfl⟩
              have HFA : Hid (FSt base B F s rl [⟨g1, g2, T, N⟩] (w5.alloc XO).drew) := (HF5.out.below (rb1w w5 XO)).drew
              have XC0 : Hid ((w5.alloc XO).drew.cell? ⟨w5.heap.size, 0, none⟩ = some (iF (q1, q2))) := by show (w5.alloc XO).cell? _ = _; rw [hXO, World.cell?_alloc_at _ _ _ _ rfl]; rfl
              have XC1 : Hid ((w5.alloc XO).drew.cell? ⟨w5.heap.size, 1, none⟩ = some (iG (q1, q2))) := by show (w5.alloc XO).cell? _ = _; rw [hXO, World.cell?_alloc_at _ _ _ _ rfl]; rfl
              have HBA : Hid (base ≤ (w5.alloc XO).drew.heap.size) := by show base ≤ (w5.alloc XO).heap.size; simp; omega
              have HBX : Hid (Below B W (w5.alloc XO).drew) := (((HBV.out.trans (HBV5.out.mono HBV.out.size)).mono (by have := HBB.out; have := HWS.out; omega)).alloc (by have := HBB.out; omega) XO).drew
              rw [hXO] at HFA XC0 XC1 HBA HBX
              clear hXO
              have hBlt5 : B < w5.heap.size := by omega
              have hXlt5 : w2.heap.size < w5.heap.size := by omega
              have hwv5 : w.heap.size ≤ w5.heap.size := by omega
              clear hBlt hXlt hVs hVB
              go_upto_region 16 with fail
              go_region_law (refine step_infF rfl _ _ rfl base _ F.inf.length F.inf rfl HFA.out.inf w5.heap.size (q1, q2) rfl XC0.out XC1.out (by omega) HBA.out ?_; intro v' w6 hown5 hgrow5; obtain ⟨p5, c5, rfl⟩ := slice_form hown5; have h5 := HFA.out.infer HPS.out hgrow5 hown5; have H5 := Lib.hid h5.2; have HG5 := Lib.hid hgrow5; obtain ⟨⟨b0, b1, b2, b3⟩, b4⟩ := boxF h5.1; have hblt := (Array.getElem?_eq_some_iff.1 h5.1).1; clear h5 hown5 hgrow5)
              all_goals
                have hsz6 : w5.heap.size ≤ w6.heap.size := by
                  have h1 := HG5.out.size
                  have h2 : w5.heap.size ≤ (w5.alloc (.cells #[.string q1, .string q2] 100)).heap.size := by simp
                  exact Nat.le_trans h2 h1
                have HB6 := Lib.hid ((HBW.out.mono (show B ≤ w.heap.size by have := HBB.out; omega)).trans (below_app (i := 2) (x := .slice p5 (F.inf.length + 1) c5) HBX.out HG5.out (by have := HBA.out; have h3 := HBB.out; omega) (fun k hk => by have := (HFA.out.inf.lt k hk).1; have h3 := HBB.out; omega) (Nat.le_refl _)))
                go_wp2
                go_ret
                refine ⟨by rw [HE.out]; rfl, ⟨{ s with pi := p5, ci := c5 }, rl, ?_⟩, HB6.out, by show w.heap.size ≤ _; simp; omega⟩
                rw [HE.out]
                simp only [Bool.false_eq_true, if_false]
                exact H5.out.less
        · have hd3 : ((N.length : Int) == 0) = false := by rw [beq_eq_false_iff_ne]; omega
          have HE := Lib.hid (addF_r (F := F) (N := N) HPH.out (fun h => h2 h.2.2))
          clear h1 h2
          have HFV : Hid (FSt base B F s rl [⟨g1, g2, T, N⟩] V) := HF.out.below HBV.out
          obtain ⟨⟨e0, e1, e2, e3⟩, e4⟩ := boxF HFV.out.box
          have hVs : w.heap.size < V.heap.size := by have h1 := HBV.out.size; have h2 := HWS.out; omega
          have hVB : base ≤ V.heap.size := by omega
          have hBlt : B < V.heap.size := by have := HBB.out; omega
          obtain ⟨XO, hXO⟩ : ∃ XO, XO = Obj.cells #[.slice (some ⟨g1, 0, none⟩) T.length T.length, .slice (some ⟨g2, 0, none⟩) N.length N.length] 61 := ⟨_, rfl⟩
          have HFA : Hid (FSt base B F s rl [⟨g1, g2, T, N⟩] (V.alloc XO).drew) := (HFV.out.below (rb1w V XO)).drew
          have XC0 : Hid ((V.alloc XO).drew.cell? ⟨V.heap.size, 0, none⟩ = some (rvF ⟨g1, g2, T, N⟩)) := by show (V.alloc XO).cell? _ = _; rw [hXO, World.cell?_alloc_at _ _ _ _ rfl]; rfl
          have XC1 : Hid ((V.alloc XO).drew.cell? ⟨V.heap.size, 1, none⟩ = some (rvG ⟨g1, g2, T, N⟩)) := by show (V.alloc XO).cell? _ = _; rw [hXO, World.cell?_alloc_at _ _ _ _ rfl]; rfl
          have HBA : Hid (base ≤ (V.alloc XO).drew.heap.size) := by show base ≤ (V.alloc XO).heap.size; simp; omega
          have HBX : Hid (Below B W (V.alloc XO).drew) := ((HBV.out.mono (by have := HBB.out; have := HWS.out; omega)).alloc (by have := HBB.out; omega) XO).drew
          rw [hXO] at HFA XC0 XC1 HBA HBX
          clear hXO
          go_upto_region 18 with fail
          go_region_law (refine step_ruleF rfl _ _ rfl base _ F.rs.length rl rfl HFA.out.rs V.heap.size ⟨g1, g2, T, N⟩ rfl XC0.out XC1.out (by omega) HBA.out ?_; intro v' w5 hown5 hgrow5; obtain ⟨p5, c5, rfl⟩ := slice_form hown5; have h5 := HFA.out.rule hgrow5 hown5; have H5 := Lib.hid h5.2; have HG5 := Lib.hid hgrow5; obtain ⟨⟨b0, b1, b2, b3⟩, b4⟩ := boxF h5.1; have hblt := (Array.getElem?_eq_some_iff.1 h5.1).1; clear h5 hown5 hgrow5)
          all_goals
            have hsz5 : w.heap.size ≤ w5.heap.size := by have h1 := HG5.out.size; have h2 := HBX.out.size; have h3 := HWS.out; omega
            have HB5 := Lib.hid ((HBW.out.mono (show B ≤ w.heap.size by have := HBB.out; omega)).trans (below_app (i := 3) (x := .slice p5 (F.rs.length + 1) c5) HBX.out HG5.out (by have := HBA.out; have h3 := HBB.out; omega) (fun k hk => by have := (HFA.out.rs.lt k hk).1; have h3 := HBB.out; omega) (Nat.le_refl _)))
            by_cases hl : 100 < F.rs.length + 1
            · have hd2 : decide ((100 : Int) < (F.rs.length : Int) + 1) = true := decide_eq_true (by omega)
              have HL := Lib.hid hl
              clear hl
              go_wp2
              go_ret
              refine ⟨by rw [HE.out]; simp only [if_pos HL.out]; rfl, ⟨{ s with pr := p5, cr := c5 }, rl ++ [⟨g1, g2, T, N⟩], ?_⟩, HB5.out, ?_⟩
              · rw [HE.out]; exact H5.out
              · show w.heap.size ≤ _; simp; omega
            · have hd2 : decide ((100 : Int) < (F.rs.length : Int) + 1) = false := decide_eq_false (by omega)
              have HL := Lib.hid hl
              clear hl
              go_wp2
              go_ret
              refine ⟨by rw [HE.out]; simp only [if_neg HL.out]; rfl, ⟨{ s with pr := p5, cr := c5 }, rl ++ [⟨g1, g2, T, N⟩], ?_⟩, HB5.out, ?_⟩
              · rw [HE.out]; exact H5.out
              · show w.heap.size ≤ _; simp; omega
      · have hd1 : ((T.length : Int) == 1) = false := by rw [beq_eq_false_iff_ne]; omega
        have HE := Lib.hid (addF_r (F := F) (N := N) HPH.out (fun h => h1 h.2.1))
        clear h1
        have HFV : Hid (FSt base B F s rl [⟨g1, g2, T, N⟩] V) := HF.out.below HBV.out
        obtain ⟨⟨e0, e1, e2, e3⟩, e4⟩ := boxF HFV.out.box
        have hVs : w.heap.size < V.heap.size := by have h1 := HBV.out.size; have h2 := HWS.out; omega
        have hVB : base ≤ V.heap.size := by omega
        have hBlt : B < V.heap.size := by have := HBB.out; omega
        obtain ⟨XO, hXO⟩ : ∃ XO, XO = Obj.cells #[.slice (some ⟨g1, 0, none⟩) T.length T.length, .slice (some ⟨g2, 0, none⟩) N.length N.length] 61 := ⟨_, rfl⟩
        have HFA : Hid (FSt base B F s rl [⟨g1, g2, T, N⟩] (V.alloc XO).drew) := (HFV.out.below (rb1w V XO)).drew
        have XC0 : Hid ((V.alloc XO).drew.cell? ⟨V.heap.size, 0, none⟩ = some (rvF ⟨g1, g2, T, N⟩)) := by show (V.alloc XO).cell? _ = _; rw [hXO, World.cell?_alloc_at _ _ _ _ rfl]; rfl
        have XC1 : Hid ((V.alloc XO).drew.cell? ⟨V.heap.size, 1, none⟩ = some (rvG ⟨g1, g2, T, N⟩)) := by show (V.alloc XO).cell? _ = _; rw [hXO, World.cell?_alloc_at _ _ _ _ rfl]; rfl
        have HBA : Hid (base ≤ (V.alloc XO).drew.heap.size) := by show base ≤ (V.alloc XO).heap.size; simp; omega
        have HBX : Hid (Below B W (V.alloc XO).drew) := ((HBV.out.mono (by have := HBB.out; have := HWS.out; omega)).alloc (by have := HBB.out; omega) XO).drew
        rw [hXO] at HFA XC0 XC1 HBA HBX
        clear hXO
        go_upto_region 18 with fail
        go_region_law (refine step_ruleF rfl _ _ rfl base _ F.rs.length rl rfl HFA.out.rs V.heap.size ⟨g1, g2, T, N⟩ rfl XC0.out XC1.out (by omega) HBA.out ?_; intro v' w5 hown5 hgrow5; obtain ⟨p5, c5, rfl⟩ := slice_form hown5; have h5 := HFA.out.rule hgrow5 hown5; have H5 := Lib.hid h5.2; have HG5 := Lib.hid hgrow5; obtain ⟨⟨b0, b1, b2, b3⟩, b4⟩ := boxF h5.1; have hblt := (Array.getElem?_eq_some_iff.1 h5.1).1; clear h5 hown5 hgrow5)
        all_goals
          have hsz5 : w.heap.size ≤ w5.heap.size := by have h1 := HG5.out.size; have h2 := HBX.out.size; have h3 := HWS.out; omega
          have HB5 := Lib.hid ((HBW.out.mono (show B ≤ w.heap.size by have := HBB.out; omega)).trans (below_app (i := 3) (x := .slice p5 (F.rs.length + 1) c5) HBX.out HG5.out (by have := HBA.out; have h3 := HBB.out; omega) (fun k hk => by have := (HFA.out.rs.lt k hk).1; have h3 := HBB.out; omega) (Nat.le_refl _)))
          by_cases hl : 100 < F.rs.length + 1
          · have hd2 : decide ((100 : Int) < (F.rs.length : Int) + 1) = true := decide_eq_true (by omega)
            have HL := Lib.hid hl
            clear hl
            go_wp2
            go_ret
            refine ⟨by rw [HE.out]; simp only [if_pos HL.out]; rfl, ⟨{ s with pr := p5, cr := c5 }, rl ++ [⟨g1, g2, T, N⟩], ?_⟩, HB5.out, ?_⟩
            · rw [HE.out]; exact H5.out
            · show w.heap.size ≤ _; simp; omega
          · have hd2 : decide ((100 : Int) < (F.rs.length : Int) + 1) = false := decide_eq_false (by omega)
            have HL := Lib.hid hl
            clear hl
            go_wp2
            go_ret
            refine ⟨by rw [HE.out]; simp only [if_neg HL.out]; rfl, ⟨{ s with pr := p5, cr := c5 }, rl ++ [⟨g1, g2, T, N⟩], ?_⟩, HB5.out, ?_⟩
            · rw [HE.out]; exact H5.out
            · show w.heap.size ≤ _; simp; omega
end Go.Proofs.YtoiolepengcagaaGreatDoor
namespace Go.Proofs.YtoiolepengcagaaGreatDoor
open Go.RowKit Go.Shelf Go.Maps
/-- what Flat answers -/
def FlatPost (w : World) (l : List Mac) (e : Ending) (w' : World) : Prop :=
  (∃ v, e = .returned (.tuple #[v, .int .i64 (flatsE okM l)]) ∧ ((flatsE okM l ≠ 0 ∧ v = .slice none 0 0) ∨ (flatsE okM l = 0 ∧ w'.ownsRow w.heap.size 86 2 v l.length (cells2 mF mG (flatL okM l))))) ∧ Below w.heap.size w w'
set_option maxHeartbeats 8000000 in
set_option maxRecDepth 100000 in
theorem Flat_ok (p : Option Addr) (n c : Nat) (l : List Mac) (w : World) (hR : MacsIn w p n c l) (hM : MLm w) : Calls Tryz.prog 40 #[.slice p n c] w (FlatPost w l) := by
  have hln := hR.at_.len
  subst hln
  have HFl := Lib.hid (flats_ok p l.length c l w hR hM)
  have HN := Lib.hid (fun u (hu : Below w.heap.size w u) => hR.at_.below hu)
  clear hR hM
  by_cases hE : flatsE okM l = 0
  rotate_left
  · have HE : Hid (flatsE okM l ≠ 0) := hE
    have HF2 : Hid (Calls Tryz.prog 74 #[.slice p l.length c] w fun e w' => (∃ v, e = .returned (.tuple #[v, .int .i64 (flatsE okM l)])) ∧ Below w.heap.size w w') := by
      show Calls _ _ _ _ _
      refine HFl.out.mono ?_
      rintro e w' ⟨⟨v, rfl, _⟩, hb⟩
      exact ⟨⟨v, rfl⟩, hb⟩
    have HP : Hid (∀ fe w', fe = flatsE okM l → Below w.heap.size w w' → FlatPost w l (.returned (.tuple #[.slice none 0 0, .int .i64 fe])) w') := fun fe w' h hb => ⟨⟨.slice none 0 0, by rw [h], .inl ⟨HE.out, rfl⟩⟩, hb⟩
    obtain ⟨e1, e2⟩ := int_ne' hE
    have HQ : Hid (∀ w', Below w.heap.size w w' → FlatPost w l (.returned (.tuple #[.slice none 0 0, .int .i64 (flatsE okM l)])) w') := fun w' hb => HP.out _ w' rfl hb
    clear HFl hE HP HE
    generalize flatsE okM l = fe at *
    go_enter Tryz.func40, Tryz.ntmps40
    go_wp2_with (go_at_call 74; refine HF2.out.mono ?_; rintro e w1 ⟨⟨v, rfl⟩, hb⟩; have HB := Lib.hid hb; clear hb)
    go_ret2
    exact HQ.out _ HB.out
  have HF2 : Hid (Calls Tryz.prog 74 #[.slice p l.length c] w fun e w' => (∃ B eb uv st, e = .returned (.tuple #[.map (some B), .int .i64 0]) ∧ TabW w' B w.heap.size l eb uv st ∧ ∀ n ∈ namesM l, st n = 2) ∧ Below w.heap.size w w') := by
    show Calls _ _ _ _ _
    refine HFl.out.mono ?_
    rintro e w' ⟨⟨v, rfl, hv⟩, hb⟩
    rw [hE] at hv ⊢
    obtain ⟨_, B, eb, uv, st, rfl, h1, h2⟩ := hv.resolve_left (fun h => h.1 rfl)
    exact ⟨⟨B, eb, uv, st, rfl, h1, h2⟩, hb⟩
  have HTO := Lib.hid (flatsE_zero.1 hE).1
  have hfew := (flatsE_zero.1 hE).1.few
  have HFin : Hid (∀ (v : Value) (w' : World), w'.ownsRow w.heap.size 86 2 v l.length (cells2 mF mG (flatL okM l)) → Below w.heap.size w w' → FlatPost w l (.returned (.tuple #[v, .int .i64 0])) w') := fun v w' h hb => ⟨⟨v, by rw [hE], .inr ⟨hE, h⟩⟩, hb⟩
  have HFL : Hid (flatL okM l = l.map fun m => (m.1, (flatF okM l m.1).getD [])) := rfl
  clear HFl hE
  go_enter Tryz.func40, Tryz.ntmps40
  go_wp2_with (go_at_call 74; refine HF2.out.mono ?_; rintro e w1 ⟨⟨B, eb, uv, st, rfl, h1, h2⟩, hb⟩; have HT := Lib.hid h1; have HS := Lib.hid h2; have HB := Lib.hid hb; clear hb h1 h2)
  go_loopw [19, 6] (fun i o wr => ∃ (j : Nat) (g : Option Addr) (cg : Nat), j ≤ l.length ∧ i = .int .i64 j ∧ o = .slice g j cg ∧ Hid (Below w1.heap.size w1 wr) ∧ Hid (wr.ownsRow w1.heap.size 86 2 (.slice g j cg) j (cells2 mF mG ((flatL okM l).take j)))) (fun i _ _ => l.length - (intOf i).toNat)
  case atStart => exact ⟨0, none, 0, Nat.zero_le _, rfl, rfl, Below.refl _ _, World.ownsRow_nil _ _ _ _⟩
  case round =>
    obtain ⟨j, g, cg, hj, rfl, rfl, HBr, HO⟩ := hrel
    by_cases hlt : j < l.length
    · have hel := List.getElem?_eq_getElem hlt
      obtain ⟨b, o, rfl, hb, c1, c2⟩ := (HN.out _ (HB.out.trans (HBr.out.mono HB.out.size))).cell hel
      have hmem := List.getElem_mem hlt
      have HTK : Hid ((flatL okM l).take (j + 1) = (flatL okM l).take j ++ [(l[j].1, (flatF okM l l[j].1).getD [])]) := by
        show _ = _
        rw [List.take_add_one, HFL.out, List.getElem?_map, hel]; rfl
      rw [← Nat.add_assoc] at c2
      clear hel
      generalize l[j] = m at *
      obtain ⟨m1, m2⟩ := m
      have hmn : m1 ∈ namesM l := List.mem_map.2 ⟨(m1, m2), hmem, rfl⟩
      simp only [mF, mG] at c1 c2 HTK
      have hji : (j : Int) < (l.length : Int) := by omega
      have hxm : (txt m1).size ≤ maxLen := by have := okM_few (HTO.out.right _ hmem).1; rw [txt_size]; unfold maxLen; simp only at this; omega
      obtain ⟨W0, hW0⟩ : ∃ W0, W0 = wr.alloc (.cells #[.string (txt m1), .string (txt m2)] 86) := ⟨_, rfl⟩
      have hb0 : Below wr.heap.size wr W0 := by rw [hW0]; exact mb1 wr _
      have k1 : W0.cell? ⟨wr.heap.size, 0, none⟩ = some (.string (txt m1)) := by rw [hW0, World.cell?_alloc_at _ _ _ _ rfl]; rfl
      have HB0 : Hid (Below w1.heap.size w1 W0) := HBr.out.trans (hb0.mono HBr.out.size)
      have HO0 : Hid (W0.ownsRow w1.heap.size 86 2 (.slice g j cg) j (cells2 mF mG ((flatL okM l).take j))) := own_none HO.out (mgrown_below hb0)
      have hT0 := HT.out.below HB0.out
      obtain ⟨⟨Nn, hmp⟩, hht⟩ := hT0.look hmn
      have hlk : Sem.run Tryz.prog (Instr.lookup 137 (.map (some B)) (.string (txt m1)) false) W0.drew = .ok (.pointer (some ⟨eb m1, 0, none⟩)) W0.drew := by
        rw [← hht]
        exact look_run (hmp.kept (row := none) (w' := W0.drew) ⟨rfl, rfl, rfl, Nat.le_refl _, fun _ _ _ => rfl⟩ (by simp)) (txt m1) hxm
      have hent := hT0.ent _ hmem
      rw [HS.out m1 hmn] at hent
      have hent2 : W0.heap[eb m1]? = some (.cells #[.string (txt m2), uv m1, .int .i64 2, .string (txt ((flatF okM l m1).getD [])), .bool (flatF okM l m1).isNone] 141 (0, 0)) := hent
      obtain ⟨_, _, _, q3, _, _⟩ := mx5 hent2
      generalize (flatF okM l m1).getD [] = fv at *
      obtain ⟨XO, hXO⟩ : ∃ XO, XO = Obj.cells #[.string (txt m1), .string (txt fv)] 86 := ⟨_, rfl⟩
      have HOA : Hid ((W0.alloc XO).drew.ownsRow w1.heap.size 86 2 (.slice g j cg) j (cells2 mF mG ((flatL okM l).take j))) := own_drew (own_none HO0.out (World.grownBy_alloc _ _ _))
      have XC0 : Hid ((W0.alloc XO).drew.cell? ⟨W0.heap.size, 0, none⟩ = some (mF (m1, fv))) := by show (W0.alloc XO).cell? _ = _; rw [hXO, World.cell?_alloc_at _ _ _ _ rfl]; rfl
      have XC1 : Hid ((W0.alloc XO).drew.cell? ⟨W0.heap.size, 1, none⟩ = some (mG (m1, fv))) := by show (W0.alloc XO).cell? _ = _; rw [hXO, World.cell?_alloc_at _ _ _ _ rfl]; rfl
      have HBA : Hid (Below w1.heap.size w1 (W0.alloc XO).drew) := (HB0.out.alloc HB0.out.size _).drew
      have hjb : j ≤ 4398046511103 := by omega
      rw [hXO] at HOA XC0 XC1 HBA
      clear hmp hT0 hent hent2 hb0 hmem hmn hXO
      go_upto_region 8 with fail
      rw [← hW0]
      clear hW0
      go_region_law (refine step_mac rfl _ _ rfl w1.heap.size _ j _ rfl HOA.out W0.heap.size (m1, fv) rfl XC0.out XC1.out hjb HBA.out.size ?_; intro v' w5 h1 h2; have HG5 := Lib.hid (HBA.out.grown h2 HBA.out.size (fun k hk => (HOA.out.lt k hk).1)); obtain ⟨g5, c5, rfl⟩ := mown_form h1; have HO5 := Lib.hid h1; clear h1 h2)
      all_goals
        go_wp2
        go_roundw
        case rel =>
          refine ⟨j + 1, g5, c5, by omega, by go_num, rfl, HG5, ?_⟩
          show World.ownsRow _ _ _ _ _ _ _
          rw [HTK.out]
          exact HO5.out
        case measure => simp [intOf]; omega
    · obtain rfl : j = l.length := by omega
      have htk : (flatL okM l).take l.length = flatL okM l := List.take_of_length_le (by rw [HFL.out, List.length_map]; exact Nat.le_refl _)
      rw [htk] at HO
      clear htk
      go_wp2
      go_ret2
      exact HFin.out _ _ (own_low HO.out HB.out.size) (HB.out.trans (HBr.out.mono HB.out.size))
end Go.Proofs.YtoiolepengcagaaGreatDoor
