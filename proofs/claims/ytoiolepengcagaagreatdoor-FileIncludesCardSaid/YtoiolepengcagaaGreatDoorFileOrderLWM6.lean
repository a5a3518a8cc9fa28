/- Texts joined: MacroFactW, MacroArg, CloneMLay, MacroCW, Typed, FileStW. Conditions: theirs. -/
import Derived.Test.YtoiolepengcagaaGreatDoorFileOrderLWM4
import Derived.Test.YtoiolepengcagaaGreatDoorFileOrderLWM5
import Derived.Shelf.SlicesE.Clone
import Derived.Test.YtoiolepengcagaaGreatDoorProg
import Derived.Deep.RegionLaw
import Derived.Laws.OwnMore
import Derived.Maps.AppendAt
namespace Go.Proofs.YtoiolepengcagaaGreatDoor
open Go.RowKit Go.Shelf Go.Maps
theorem mill_macro : expandE okM [(([97] : Bs), ([98] : Bs))] [36, 40, 97, 41] = (0, [98]) := by
  have hok : okM [97] = true := by decide
  have h1 : prs okM [98] = ([.t [98]], true) := prs_last (by decide)
  have h2 : prs okM [36, 40, 97, 41] = ([.t [], .c [97], .t []], true) := by
    have := prs_call (ok := okM) (a := []) (n := [97]) (by decide) (by decide) []
    rw [if_pos hok, prs_last (s := []) (by decide)] at this
    exact this
  have ht : tabT okM [(([97] : Bs), ([98] : Bs))] [97] = some [.t [98]] := by
    unfold tabT
    simp [h1]
  have hf : Flt (tabT okM [(([97] : Bs), ([98] : Bs))]) [97] (cmb (fun _ => none) [.t [98]]) := .mk ht _ (fun m hm => by simp [callsOf] at hm)
  have hc : cmb (fun _ => none) [.t [98]] = some [98] := by decide
  rw [hc] at hf
  have hF := flatF_is hf
  have hT : TabOk okM [(([97] : Bs), ([98] : Bs))] := by
    refine ⟨by simp, fun m hm => ?_, by simp [namesM], fun m hm u hu => ?_, fun m hm => ?_⟩
    · rw [List.mem_singleton.1 hm]; exact ⟨hok, by rw [h1]⟩
    · rw [List.mem_singleton.1 hm] at hu
      simp [h1, callsOf] at hu
    · rw [List.mem_singleton.1 hm]; exact ⟨_, hf⟩
  have hL : ¬ Larges okM [(([97] : Bs), ([98] : Bs))] := by
    rintro ⟨m, hm, e⟩
    rw [List.mem_singleton.1 hm, hF] at e
    cases e
  rw [expandE_at ⟨hT, hL⟩]
  have hz : (expandR okM (namesM [(([97] : Bs), ([98] : Bs))]) (flatF okM [(([97] : Bs), ([98] : Bs))]) [36, 40, 97, 41]).1 = 0 := by
    rw [expandR_zero, h2]
    refine ⟨rfl, fun u hu => ?_, ?_⟩
    · have : u = [97] := by simpa [callsOf] using hu
      rw [this]; simp [namesM]
    · simp [lrg, noneT, evalT, pieceM, hF]
  refine Prod.ext hz ?_
  rw [expandR_text, if_pos hz, h2]
  simp [evalT, pieceM, hF]
end Go.Proofs.YtoiolepengcagaaGreatDoor
namespace Go.Proofs.YtoiolepengcagaaGreatDoor
open Go.RowKit Go.Shelf Go.Maps Go.ChangeShapes Go.WideShapes
def MacsAt (w : World) (v : Value) (_ : Unit) : Prop := ∃ p n c l, v = .slice p n c ∧ MacsIn w p n c l ∧ (p = none → c = 0) ∧ n ≤ 1048576 ∧ ∀ ad, p = some ad → ad.spot = none
def MacAt (_w : World) (v : Value) (_ : Unit) : Prop := ∃ m : Mac, v = .agg #[mF m, mG m] ∧ m.1.length ≤ 1048576 ∧ m.2.length ≤ 1048576
theorem strb {H : Type} {enc : TypeId × Value → H} {W : World} : ∀ n v x, DataW.trod enc Tryz.prog W 0 (fun _ => true) true n 9 [v] = some x → ∃ a : ByteArray, v = Value.string a ∧ a.size ≤ Rows.uptoBulk x.1 := by
  intro n v x h
  obtain ⟨s, e, hx, hs⟩ := DataW.trod_string Tryz.underlying9 h
  injection e with e _
  refine ⟨s, e, ?_⟩
  rw [hx, Lib.size_eq]
  simp only [Rows.uptoBulk]
  omega
theorem mslice_cap {P : Program} {W : World} {b0 : Nat} {r : Reach} {a : Option Addr} {len cap : Nat} {t e : TypeId} (ht : P.underlying t = some (.slice e)) (h : Value.okWide P W r b0 t (.slice a len cap)) : len ≤ cap ∧ (a = none → cap = 0) ∧ ∀ ad, a = some ad → ad.spot = none := by
  simp only [Value.okWide, ht, Cell.okWide] at h
  unfold Cell.ok at h
  rw [ht] at h
  cases a with
  | none =>
    revert h
    cases len <;> cases cap <;> simp
  | some ad => exact ⟨h.1, fun e => (by cases e), fun ad' e => by injection e with e; subst e; exact h.2.2.2.1⟩
set_option maxRecDepth 100000 in
theorem macs_arg_upto {H : Type} {enc : TypeId × Value → H} {W : World} {r : Reach} {b0 : Nat} {v : Value} {d : DataW H} {p : List MemPlace}
    (hok : Value.okWide Tryz.prog W r b0 39 v) (hf : DataW.Trod enc Tryz.prog W 0 (fun _ => true) true 39 v d p)
    (hsz : ∀ n, n ∈ d.weights Tryz.prog 39 → n ≤ reachBytes) (hbk : Rows.uptoBulk d ≤ 1048576) : ∃ g, MacsAt W v g := by
  obtain ⟨a0, n0, c0, rfl⟩ := Go.WideShapes.okWide_slice Tryz.underlying39 hok
  obtain ⟨fuel, hf⟩ := hf
  obtain ⟨l, hE, hB⟩ := p2_bulk (A := ByteArray) (B := ByteArray) (fun a => Value.string a) (fun a => Value.string a) (fun a => a.size) (fun a => a.size) Tryz.underlying39 Tryz.underlying86 (by kernel_rfl) rfl rfl (by kernel_rfl) (by kernel_rfl) strb strb (by decide +kernel) hf hsz
  obtain ⟨_, h2, h3⟩ := mslice_cap Tryz.underlying39 hok
  have hlen : n0 ≤ 1048576 := by
    have h1 := sum_len (fun x : ByteArray × ByteArray => x.1.size + x.2.size + 1) (l := l) (fun x => by omega)
    have h2 := hE.len
    omega
  refine ⟨(), a0, n0, c0, l.map (fun x => (x.1.data.toList, x.2.data.toList)), rfl, ⟨⟨by rw [List.length_map]; exact hE.len, fun h0 => ?_, hE.big⟩, fun m hm => ?_⟩, h2, hlen, h3⟩
  · obtain ⟨b, o, e, hb, hc⟩ := hE.at_ h0
    refine ⟨b, o, e, hb, fun k x hx => ?_⟩
    rw [List.getElem?_map, Option.map_eq_some_iff] at hx
    obtain ⟨y, hy, rfl⟩ := hx
    have := hc k y hy
    unfold mF mG
    simp only [list_txt]
    exact this
  · obtain ⟨y, hy, rfl⟩ := List.mem_map.1 hm
    have := sum_mem (fun x : ByteArray × ByteArray => x.1.size + x.2.size + 1) hy
    simp only at this ⊢
    rw [← Lib.size_eq, ← Lib.size_eq]
    omega
set_option maxRecDepth 100000 in
theorem mac_arg_upto {H : Type} {enc : TypeId × Value → H} {W : World} {r : Reach} {b0 : Nat} {v : Value} {d : DataW H} {p : List MemPlace}
    (hok : Value.okWide Tryz.prog W r b0 86 v) (hf : DataW.Trod enc Tryz.prog W 0 (fun _ => true) true 86 v d p)
    (_hsz : ∀ n, n ∈ d.weights Tryz.prog 86 → n ≤ reachBytes) (hbk : Rows.uptoBulk d ≤ 1048576) : ∃ g, MacAt W v g := by
  have ht := Tryz.underlying86
  have hok2 := hok
  simp only [Value.okWide, ht] at hok2
  obtain ⟨cs, rfl, hcs, ts, hts, _, hcell⟩ := hok2
  have hc4 : cs.size = 2 := by rw [hcs]; kernel_rfl
  obtain ⟨fuel, hf⟩ := hf
  obtain ⟨xs, k, _, hxy, hlen, hxl, hff⟩ := DataW.trod_struct ht hf
  obtain ⟨l, rfl⟩ : ∃ l : List Value, cs = l.toArray := ⟨cs.toList, by simp⟩
  have hl4 : l.length = 2 := by simpa using hc4
  match l, hl4, xs, hxl with
  | [v0, v1], _, [y0, y1], _ =>
    have s0 : Tryz.prog.cellsOf 9 = 1 := by kernel_rfl
    have g0 := hff 0 _ rfl
    have g1 := hff 1 _ rfl
    simp [s0, Value.cells] at g0 g1
    injection hxy with hd _
    obtain ⟨a, rfl, ha⟩ := strb _ _ _ g0
    obtain ⟨b, rfl, hb⟩ := strb _ _ _ g1
    rw [hd] at hbk
    simp only [List.map_cons, List.map_nil, Rows.uptoBulk, Rows.uptoBulkAll] at hbk
    refine ⟨(), (a.data.toList, b.data.toList), ?_, ?_, ?_⟩
    · unfold mF mG; simp only [list_txt]
    · show a.data.toList.length ≤ _
      rw [← Lib.size_eq]; omega
    · show b.data.toList.length ≤ _
      rw [← Lib.size_eq]; omega
end Go.Proofs.YtoiolepengcagaaGreatDoor
namespace Go.Proofs
open Go.Shelf Go.RowKit
end Go.Proofs
namespace Go.Proofs.YtoiolepengcagaaGreatDoor
open Go.RowKit Go.Shelf Go.Maps
theorem own_drew {w : World} {base size n : Nat} {e : TypeId} {v : Value} {xs : List Value} (h : w.ownsRow base e size v n xs) : w.drew.ownsRow base e size v n xs := own_none h ⟨rfl, rfl, rfl, Nat.le_refl _, fun _ _ _ => rfl⟩
theorem grown_drew {w u : World} {row : Option Nat} (h : w.grownBy u row) : w.grownBy u.drew row := ⟨h.os, h.tape, h.output, h.size, h.block⟩
theorem info_mac : (Tryz.prog.info? 86).map (fun i => (i.zero, i.size, i.bytes)) = some (some (.agg #[.string ⟨#[]⟩, .string ⟨#[]⟩]), 2, 32) := by kernel_rfl
theorem mac_cells {l : List Mac} {u : Value} (h : u ∈ cells2 mF mG l) : u.oneCell' = true := by
  unfold cells2 at h
  rw [List.mem_flatMap] at h
  obtain ⟨m, _, hm⟩ := h
  simp at hm
  rcases hm with rfl | rfl <;> rfl
theorem MacsIn.own {w : World} {base n c : Nat} {p : Option Addr} {l : List Mac} (h : w.ownsRow base 86 2 (.slice p n c) n (cells2 mF mG l)) (hbig : n ≤ 8796093022208) (hs : ∀ m ∈ l, m.1.length ≤ 1048600 ∧ m.2.length ≤ 1048600) : MacsIn w p n c l := ⟨P2At.own h hbig, hs⟩
/-- append of one macro, as one step of a region that draws -/
theorem step_mac {ops : Array Oper} {o : Oper} {a : Act} {w : World} {K : Act → World → Prop} {Q : Exit → Act → World → Prop} {E : Prop} (hg : o.guard = none) (s x : Operand)
    (ho : o.op = .call { callee := .builtin .append, args := #[s, x], argTypes := #[39, 39] })
    (base : Nat) (v : Value) (n : Nat) (l : List Mac) (hs : a.eval s = v) (hown : w.ownsRow base 86 2 v n (cells2 mF mG l))
    (g : Nat) (m : Mac) (hx : a.eval x = .slice (some ⟨g, 0, none⟩) 1 1) (c0 : w.cell? ⟨g, 0, none⟩ = some (mF m)) (c1 : w.cell? ⟨g, 1, none⟩ = some (mG m)) (hn : n ≤ 4398046511103) (hbase : base ≤ w.heap.size)
    (h : ∀ v' w', w'.ownsRow base 86 2 v' (n + 1) (cells2 mF mG (l ++ [m])) → w.grownBy w' v.ownBlock → K (a.put o.dst v') w') :
    if Region.wanted o (yielded ops a.tmps) = true then Oper.wp Tryz.prog o a w K Q else E := by
  have hw : Region.wanted o (yielded ops a.tmps) = true := by simp [Region.wanted, hg]
  rw [if_pos hw]
  obtain ⟨i0, hi, hz0, hz1, hz2⟩ := info_parts info_mac
  refine wp_append_own w s x 39 ho base 86 i0 _ 2 32 Tryz.underlying39 hi hz0 hz1 hz2 rfl (by decide) v n _ hs hown ⟨g, 0, none⟩ 1 1 [mF m, mG m] hx rfl ?_ ?_ (by unfold maxLen; omega) (by omega) hbase (fun v' w' h1 h2 _ => h v' w' ?_ h2)
  · intro j q hj
    match j, hj with
    | 0, hj => simp at hj; subst hj; simpa [Addr.add] using c0
    | 1, hj => simp at hj; subst hj; simpa [Addr.add] using c1
  · intro q hq; simp at hq; rcases hq with rfl | rfl <;> rfl
  · rw [cells2_append]; exact h1
end Go.Proofs.YtoiolepengcagaaGreatDoor
namespace Go.Proofs.YtoiolepengcagaaGreatDoor
open Go
/-- all cells of the block at which a slice begins are so -/
def AllC (w : World) (v : Value) (Pr : Value → Prop) : Prop := ∀ b, v.ownBlock = some b → ∃ cur t fr, w.heap[b]? = some (.cells cur t fr) ∧ ∀ u ∈ cur.toList, Pr u
theorem AllC.nil_ (w : World) (Pr : Value → Prop) : AllC w (.slice none 0 0) Pr := fun b h => by simp [Value.ownBlock] at h
theorem AllC.kept {w w' : World} {v : Value} {Pr : Value → Prop} {row : Option Nat} (h : AllC w v Pr) (hg : w.grownBy w' row) (hne : v.ownBlock = none ∨ v.ownBlock ≠ row) : AllC w' v Pr := fun b hb => by
  obtain ⟨cur, t, fr, h1, h2⟩ := h b hb
  refine ⟨cur, t, fr, ?_, h2⟩
  rw [hg.block b (Array.getElem?_eq_some_iff.1 h1).1 ?_]
  · exact h1
  · rcases hne with h3 | h3
    · rw [h3] at hb; cases hb
    · rw [← hb]; exact h3
theorem zero_all {z : Array Value} {n : Nat} {Pr : Value → Prop} (hz : ∀ u ∈ z.toList, Pr u) : ∀ u ∈ (Builtin.zeroCells z n).toList, Pr u := by
  intro u hu
  unfold Builtin.zeroCells at hu
  simp only [Array.toList_map, List.mem_map, Array.toList_range, List.mem_range] at hu
  obtain ⟨i, hi, rfl⟩ := hu
  have h0 : 0 < z.size := by
    rcases Nat.eq_zero_or_pos z.size with h | h
    · rw [h] at hi; simp at hi
    · exact h
  have hm := Nat.mod_lt i h0
  rw [getElem!_pos z _ hm]
  exact hz _ (by simp)
theorem append_all {P : Program} {w : World} {base : Nat} {t ty e : TypeId} {i : TypeInfo} {z : Value} (ht : P.underlying t = some (.slice e)) (hi : P.info? e = some i) (hz : i.zero = some z)
    {v : Value} {n : Nat} {xs : List Value} (hown : w.ownsRow base e i.size v n xs)
    {a : Addr} {m c : Nat} {news : List Value} (hl : news.length = m * i.size) (hnews : ∀ j u, news[j]? = some u → w.cell? (a.add j) = some u) (h1 : ∀ u ∈ news, u.oneCell' = true)
    (h63 : n + m ≤ maxLen) (hbytes : (n + m) * i.bytes ≤ 140737488355328) {Pr : Value → Prop} (pz : ∀ u ∈ z.cells.toList, Pr u) (pn : ∀ u ∈ news, Pr u) (hp : AllC w v Pr)
    {v' : Value} {w' : World} (hr : (Builtin.append_ #[t, t] ty #[v, .slice (some a) m c]).run P w = .ok v' w') : AllC w' v' Pr := by
  have hsmall : n + m ≤ 9223372036854775807 := by simp only [maxLen] at h63; omega
  have hall : ∀ l : List Value, (∀ u ∈ l, Pr u) → ∀ k, AllC (w.drew.alloc (.cells (l.toArray ++ news.toArray ++ Builtin.zeroCells z.cells k) e)) (.slice (some ⟨w.heap.size, 0, none⟩) (n + m) (grownCap w (n + m) 0 e)) Pr := by
    intro l hl k b hb
    have hb' : w.heap.size = b := by simpa [Value.ownBlock] using hb
    subst hb'
    refine ⟨_, _, _, heap_alloc_new w.drew _, fun u hu => ?_⟩
    simp only [Array.toList_append, List.mem_append] at hu
    rcases hu with (hu | hu) | hu
    · exact hl u hu
    · exact pn u hu
    · exact zero_all pz u hu
  rcases hown.2 with ⟨rfl, rfl⟩ | ⟨g, cap, cur, rfl, hbg, hg, hnc, hcm, hcs, htake⟩
  · by_cases hm : m = 0
    · subst hm
      have hn : news = [] := List.eq_nil_of_length_eq_zero (by simpa using hl)
      subst hn
      have h0 : (Builtin.append_ #[t, t] ty #[.slice none 0 0, .slice (some a) 0 c]).run P w = .ok (.slice none 0 0) w := by
        simp [Builtin.append_, run_underlying ht, sizeOf, typeInfo, hi, Builtin.lenOf, Builtin.firstCells, loadCells, loadCellsFrom]
      rw [h0] at hr
      injection hr with e1 e2
      subst e1 e2
      exact AllC.nil_ _ _
    · have h0 := run_append_nil (P := P) w t ty e i z ht hi hz a m c news hl hnews (by omega) (by omega) (by have hb := hbytes; simp only [Nat.zero_add] at hb; omega)
      rw [h0] at hr
      injection hr with e1 e2
      subst e1 e2
      intro b hb
      have hb' : w.heap.size = b := by simpa [Value.ownBlock] using hb
      subst hb'
      have := hall [] (fun u hu => by cases hu) (grownCap w m 0 e - m) w.heap.size (by simp [Value.ownBlock])
      simpa using this
  · have hcur : ∀ u ∈ cur.toList, Pr u := by
      obtain ⟨cur', t', fr', h2, h3⟩ := hp g (by simp [Value.ownBlock])
      rw [hg] at h2
      injection h2 with h2
      injection h2 with h2
      subst h2
      exact h3
    have hxs : ∀ u ∈ xs, Pr u := fun u hu => hcur u (by rw [← htake] at hu; exact List.mem_of_mem_take hu)
    by_cases hroom : n + m ≤ cap
    · have hfit : n * i.size + news.length ≤ cur.size := by rw [hl, hcs, ← Nat.add_mul]; exact Nat.mul_le_mul_right _ hroom
      have h0 := run_append_room (P := P) w t ty e i ht hi g n cap cur hg a m c news hl hnews h1 hroom hfit
      rw [h0] at hr
      injection hr with e1 e2
      subst e1 e2
      intro b hb
      have hb' : g = b := by simpa [Value.ownBlock] using hb
      subst hb'
      refine ⟨_, _, _, setRow_heap w g cur _ e _ hg, fun u hu => ?_⟩
      simp only [List.mem_append] at hu
      rcases hu with (hu | hu) | hu
      · exact hcur u (List.mem_of_mem_take hu)
      · exact pn u hu
      · exact hcur u (List.mem_of_mem_drop hu)
    · have holds : ∀ j u, xs[j]? = some u → w.cell? ((⟨g, 0, none⟩ : Addr).add j) = some u := hown.cells (g := g) rfl
      have h0 := run_append_grow (P := P) w t ty e i z ht hi hz ⟨g, 0, none⟩ n cap xs hown.1 holds a m c news hl hnews (by omega) (by omega) (growslice_fits (by omega) hbytes)
      rw [h0] at hr
      injection hr with e1 e2
      subst e1 e2
      intro b hb
      have hb' : w.heap.size = b := by simpa [Value.ownBlock] using hb
      subst hb'
      exact hall xs hxs _ w.heap.size (by simp [Value.ownBlock])
/-- append to a slice of the call's own, with what all its cells are -/
theorem wpList_append_all {P : Program} (w : World) {ops : Array Oper} {rest : List Oper} {o : Oper} {a : Act} {Q : Exit → Act → World → Prop} (hgd : o.guard = none) (s x : Operand) (t : TypeId)
    (ho : o.op = .call { callee := .builtin .append, args := #[s, x], argTypes := #[t, t] })
    (base : Nat) (e : TypeId) (i : TypeInfo) (z : Value) (size bytes : Nat) (ht : P.underlying t = some (.slice e)) (hi : P.info? e = some i) (hz : i.zero = some z) (hsize : i.size = size) (hby : i.bytes = bytes) (hzs : z.cells.size = size) (hsz : 0 < size)
    (v : Value) (n : Nat) (xs : List Value) (hs : a.eval s = v) (hown : w.ownsRow base e size v n xs)
    (ad : Addr) (m c : Nat) (news : List Value) (hx : a.eval x = .slice (some ad) m c) (hl : news.length = m * size) (hnews : ∀ j u, news[j]? = some u → w.cell? (ad.add j) = some u) (h1 : ∀ u ∈ news, u.oneCell' = true)
    (h63 : n + m ≤ maxLen) (hbytes : (n + m) * bytes ≤ 140737488355328) (hbase : base ≤ w.heap.size) (Pr : Value → Prop) (pz : ∀ u ∈ z.cells.toList, Pr u) (pn : ∀ u ∈ news, Pr u) (hp : AllC w v Pr)
    (h : ∀ v' w', w'.ownsRow base e size v' (n + m) (xs ++ news) → w.grownBy w' v.ownBlock → AllC w' v' Pr → (v'.ownBlock = v.ownBlock ∨ v'.ownBlock = some w.heap.size) → wpList P ops Q rest (a.put o.dst v') w') : wpList P ops Q (o :: rest) a w := by
  subst hsize
  subst hby
  refine wpList_plain hgd fun K hK => ?_
  obtain ⟨v', w', hr, h2, h3, _, h6⟩ := run_append_own_at (P := P) w base t o.type e i z i.size i.bytes ht hi hz rfl rfl hzs hsz v n xs hown ad m c news hl hnews h1 h63 hbytes hbase
  have h5 := append_all ht hi hz hown hl hnews h1 h63 hbytes pz pn hp hr
  unfold Oper.wp execOp
  simp only [ho, resolve, invoke, builtin, Sem.run_bind, Sem.run_pure, Result.andThen_ok, List.map_toArray, List.map_cons, List.map_nil, hs, hx, hr]
  exact hK _ _ (h v' w' h2 h3 h5 h6)
end Go.Proofs.YtoiolepengcagaaGreatDoor
namespace Go.Proofs.YtoiolepengcagaaGreatDoor
open Go.RowKit Go.Shelf
/-- a rule and the blocks of its two slices -/
structure RV where
  g1 : Nat
  g2 : Nat
  T : List ByteArray
  N : List ByteArray
def rvF (r : RV) : Value := .slice (some ⟨r.g1, 0, none⟩) r.T.length r.T.length
def rvG (r : RV) : Value := .slice (some ⟨r.g2, 0, none⟩) r.N.length r.N.length
/-- where the file's rows lie -/
structure FV where
  pm : Option Addr
  cm : Nat
  pp : Option Addr
  cp : Nat
  pi : Option Addr
  ci : Nat
  pr : Option Addr
  cr : Nat
def FV.m (s : FV) (F : FileV) : Value := .slice s.pm F.ms.length s.cm
def FV.p (s : FV) (F : FileV) : Value := .slice s.pp F.ph.length s.cp
def FV.i (s : FV) (F : FileV) : Value := .slice s.pi F.inf.length s.ci
def FV.r (s : FV) (F : FileV) : Value := .slice s.pr F.rs.length s.cr
structure FSt (base B : Nat) (F : FileV) (s : FV) (rl xl : List RV) (w : World) : Prop where
  box : w.heap[B]? = some (.cells #[s.m F, s.p F, s.i F, s.r F] 43 (0, 0))
  lt : B < base
  ms : w.ownsRow base 86 2 (s.m F) F.ms.length (cells2 mF mG F.ms)
  ph : w.ownsRow base 9 1 (s.p F) F.ph.length (strsV F.ph)
  inf : w.ownsRow base 100 2 (s.i F) F.inf.length (cells2 iF iG F.inf)
  rs : w.ownsRow base 61 2 (s.r F) F.rs.length (cells2 rvF rvG rl)
  same : rl.map (fun r => (r.T, r.N)) = F.rs
  own : ∀ r ∈ rl ++ xl, RowS w base r.g1 r.T ∧ RowS w base r.g2 r.N ∧ (s.p F).ownBlock ≠ some r.g1 ∧ (s.p F).ownBlock ≠ some r.g2
  sm : ∀ m ∈ F.ms, m.1.length ≤ 1048600 ∧ m.2.length ≤ 1048600
  sp : ∀ x ∈ F.ph, x.size ≤ 40
  si : ∀ x ∈ F.inf, x.1.size ≤ 1048700 ∧ x.2.size ≤ 1048700
theorem own_apart {w : World} {b b' e e' k k' n n' : Nat} {v v' : Value} {xs xs' : List Value} (h : w.ownsRow b e k v n xs) (h' : w.ownsRow b' e' k' v' n' xs') (he : e ≠ e') : v.ownBlock = none ∨ v.ownBlock ≠ v'.ownBlock := by
  rcases h.2 with ⟨rfl, _⟩ | ⟨g, cap, cur, rfl, _, hg, _⟩
  · exact .inl rfl
  · right
    intro e
    rcases h'.2 with ⟨rfl, _⟩ | ⟨g', cap', cur', rfl, _, hg', _⟩
    · simp [Value.ownBlock] at e
    · simp [Value.ownBlock] at e
      subst e
      rw [hg] at hg'
      injection hg' with hg'
      injection hg' with _ e1 _
      exact he e1
theorem grown_setF (w : World) (a : Addr) (u : Value) : w.grownBy (w.setCell a u) (some a.block) :=
  ⟨rfl, rfl, rfl, by simp, fun k _ hk => heap_setCell_other w a k u (fun e => hk (by rw [e]))⟩
theorem own_step {w w5 : World} {base e k n B i : Nat} {v u : Value} {xs : List Value} {r : Option Nat} (h : w.ownsRow base e k v n xs) (hg : w.grownBy w5 r) (hne : v.ownBlock = none ∨ v.ownBlock ≠ r) (hB : B < base) :
    (w5.setCell ⟨B, i, none⟩ u).ownsRow base e k v n xs :=
  (h.kept hg hne).kept (grown_setF w5 _ _) (.inr (fun e => by have := (h.lt B e).1; omega))
theorem own_set {w : World} {base e k n B i : Nat} {v u : Value} {xs : List Value} (h : w.ownsRow base e k v n xs) (hB : B < base) : (w.setCell ⟨B, i, none⟩ u).ownsRow base e k v n xs :=
  h.kept (grown_setF w _ _) (.inr (fun e => by have := (h.lt B e).1; omega))
theorem boxF {w : World} {b : Nat} {t : TypeId} {v0 v1 v2 v3 : Value} (h : w.heap[b]? = some (.cells #[v0, v1, v2, v3] t (0, 0))) :
    (w.cell? ⟨b, 0, none⟩ = some v0 ∧ w.cell? ⟨b, 1, none⟩ = some v1 ∧ w.cell? ⟨b, 2, none⟩ = some v2 ∧ w.cell? ⟨b, 3, none⟩ = some v3) ∧ ∀ o, w.frozen? ⟨b, o, none⟩ = false := by
  refine ⟨⟨?_, ?_, ?_, ?_⟩, fun o => ?_⟩
  all_goals simp [World.cell?, World.frozen?, h]
theorem boxF_set {w : World} {b : Nat} {t : TypeId} {v0 v1 v2 v3 : Value} (h : w.heap[b]? = some (.cells #[v0, v1, v2, v3] t (0, 0))) (u : Value) :
    (w.setCell ⟨b, 0, none⟩ u).heap[b]? = some (.cells #[u, v1, v2, v3] t (0, 0)) ∧ (w.setCell ⟨b, 1, none⟩ u).heap[b]? = some (.cells #[v0, u, v2, v3] t (0, 0)) ∧
    (w.setCell ⟨b, 2, none⟩ u).heap[b]? = some (.cells #[v0, v1, u, v3] t (0, 0)) ∧ (w.setCell ⟨b, 3, none⟩ u).heap[b]? = some (.cells #[v0, v1, v2, u] t (0, 0)) := by
  simp only [Go.Sort.setCell_eq]
  refine ⟨?_, ?_, ?_, ?_⟩
  all_goals simp [Go.Sort.mapBlock, Go.Sort.onCells, Array.getElem?_modify, h]
section
variable {base B : Nat} {F : FileV} {s : FV} {rl xl : List RV} {w w5 : World}
theorem FSt.blt (h : FSt base B F s rl xl w) : B < w.heap.size := (Array.getElem?_eq_some_iff.1 h.box).1
theorem FSt.below (h : FSt base B F s rl xl w) (hb : Below w.heap.size w w5) : FSt base B F s rl xl w5 where
  box := by rw [hb.block B h.blt]; exact h.box
  lt := h.lt
  ms := own_belowR h.ms hb
  ph := own_belowR h.ph hb
  inf := own_belowR h.inf hb
  rs := own_belowR h.rs hb
  same := h.same
  own := fun r hr => ⟨(h.own r hr).1.below hb, (h.own r hr).2.1.below hb, (h.own r hr).2.2⟩
  sm := h.sm
  sp := h.sp
  si := h.si
theorem FSt.boxAt (h : FSt base B F s rl xl w) {r : Option Nat} (hg : w.grownBy w5 r) (hr : ∀ k, r = some k → base ≤ k) : w5.heap[B]? = some (.cells #[s.m F, s.p F, s.i F, s.r F] 43 (0, 0)) := by
  rw [hg.block B h.blt (fun e => by have := hr B e.symm; have := h.lt; omega)]
  exact h.box
theorem RowS.step {base g B i : Nat} {T : List ByteArray} {u : Value} {w w5 : World} {r : Option Nat} (h : RowS w base g T) (hg : w.grownBy w5 r) (hr : r ≠ some g) (hB : B < base) : RowS (w5.setCell ⟨B, i, none⟩ u) base g T :=
  (h.grown hg hr).grown (grown_setF w5 _ _) (fun e => by injection e with e; have h1 := h.lt.1; have h2 : B = g := e; omega)
theorem RowS.other {base g b' e' k' n' : Nat} {T : List ByteArray} {v' : Value} {xs' : List Value} (h : RowS w base g T) (h' : w.ownsRow b' e' k' v' n' xs') (he : 9 ≠ e') : v'.ownBlock ≠ some g := by
  rcases own_apart h.1 h' he with h1 | h1
  · cases h1
  · exact fun e => h1 e.symm
/-- a macro more -/
theorem FSt.macro (h : FSt base B F s rl xl w) {x : Mac} {p : Option Addr} {c : Nat} (hx : x.1.length ≤ 1048600 ∧ x.2.length ≤ 1048600) (hg : w.grownBy w5 (s.m F).ownBlock)
    (ho : w5.ownsRow base 86 2 (.slice p (F.ms.length + 1) c) (F.ms.length + 1) (cells2 mF mG (F.ms ++ [x]))) :
    w5.heap[B]? = some (.cells #[s.m F, s.p F, s.i F, s.r F] 43 (0, 0)) ∧ FSt base B { F with ms := F.ms ++ [x] } { s with pm := p, cm := c } rl xl (w5.setCell ⟨B, 0, none⟩ (.slice p (F.ms.length + 1) c)) := by
  have hb := h.boxAt hg (fun k hk => (h.ms.lt k hk).1)
  have hl : (F.ms ++ [x]).length = F.ms.length + 1 := by simp
  refine ⟨hb, ⟨?_, h.lt, ?_, ?_, ?_, ?_, h.same, fun r hr => ?_, ?_, h.sp, h.si⟩⟩
  · have := (boxF_set hb (.slice p (F.ms.length + 1) c)).1
    rw [this]
    unfold FV.m
    rw [hl]
    rfl
  · have := own_set (i := 0) (u := .slice p (F.ms.length + 1) c) ho h.lt
    unfold FV.m
    rw [hl]
    exact this
  · exact own_step h.ph hg (own_apart h.ph h.ms (by decide)) h.lt
  · exact own_step h.inf hg (own_apart h.inf h.ms (by decide)) h.lt
  · exact own_step h.rs hg (own_apart h.rs h.ms (by decide)) h.lt
  · obtain ⟨h1, h2, h3, h4⟩ := h.own r hr
    exact ⟨h1.step hg (h1.other h.ms (by decide)) h.lt, h2.step hg (h2.other h.ms (by decide)) h.lt, h3, h4⟩
  · intro m hm
    rcases List.mem_append.1 hm with hm | hm
    · exact h.sm m hm
    · rw [List.mem_singleton.1 hm]; exact hx
/-- a phony name more -/
theorem FSt.phony (h : FSt base B F s rl xl w) {x : ByteArray} {p : Option Addr} {c : Nat} (hx : x.size ≤ 40) (hg : w.grownBy w5 (s.p F).ownBlock)
    (ho : w5.ownsRow base 9 1 (.slice p (F.ph.length + 1) c) (F.ph.length + 1) (strsV (F.ph ++ [x])))
    (hl : (Value.slice p (F.ph.length + 1) c).ownBlock = (s.p F).ownBlock ∨ (Value.slice p (F.ph.length + 1) c).ownBlock = some w.heap.size) :
    w5.heap[B]? = some (.cells #[s.m F, s.p F, s.i F, s.r F] 43 (0, 0)) ∧ FSt base B { F with ph := F.ph ++ [x] } { s with pp := p, cp := c } rl xl (w5.setCell ⟨B, 1, none⟩ (.slice p (F.ph.length + 1) c)) := by
  have hb := h.boxAt hg (fun k hk => (h.ph.lt k hk).1)
  have hln : (F.ph ++ [x]).length = F.ph.length + 1 := by simp
  refine ⟨hb, ⟨?_, h.lt, ?_, ?_, ?_, ?_, h.same, fun r hr => ?_, h.sm, ?_, h.si⟩⟩
  · have := (boxF_set hb (.slice p (F.ph.length + 1) c)).2.1
    rw [this]
    unfold FV.p
    rw [hln]
    rfl
  · exact own_step h.ms hg (own_apart h.ms h.ph (by decide)) h.lt
  · have := own_set (i := 1) (u := .slice p (F.ph.length + 1) c) ho h.lt
    unfold FV.p
    rw [hln]
    exact this
  · exact own_step h.inf hg (own_apart h.inf h.ph (by decide)) h.lt
  · exact own_step h.rs hg (own_apart h.rs h.ph (by decide)) h.lt
  · obtain ⟨h1, h2, h3, h4⟩ := h.own r hr
    have l1 := h1.lt.2
    have l2 := h2.lt.2
    refine ⟨h1.step hg h3 h.lt, h2.step hg h4 h.lt, ?_, ?_⟩
    · unfold FV.p
      rw [hln]
      show (Value.slice p (F.ph.length + 1) c).ownBlock ≠ _
      rcases hl with e | e
      · rw [e]; exact h3
      · rw [e]; intro e2; injection e2 with e2; omega
    · unfold FV.p
      rw [hln]
      show (Value.slice p (F.ph.length + 1) c).ownBlock ≠ _
      rcases hl with e | e
      · rw [e]; exact h4
      · rw [e]; intro e2; injection e2 with e2; omega
  · intro m hm
    rcases List.mem_append.1 hm with hm | hm
    · exact h.sp m hm
    · rw [List.mem_singleton.1 hm]; exact hx
/-- an inference more -/
theorem FSt.infer (h : FSt base B F s rl xl w) {x : Inf} {p : Option Addr} {c : Nat} (hx : x.1.size ≤ 1048700 ∧ x.2.size ≤ 1048700) (hg : w.grownBy w5 (s.i F).ownBlock)
    (ho : w5.ownsRow base 100 2 (.slice p (F.inf.length + 1) c) (F.inf.length + 1) (cells2 iF iG (F.inf ++ [x]))) :
    w5.heap[B]? = some (.cells #[s.m F, s.p F, s.i F, s.r F] 43 (0, 0)) ∧ FSt base B { F with inf := F.inf ++ [x] } { s with pi := p, ci := c } rl xl (w5.setCell ⟨B, 2, none⟩ (.slice p (F.inf.length + 1) c)) := by
  have hb := h.boxAt hg (fun k hk => (h.inf.lt k hk).1)
  have hl : (F.inf ++ [x]).length = F.inf.length + 1 := by simp
  refine ⟨hb, ⟨?_, h.lt, ?_, ?_, ?_, ?_, h.same, fun r hr => ?_, h.sm, h.sp, ?_⟩⟩
  · have := (boxF_set hb (.slice p (F.inf.length + 1) c)).2.2.1
    rw [this]
    unfold FV.i
    rw [hl]
    rfl
  · exact own_step h.ms hg (own_apart h.ms h.inf (by decide)) h.lt
  · exact own_step h.ph hg (own_apart h.ph h.inf (by decide)) h.lt
  · have := own_set (i := 2) (u := .slice p (F.inf.length + 1) c) ho h.lt
    unfold FV.i
    rw [hl]
    exact this
  · exact own_step h.rs hg (own_apart h.rs h.inf (by decide)) h.lt
  · obtain ⟨h1, h2, h3, h4⟩ := h.own r hr
    exact ⟨h1.step hg (h1.other h.inf (by decide)) h.lt, h2.step hg (h2.other h.inf (by decide)) h.lt, h3, h4⟩
  · intro m hm
    rcases List.mem_append.1 hm with hm | hm
    · exact h.si m hm
    · rw [List.mem_singleton.1 hm]; exact hx
/-- a rule more -/
theorem FSt.rule {x : RV} (h : FSt base B F s rl [x] w) {p : Option Addr} {c : Nat} (hg : w.grownBy w5 (s.r F).ownBlock)
    (ho : w5.ownsRow base 61 2 (.slice p (F.rs.length + 1) c) (F.rs.length + 1) (cells2 rvF rvG (rl ++ [x]))) :
    w5.heap[B]? = some (.cells #[s.m F, s.p F, s.i F, s.r F] 43 (0, 0)) ∧ FSt base B { F with rs := F.rs ++ [(x.T, x.N)] } { s with pr := p, cr := c } (rl ++ [x]) [] (w5.setCell ⟨B, 3, none⟩ (.slice p (F.rs.length + 1) c)) := by
  have hb := h.boxAt hg (fun k hk => (h.rs.lt k hk).1)
  have hl : (F.rs ++ [(x.T, x.N)]).length = F.rs.length + 1 := by simp
  refine ⟨hb, ⟨?_, h.lt, ?_, ?_, ?_, ?_, by rw [List.map_append, h.same]; rfl, fun r hr => ?_, h.sm, h.sp, h.si⟩⟩
  · have := (boxF_set hb (.slice p (F.rs.length + 1) c)).2.2.2
    rw [this]
    unfold FV.r
    rw [hl]
    rfl
  · exact own_step h.ms hg (own_apart h.ms h.rs (by decide)) h.lt
  · exact own_step h.ph hg (own_apart h.ph h.rs (by decide)) h.lt
  · exact own_step h.inf hg (own_apart h.inf h.rs (by decide)) h.lt
  · have := own_set (i := 3) (u := .slice p (F.rs.length + 1) c) ho h.lt
    unfold FV.r
    rw [hl]
    exact this
  · rw [List.append_nil] at hr
    obtain ⟨h1, h2, h3, h4⟩ := h.own r hr
    exact ⟨h1.step hg (h1.other h.rs (by decide)) h.lt, h2.step hg (h2.other h.rs (by decide)) h.lt, h3, h4⟩
/-- a rule that is looked at beside -/
theorem FSt.with (h : FSt base B F s rl [] w) {x : RV} (h1 : RowS w base x.g1 x.T) (h2 : RowS w base x.g2 x.N) (h3 : (s.p F).ownBlock ≠ some x.g1) (h4 : (s.p F).ownBlock ≠ some x.g2) : FSt base B F s rl [x] w := by
  have ho : ∀ r ∈ rl ++ [x], RowS w base r.g1 r.T ∧ RowS w base r.g2 r.N ∧ (s.p F).ownBlock ≠ some r.g1 ∧ (s.p F).ownBlock ≠ some r.g2 := by
    intro r hr
    rcases List.mem_append.1 hr with hr | hr
    · exact h.own r (List.mem_append_left _ hr)
    · rw [List.mem_singleton.1 hr]; exact ⟨h1, h2, h3, h4⟩
  exact { h with own := ho }
theorem FSt.less (h : FSt base B F s rl xl w) : FSt base B F s rl [] w :=
  { h with own := fun r hr => h.own r (List.mem_append_left _ (by simpa using hr)) }
end
end Go.Proofs.YtoiolepengcagaaGreatDoor
