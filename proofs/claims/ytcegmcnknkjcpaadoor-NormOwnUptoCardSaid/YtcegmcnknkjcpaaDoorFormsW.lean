/- The tables of package ask, as a row lists them: what the walks read of them. Conditions: none. -/
import Derived.Test.YtcegmcnknkjcpaaDoorAskP
import Derived.Test.YtcegmcnknkjcpaaDoorDoor
namespace Go.Proofs.YtcegmcnknkjcpaaDoor
open Go.ChangeShapes Go.WideShapes Go.ChangeAt Go.RowKit
def formsN : String := "millwright/ask.forms"
def kindsN : String := "millwright/ask.kinds"
theorem formsG : Tryd.prog.globalNamed formsN = some 0 := by kernel_rfl
theorem formsTy : (Tryd.prog.globals[0]?).map (·.type) = some 55 := by kernel_rfl
theorem formsC : Tryd.prog.cellsOf 54 = 4 := by kernel_rfl
theorem formsMem : (formsN, (Rows.laid_millwright_ask_forms : DataW Unit)) ∈ laidL := by
  show _ ∈ [_, _, _, _, _, _, _]
  repeat (first | exact List.Mem.head _ | apply List.Mem.tail)
def formD (k : Nat) : DataW Unit := .agg [.lit (.int .i64 (qmany k : Int)), .lit (.bool (qnamed k)), .lit (.bool (qnumd k)), .lit (.string (qword k))]
theorem formsD : (Rows.laid_millwright_ask_forms : DataW Unit) = .agg ((List.range 16).map formD) := by rfl
/-- the table of the forms -/
def Forms (w : World) : Prop := ∀ k : Nat, k < 16 → w.cell? ⟨0, 4 * k, none⟩ = some (.int .i64 (qmany k : Int)) ∧ w.cell? ⟨0, 4 * k + 1, none⟩ = some (.bool (qnamed k)) ∧ w.cell? ⟨0, 4 * k + 2, none⟩ = some (.bool (qnumd k)) ∧ w.cell? ⟨0, 4 * k + 3, none⟩ = some (.string (qtx (qword k)))
set_option maxRecDepth 100000 in
theorem form_four {w : World} {sp : Nat → Bool} {held : Bool} {fuel k : Nat} {cs : List Value} {p : List MemPlace} (h : DataW.trod (fun _ => ()) Tryd.prog w 0 sp held fuel 54 cs = some (formD k, p)) :
    cs = [.int .i64 (qmany k : Int), .bool (qnamed k), .bool (qnumd k), .string (qtx (qword k))] := by
  have ht := Tryd.underlying54
  obtain ⟨xs, m, _, hxy, hlen, hxl, hff⟩ := DataW.trod_struct ht h
  rw [formsC] at hlen
  have s0 : Tryd.prog.cellsOf 3 = 1 := by kernel_rfl
  have s1 : Tryd.prog.cellsOf 4 = 1 := by kernel_rfl
  have s3 : Tryd.prog.cellsOf 9 = 1 := by kernel_rfl
  match cs, hlen, xs, hxl with
  | [v0, v1, v2, v3], _, [y0, y1, y2, y3], _ =>
    have g0 := hff 0 _ rfl
    have g1 := hff 1 _ rfl
    have g2 := hff 2 _ rfl
    have g3 := hff 3 _ rfl
    simp [s0, s1, s3] at g0 g1 g2 g3
    obtain ⟨z0, e0, x0, _⟩ := DataW.trod_int Tryd.underlying3 g0
    obtain ⟨z1, e1, x1⟩ := DataW.trod_bool Tryd.underlying4 g1
    obtain ⟨z2, e2, x2⟩ := DataW.trod_bool Tryd.underlying4 g2
    obtain ⟨z3, e3, x3, _⟩ := DataW.trod_string Tryd.underlying9 g3
    injection hxy with hd _
    unfold formD at hd
    rw [x0, x1, x2, x3] at hd
    simp only [List.map_cons, List.map_nil, DataW.agg.injEq, List.cons.injEq, DataW.lit.injEq, Lit.int.injEq, Lit.bool.injEq, Lit.string.injEq, true_and, and_true] at hd
    obtain ⟨h0, h1, h2, h3⟩ := hd
    injection e0 with e0 _
    injection e1 with e1 _
    injection e2 with e2 _
    injection e3 with e3 _
    rw [e0, e1, e2, e3, h0, h1, h2, h3, list_qtx]
set_option maxRecDepth 100000 in
theorem forms_of {w : World} (h : laidMetH Tryd.prog laidL w) : Forms w := by
  rw [MakeChecks.laidMetH_plain _ _ _ (by kernel_rfl)] at h
  obtain ⟨ps, hl, _⟩ := h
  obtain ⟨g, t, cs, fuel, p, h1, h2, h3, h4⟩ := laid_one hl _ formsMem
  obtain rfl := Option.some.inj (formsG.symm.trans h1)
  obtain rfl := Option.some.inj (formsTy.symm.trans h2)
  obtain ⟨xs, m, _, hx, hlen, hxl, hff⟩ := DataW.trod_array Tryd.underlying55 h4
  intro k hk
  injection hx with hx _
  have hx : (Rows.laid_millwright_ask_forms : DataW Unit) = .agg (xs.map (·.1)) := hx
  rw [formsD] at hx
  injection hx with hx
  have hxk := congrArg (fun l : List (DataW Unit) => l[k]?) hx
  simp only [List.getElem?_map, List.getElem?_range hk, Option.map_some] at hxk
  obtain ⟨x, hx1, hx2⟩ := Option.map_eq_some_iff.1 hxk.symm
  have hf := hff k hk
  rw [hx1, formsC] at hf
  obtain ⟨x1, x2⟩ := x
  have hx2 : x1 = formD k := hx2
  subst hx2
  have hc := form_four hf
  have hg : ∀ j v, ((cs.toList.drop (k * 4)).take 4)[j]? = some v → w.cell? ⟨0, 4 * k + j, none⟩ = some v := by
    intro j v hv
    rw [World.var?_cell formsG h3]
    rw [List.getElem?_take] at hv
    split at hv
    · rw [List.getElem?_drop] at hv
      rw [← hv, show 4 * k + j = k * 4 + j by omega]
      simp
    · cases hv
  rw [hc] at hg
  exact ⟨hg 0 _ rfl, hg 1 _ rfl, hg 2 _ rfl, hg 3 _ rfl⟩
theorem kindsG : Tryd.prog.globalNamed kindsN = some 1 := by kernel_rfl
theorem kindsTy : (Tryd.prog.globals[1]?).map (·.type) = some 57 := by kernel_rfl
theorem kindsC : Tryd.prog.cellsOf 9 = 1 := by kernel_rfl
theorem kindsMem : (kindsN, (Rows.laid_millwright_ask_kinds : DataW Unit)) ∈ laidL := by
  show _ ∈ [_, _, _, _, _, _, _]
  repeat (first | exact List.Mem.head _ | apply List.Mem.tail)
theorem kindsD : (Rows.laid_millwright_ask_kinds : DataW Unit) = .agg ((List.range 4).map fun k : Nat => .lit (.string (qkindw (k : Int)))) := by rfl
/-- the table of the words of kinds -/
def Kinds (w : World) : Prop := ∀ k : Nat, k < 4 → w.cell? ⟨1, k, none⟩ = some (.string (qtx (qkindw (k : Int))))
set_option maxRecDepth 100000 in
theorem kinds_of {w : World} (h : laidMetH Tryd.prog laidL w) : Kinds w := by
  rw [MakeChecks.laidMetH_plain _ _ _ (by kernel_rfl)] at h
  obtain ⟨ps, hl, _⟩ := h
  obtain ⟨g, t, cs, fuel, p, h1, h2, h3, h4⟩ := laid_one hl _ kindsMem
  obtain rfl := Option.some.inj (kindsG.symm.trans h1)
  obtain rfl := Option.some.inj (kindsTy.symm.trans h2)
  obtain ⟨xs, m, _, hx, hlen, hxl, hff⟩ := DataW.trod_array Tryd.underlying57 h4
  intro k hk
  injection hx with hx _
  have hx : (Rows.laid_millwright_ask_kinds : DataW Unit) = .agg (xs.map (·.1)) := hx
  rw [kindsD] at hx
  injection hx with hx
  have hxk := congrArg (fun l : List (DataW Unit) => l[k]?) hx
  simp only [List.getElem?_map, List.getElem?_range hk, Option.map_some] at hxk
  obtain ⟨x, hx1, hx2⟩ := Option.map_eq_some_iff.1 hxk.symm
  have hf := hff k hk
  rw [hx1, kindsC] at hf
  obtain ⟨x1, x2⟩ := x
  have hx2 : x1 = .lit (.string (qkindw (k : Int))) := hx2
  subst hx2
  obtain ⟨s, e, hs, _⟩ := DataW.trod_string Tryd.underlying9 hf
  injection hs with hs _
  injection hs with hs
  injection hs with hs
  rw [World.var?_cell kindsG h3]
  have hv : (cs.toList.drop (k * 1))[0]? = some (.string s) := by
    have := congrArg (fun l : List Value => l[0]?) e
    simpa using this
  rw [List.getElem?_drop] at hv
  rw [hs, list_qtx, ← hv]
  simp
theorem Forms.lt {w : World} (h : Forms w) : 0 < w.heap.size := by
  have := (h 0 (by omega)).1
  rcases Nat.lt_or_ge 0 w.heap.size with hlt | hge
  · exact hlt
  · unfold World.cell? at this
    simp [Array.getElem?_eq_none hge] at this
theorem Forms.below {w w' : World} (h : Forms w) (hb : Below w.heap.size w w') : Forms w' := by
  intro k hk
  have hlt := h.lt
  obtain ⟨h0, h1, h2, h3⟩ := h k hk
  exact ⟨(hb.cell hlt).trans h0, (hb.cell hlt).trans h1, (hb.cell hlt).trans h2, (hb.cell hlt).trans h3⟩
theorem Kinds.below {w w' : World} (h : Kinds w) (hb : Below w.heap.size w w') : Kinds w' := by
  intro k hk
  have hlt : 1 < w.heap.size := by
    have := h k hk
    rcases Nat.lt_or_ge 1 w.heap.size with hlt | hge
    · exact hlt
    · unfold World.cell? at this
      simp [Array.getElem?_eq_none hge] at this
  exact (hb.cell hlt).trans (h k hk)
end Go.Proofs.YtcegmcnknkjcpaaDoor
