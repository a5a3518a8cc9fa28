/- Texts joined: EvalTabsW, TurnP, UsersP0, EvalTurnP, SortK, SortELay, CloneSLay, TurnW, UsersG, ReachBackW, EvalTurnW. Conditions: theirs. -/
import Derived.Test.YteefncohknclcaaGreatDoorEvalAllWM16
import Derived.Test.YteefncohknclcaaGreatDoorEvalAllWM15
import Derived.Test.YteefncohknclcaaGreatDoorEvalAllWM13
import Derived.Test.YteefncohknclcaaGreatDoorEvalAllWM2
import Derived.Test.YteefncohknclcaaGreatDoorEvalAllWM7
import Derived.Test.YteefncohknclcaaGreatDoorEvalAllWM9
import Derived.Test.YteefncohknclcaaGreatDoorSortG
import Derived.Shelf.SlSortCmp.WholeK
import Derived.Shelf.SlSortCmp.NoneTotal
import Derived.Test.YteefncohknclcaaGreatDoorProg
import Derived.Shelf.SlicesE.Clone
import Derived.Test.YteefncohknclcaaGreatDoorNamesW
import Derived.Deep.RegionHeld3
import Derived.Deep.Onto
import Derived.Maps.AppendAt
import Derived.Deep.LoopGhost
import Derived.Deep.DeepCutAuto
import Derived.Test.YteefncohknclcaaGreatDoorNLSetW
import Derived.Test.YteefncohknclcaaGreatDoorEvalAllWM6
import Derived.Deep.QuietTactic
import Derived.BigQuiet
namespace Go.Proofs.YteefncohknclcaaGreatDoor
open Go.RowKit Go.Shelf Go.Lib
def laidE : List (String × DataW Unit) := Rows.evalSetsRow.laid
theorem formsMemE : (formsN, (Rows.laid_millwright_ask_forms : DataW Unit)) ∈ laidE := by
  show _ ∈ [_, _, _, _]
  repeat (first | exact List.Mem.head _ | apply List.Mem.tail)
set_option maxRecDepth 100000 in
theorem forms_ofE {w : World} (h : laidMetH Tryz.prog laidE w) : Forms w := by
  rw [MakeChecks.laidMetH_plain _ _ _ (by kernel_rfl)] at h
  obtain ⟨ps, hl, _⟩ := h
  obtain ⟨g, t, cs, fuel, p, h1, h2, h3, h4⟩ := laid_one hl _ formsMemE
  obtain rfl := Option.some.inj (formsG.symm.trans h1)
  obtain rfl := Option.some.inj (formsTy.symm.trans h2)
  obtain ⟨xs, m, _, hx, hlen, hxl, hff⟩ := DataW.trod_array Tryz.underlying129 h4
  intro k hk
  injection hx with hx _
  have hx : (Rows.laid_millwright_ask_forms : DataW Unit) = .agg (xs.map (·.1)) := hx
  rw [formsD] at hx
  injection hx with hx
  have hxk := congrArg (fun l : List (DataW Unit) => l[k]?) hx
  simp only [List.getElem?_map, List.getElem?_range hk, Option.map_some] at hxk
  obtain ⟨x, hx1, hx2⟩ := Option.map_eq_some_iff.1 hxk.symm
  have hf := hff k hk
  rw [hx1, formsC] at hf
  obtain ⟨x1, x2⟩ := x
  have hx2 : x1 = formD k := hx2
  subst hx2
  have hc := form_four hf
  have hg : ∀ j v, ((cs.toList.drop (k * 4)).take 4)[j]? = some v → w.cell? ⟨0, 4 * k + j, none⟩ = some v := by
    intro j v hv
    rw [World.var?_cell formsG h3]
    rw [List.getElem?_take] at hv
    split at hv
    · rw [List.getElem?_drop] at hv
      rw [← hv, show 4 * k + j = k * 4 + j by omega]
      simp
    · cases hv
  rw [hc] at hg
  exact ⟨hg 0 _ rfl, hg 1 _ rfl, hg 2 _ rfl, hg 3 _ rfl⟩
theorem firstMemE : ("unicode/utf8.first", firstData) ∈ laidE := by
  have e : (Rows.laid_unicode_utf8_first : DataW Unit) = firstData := by kernel_rfl
  rw [← e]
  show _ ∈ [_, _, _, _]
  repeat (first | exact List.Mem.head _ | apply List.Mem.tail)
theorem acceptMemE : ("unicode/utf8.acceptRanges", acceptData) ∈ laidE := by
  have e : (Rows.laid_unicode_utf8_acceptRanges : DataW Unit) = acceptData := by kernel_rfl
  rw [← e]
  show _ ∈ [_, _, _, _]
  repeat (first | exact List.Mem.head _ | apply List.Mem.tail)
theorem utf_ofE {w : World} (h : laidMetH Tryz.prog laidE w) : Lib.Utf8Tabs 3 4 w := by
  rw [MakeChecks.laidMetH_plain _ _ _ (by kernel_rfl)] at h
  obtain ⟨ps, hl, _⟩ := h
  exact utf8Tabs_of_readsT u8t u8x (LaidVars_reads hl _ _ firstMemE) (LaidVars_reads hl _ _ acceptMemE)
theorem laid_tabE {w : World} (h : laidMetH Tryz.prog laidE w) {name : String} {k : IntKind} {zs : List Int} {g : Nat} {t e : TypeId} {n : Nat} (hm : (name, (Lib.tabData k zs : DataW Unit)) ∈ laidE)
    (hg : Tryz.prog.globalNamed name = some g) (hty : (Tryz.prog.globals[g]?).map (·.type) = some t) (ht : Tryz.prog.underlying t = some (.array n e)) (he : Tryz.prog.underlying e = some (.int k)) (hce : Tryz.prog.cellsOf e = 1) (hct : Tryz.prog.cellsOf t = n) : Lib.TabIs Tryz.prog w name k zs := by
  rw [MakeChecks.laidMetH_plain _ _ _ (by kernel_rfl)] at h
  obtain ⟨ps, hl, _⟩ := h
  obtain ⟨g', t', cs, fuel, p, hg', ht', hvar, hd⟩ := laid_one hl _ hm
  obtain rfl := Option.some.inj (hg.symm.trans hg')
  obtain rfl := Option.some.inj (hty.symm.trans ht')
  unfold Lib.TabIs
  rw [hvar, ← Lib.cells_of_tab ht he hce hct hd]
/-- the table's cells -/
theorem tab_ofE {w : World} (h : laidMetH Tryz.prog laidE w) : Tab w := by
  have hT := laid_tabE h (name := tabName) (k := .u8) (zs := tabInts) (by show _ ∈ [_, _, _, _]; repeat (first | exact List.Mem.head _ | apply List.Mem.tail)) tabG tabT Tryz.underlying212 Tryz.underlying5 tabCE tabCT
  intro j hj
  have hc := hT.cell tabG j (by simpa [tabInts] using hj)
  rw [hc]
  have e : tabInts.getD j 0 = ((Lib.deBruijn64tab.getD j 0 : Nat) : Int) := by
    unfold tabInts
    rw [List.getD_eq_getElem?_getD, List.getD_eq_getElem?_getD, List.getElem?_map]
    cases Lib.deBruijn64tab[j]? <;> rfl
  rw [e]
theorem ev_tabs {w : World} (h : laidMetH Tryz.prog laidE w) : EvTabs w := ⟨⟨forms_ofE h, utf_ofE h⟩, tab_ofE h⟩
end Go.Proofs.YteefncohknclcaaGreatDoor
namespace Go.Proofs.YteefncohknclcaaGreatDoor
def swapE (x : E2) : E2 := (x.2, x.1)
theorem swap_swap (x : E2) : swapE (swapE x) = x := rfl
theorem elt_trans {a b c : E2} (h : elt a b) (g : elt b c) : elt a c := by unfold elt at *; omega
theorem elt_irr {a : E2} : ¬ elt a a := by unfold elt; omega
theorem elt_tri (a b : E2) : elt a b ∨ a = b ∨ elt b a := by
  obtain ⟨a1, a2⟩ := a
  obtain ⟨b1, b2⟩ := b
  unfold elt
  simp only [Prod.mk.injEq]
  omega
theorem erise_pair {es : List E2} : ERise es ↔ es.Pairwise elt := by
  rw [List.pairwise_iff_getElem]
  have hg : ∀ i (h : i < es.length), es.getD i (0, 0) = es[i] := fun i h => by rw [List.getD_eq_getElem?_getD, List.getElem?_eq_getElem h]; rfl
  constructor
  · intro h i j hi hj hij
    obtain ⟨d, rfl⟩ : ∃ d, j = i + d + 1 := ⟨j - i - 1, by omega⟩
    clear hij
    induction d with
    | zero =>
      have := h i hj
      rw [hg i hi, hg _ hj] at this
      exact this
    | succ d ih =>
      have h1 := ih (by omega)
      have h2 := h (i + d + 1) hj
      rw [hg _ (by omega), hg (i + d + 1 + 1) hj] at h2
      exact elt_trans h1 h2
  · intro h i hi
    rw [hg i (by omega), hg _ hi]
    exact h i (i + 1) (by omega) hi (by omega)
theorem erise_ext : ∀ {l m : List E2}, l.Pairwise elt → m.Pairwise elt → (∀ x, x ∈ l ↔ x ∈ m) → l = m
  | [], [], _, _, _ => rfl
  | [], y :: m, _, _, h => absurd ((h y).2 List.mem_cons_self) (by simp)
  | x :: l, [], _, _, h => absurd ((h x).1 List.mem_cons_self) (by simp)
  | x :: l, y :: m, hl, hm, h => by
    rw [List.pairwise_cons] at hl hm
    have hxy : x = y := by
      rcases List.mem_cons.1 ((h x).1 List.mem_cons_self) with e | e
      · exact e
      · rcases List.mem_cons.1 ((h y).2 List.mem_cons_self) with f | f
        · exact f.symm
        · exact absurd (elt_trans (hl.1 y f) (hm.1 x e)) elt_irr
    subst hxy
    have : l = m := erise_ext hl.2 hm.2 fun z => by
      constructor
      · intro hzl
        rcases List.mem_cons.1 ((h z).1 (List.mem_cons_of_mem _ hzl)) with e | e
        · subst e; exact absurd (hl.1 _ hzl) elt_irr
        · exact e
      · intro hzm
        rcases List.mem_cons.1 ((h z).2 (List.mem_cons_of_mem _ hzm)) with e | e
        · subst e; exact absurd (hm.1 _ hzm) elt_irr
        · exact e
    rw [this]
/-- the edges of a turned graph -/
structure TurnOf (es ts : List E2) : Prop where
  rise : ERise ts
  mem : ∀ x, x ∈ ts ↔ swapE x ∈ es
theorem mem_swap {es : List E2} {x : E2} : x ∈ es.map swapE ↔ swapE x ∈ es := by
  rw [List.mem_map]
  constructor
  · rintro ⟨y, hy, rfl⟩; exact hy
  · intro h; exact ⟨swapE x, h, rfl⟩
theorem turn_of {es ts : List E2} (he : ERise es) (hp : ts.Perm (es.map swapE)) (hs : ts.Pairwise fun a b => ¬ elt b a) : TurnOf es ts := by
  have hnd : ts.Nodup := by
    rw [hp.nodup_iff]
    rw [List.Nodup, List.pairwise_map]
    refine (erise_pair.1 he).imp fun {a b} h e => ?_
    have : a = b := by rw [← swap_swap a, e]; rfl
    subst this
    exact elt_irr h
  refine ⟨erise_pair.2 ?_, fun x => by rw [hp.mem_iff, mem_swap]⟩
  refine (hs.and hnd).imp fun {a b} h => ?_
  rcases elt_tri a b with h1 | h1 | h1
  · exact h1
  · exact absurd h1 h.2
  · exact absurd h1 h.1
theorem turn_twice {es ts us : List E2} (he : ERise es) (h1 : TurnOf es ts) (h2 : TurnOf ts us) : us = es :=
  erise_ext (erise_pair.1 h2.rise) (erise_pair.1 he) fun x => by rw [h2.mem, h1.mem, swap_swap]
end Go.Proofs.YteefncohknclcaaGreatDoor
namespace Go.Proofs.YteefncohknclcaaGreatDoor
theorem good_turn {g : GD} {ts : List E2} (hG : Good g) (ht : TurnOf g.edges ts) : Good ⟨g.names, ts, g.phony, g.made⟩ :=
  ⟨hG.names, hG.ok, hG.rise, fun x hx => by
    have h := hG.edges _ ((ht.mem x).1 hx)
    exact ⟨h.2.2.1, h.2.2.2, h.1, h.2.1⟩, ht.rise, hG.sets⟩
end Go.Proofs.YteefncohknclcaaGreatDoor
namespace Go.Proofs.YteefncohknclcaaGreatDoor
/-- the turned graph -/
def tG (g : GD) (ts : List E2) : GD := ⟨g.names, ts, g.phony, g.made⟩
theorem rws_turn {g : GD} {ts : List E2} (hG : Good g) (ht : TurnOf g.edges ts) : rws (tG g ts) = bk (rws g) := by
  have hG2 : Good (tG g ts) := good_turn hG ht
  have h64 := hG.names
  have hl : (rws (tG g ts)).length = (bk (rws g)).length := by rw [rws_len, bk_len, rws_len]; rfl
  refine list_ext_row hl fun k hk => ?_
  rw [rws_len] at hk
  have hk : k < g.names.length := hk
  refine eq_of_iff fun a => ?_
  rw [has_bk (by rw [rws_len]; exact h64), has_rws hG2, has_rws hG, rws_len]
  have h1 := ht.mem ((k : Int), (a : Int))
  exact ⟨fun h => ⟨hk, h1.1 h⟩, fun h => h1.2 h.2⟩
theorem turn_back {es ts : List E2} (he : ERise es) (ht : TurnOf es ts) : TurnOf ts es :=
  ⟨he, fun x => by
    have h := ht.mem (swapE x)
    rw [show swapE (swapE x) = x from rfl] at h
    exact h.symm⟩
theorem bk_turn {g : GD} {ts : List E2} (hG : Good g) (ht : TurnOf g.edges ts) : bk (rws (tG g ts)) = rws g := by
  have h := rws_turn (g := tG g ts) (ts := g.edges) (good_turn hG ht) (turn_back hG.erise ht)
  rw [← h]
  rfl
theorem nmd_turn {g : GD} {ts : List E2} {x : QA} (h : Nmd g x) : Nmd (tG g ts) x := by
  induction h with
  | mk h _ ih => exact .mk h ih
theorem nmd_back {g : GD} {ts : List E2} {x : QA} (h : Nmd (tG g ts) x) : Nmd g x := by
  induction h with
  | mk h _ ih => exact .mk h ih
theorem one_E {k : Int} {n : Int} {X : QA} (hk : qnodeE qpat k [] n 1 = 0) : qE qpat (.mk k [] n [X]) = 0 ↔ 1 + qcnt X ≤ 60 ∧ qchk qpat X = 0 := by
  constructor
  · intro h
    obtain ⟨h1, h2⟩ := qE_chk h
    rw [cnt_mk, cnts_one] at h1
    exact ⟨h1, (qchk_zero.1 h2).2 X (by simp)⟩
  · rintro ⟨h1, h2⟩
    unfold qE
    rw [cnt_mk, cnts_one, if_neg (by omega)]
    exact qchk_zero.2 ⟨hk, fun y hy => by rw [List.mem_singleton.1 hy]; exact h2⟩
theorem one_free {k : Int} {n : Int} {X : QA} (hk : k ≠ 3) : qfree (.mk k [] n [X]) [] = qfree X [] := by
  rw [free1]
  unfold qown
  rw [if_neg (fun h => hk h.1)]
  rfl
theorem one_qev {g : GD} {k : Int} {n : Int} {X : QA} (hk : qnodeE qpat k [] n 1 = 0) (h3 : k ≠ 3) (h1 : k ≠ 1) : Qev g (.mk k [] n [X]) ↔ Good g ∧ (1 + qcnt X ≤ 60 ∧ qchk qpat X = 0) ∧ qfree X [] = [] ∧ Nmd g X := by
  constructor
  · intro h
    have hf := h.free
    rw [one_free h3] at hf
    exact ⟨h.good, (one_E hk).1 h.ok, hf, h.named.kids X (show X ∈ [X] by simp)⟩
  · rintro ⟨h1', h2, h4, h5⟩
    exact ⟨h1', (one_E hk).2 h2, by rw [one_free h3]; exact h4, .mk (fun e => absurd e h1) (fun y hy => by rw [List.mem_singleton.1 hy]; exact h5)⟩
theorem node_walk {w n : Int} (hw : w = 8 ∨ w = 9) (h0 : 0 ≤ n) (h1 : n ≤ 100) : qnodeE qpat w [] 0 1 = 0 ∧ qnodeE qpat (w + 2) [] n 1 = 0 := node_one hw h0 h1
/-- what is asked of the turned graph can be asked as of the graph -/
theorem turn_qev {g : GD} {ts : List E2} (hG : Good g) (ht : TurnOf g.edges ts) {X : QA} {n : Int} (h0 : 0 ≤ n) (h1 : n ≤ 100) :
    (Qev g (.mk 8 [] 0 [X]) ↔ Qev (tG g ts) (.mk 9 [] 0 [X])) ∧ (Qev g (.mk 10 [] n [X]) ↔ Qev (tG g ts) (.mk 11 [] n [X])) := by
  have hG2 : Good (tG g ts) := good_turn hG ht
  have a := node_walk (.inl rfl) h0 h1
  have b := node_walk (.inr rfl) h0 h1
  have c : (Good g ∧ (1 + qcnt X ≤ 60 ∧ qchk qpat X = 0) ∧ qfree X [] = [] ∧ Nmd g X) ↔ (Good (tG g ts) ∧ (1 + qcnt X ≤ 60 ∧ qchk qpat X = 0) ∧ qfree X [] = [] ∧ Nmd (tG g ts) X) :=
    ⟨fun h => ⟨hG2, h.2.1, h.2.2.1, nmd_turn h.2.2.2⟩, fun h => ⟨hG, h.2.1, h.2.2.1, nmd_back h.2.2.2⟩⟩
  refine ⟨?_, ?_⟩
  · rw [one_qev a.1 (by decide) (by decide), one_qev b.1 (by decide) (by decide)]; exact c
  · rw [one_qev (k := 10) a.2 (by decide) (by decide), one_qev (k := 11) b.2 (by decide) (by decide)]; exact c
/-- a name answers the same in the turned graph -/
theorem name_val {g : GD} {ts : List E2} {X : QA} (hk : X.kind = 1) (hc : qchk qpat X = 0) : qval (tG g ts) X [] = qval g X [] := by
  obtain ⟨k, s, n, xs⟩ := X
  have hk : k = 1 := hk
  subst hk
  have : xs.length = 0 := by rcases node_cases (qchk_zero.1 hc).1 with h | h | h | h | h | h | h | h | h | h <;> first | (exfalso; omega) | omega
  obtain rfl := List.length_eq_zero_iff.1 this
  have e : gidx (tG g ts) s = gidx g s := by unfold gidx; rfl
  rw [val0, val0]
  unfold qop2
  rw [if_pos rfl, if_pos rfl, e]
/-- THE LAW EvalTurn, plainly -/
theorem turn_law {g : GD} {ts : List E2} (hG : Good g) (ht : TurnOf g.edges ts) {X : QA} (hk : X.kind = 1) {n : Int} (hq : Qev g (.mk 8 [] 0 [X])) :
    qval (tG g ts) (.mk 9 [] 0 [X]) [] = qval g (.mk 8 [] 0 [X]) [] ∧ qval (tG g ts) (.mk 11 [] n [X]) [] = qval g (.mk 10 [] n [X]) [] := by
  have hv := name_val (g := g) (ts := ts) hk ((qchk_zero.1 hq.chk).2 X (by simp))
  have a : ∀ (g : GD) (m : Int), qval g (.mk 8 [] m [X]) [] = cls (rws g) (qval g X []) := fun g m => by rw [val1]; rfl
  have b : ∀ (g : GD) (m : Int), qval g (.mk 9 [] m [X]) [] = cls (bk (rws g)) (qval g X []) := fun g m => by rw [val1]; rfl
  have c : ∀ (g : GD) (m : Int), qval g (.mk 10 [] m [X]) [] = ball (rws g) m.toNat (qval g X []) := fun g m => by rw [val1]; rfl
  have d : ∀ (g : GD) (m : Int), qval g (.mk 11 [] m [X]) [] = ball (bk (rws g)) m.toNat (qval g X []) := fun g m => by rw [val1]; rfl
  refine ⟨?_, ?_⟩
  · rw [b, a, bk_turn hG ht, hv]
  · rw [d, c, bk_turn hG ht, hv]
end Go.Proofs.YteefncohknclcaaGreatDoor
namespace Go.Proofs.YteefncohknclcaaGreatDoor
open Go.Sort Go.Proofs Go.Shelf Go.RowKit
section
variable {α : Type} [Inhabited α] (f g : α → Value)
theorem flat2 (l : List α) : flatK (fun x => [f x, g x]) 2 l.toArray = (cells2 f g l).toArray := by
  apply Array.ext
  · simp [cells2_len]
  · intro t h1 h2
    have ht : t < l.length * 2 := by simpa using h1
    have hk : t / 2 < l.length := by omega
    obtain ⟨c1, c2⟩ := cells2_at f g (List.getElem?_eq_getElem hk)
    have e := get_flatK (fun x => [f x, g x]) 2 l.toArray t (by simpa using ht)
    rw [getElem!_pos _ t h1] at e
    rw [e]
    have e2 : l.toArray[t / 2]! = l[t / 2] := by simp [hk]
    rw [e2, List.getElem_toArray]
    have h3 : (cells2 f g l)[t]? = some (cells2 f g l)[t] := List.getElem?_eq_getElem (by rw [cells2_len]; exact ht)
    rcases Nat.mod_two_eq_zero_or_one t with h0 | h0
    · rw [show t / 2 * 2 = t by omega] at c1
      rw [c1] at h3
      injection h3 with h3
      rw [← h3, h0]; rfl
    · rw [show t / 2 * 2 + 1 = t by omega] at c2
      rw [c2] at h3
      injection h3 with h3
      rw [← h3, h0]; rfl
theorem holds2 {w : World} {b : Nat} {cur : Array Value} {e : TypeId} {ss : List α} (hb : w.heap[b]? = some (.cells cur e (0, 0))) (ht : cur.toList.take (ss.length * 2) = cells2 f g ss) :
    HoldsK (fun x => [f x, g x]) 2 w b 0 ss.toArray := by
  unfold HoldsK
  rw [flat2]
  exact holds_own (enc := id) hb (by rw [cells2_len, ht, List.map_id])
theorem grown2 {w : World} {b n : Nat} {os : Array Obj} (d : List α) : w.grownBy (sortWorldK (fun x => [f x, g x]) 2 w b 0 n d.toArray os) (some b) :=
  grown_sorted (enc := id) (n := n) (os := os) (flatK (fun x => [f x, g x]) 2 d.toArray)
theorem own2 {w : World} {base b cap n : Nat} {e : TypeId} {os : Array Obj} {cur : Array Value} {k : Nat} {ts : List α} (hl : ts.length = k) (hbase : base ≤ b) (hb : w.heap[b]? = some (.cells cur e (0, 0)))
    (h1 : k ≤ cap) (h2 : cap ≤ maxLen) (h3 : cur.size = cap * 2) :
    (sortWorldK (fun x => [f x, g x]) 2 w b 0 n ts.toArray os).ownsRow base e 2 (.slice (some ⟨b, 0, none⟩) k cap) k (cells2 f g ts) := by
  have hh := heap_sortedG (enc := id) (n := n) (os := os) (flatK (fun x => [f x, g x]) 2 ts.toArray) hb
  have ht := take_putG (enc := id) cur (cells2 f g ts) (by rw [cells2_len]; omega)
  rw [cells2_len, List.map_id, ← flat2] at ht
  exact ⟨by rw [cells2_len, hl], .inr ⟨b, cap, _, rfl, hbase, hh, h1, h2, by simp [putCells, h3], by rw [← hl]; exact ht⟩⟩
end
end Go.Proofs.YteefncohknclcaaGreatDoor
namespace Go.Proofs
open Go.Shelf Go.RowKit
def Tryz.laysE6_ren : Go.Shelf.Ren := ⟨fun | 6 => 50 | 14 => 79 | 15 => 74 | 28 => 109 | 29 => 110 | 20 => 112 | 21 => 113 | 22 => 114 | 23 => 115 | 24 => 116 | 25 => 117 | 26 => 118 | 27 => 119 | 46 => 143 | 47 => 139 | 48 => 140 | 49 => 144 | 50 => 145 | 57 => 162 | n => n, fun | 22 => 23 | 24 => 85 | 25 => 87 | 3 => 3 | 39 => 119 | 0 => 0 | 53 => 156 | 55 => 24 | 4 => 4 | 46 => 149 | 45 => 148 | 50 => 99 | 5 => 5 | 9 => 9 | 66 => 184 | 70 => 188 | 76 => 205 | 77 => 206 | n => n, fun | n => n⟩
theorem Tryz.laysE6 : Go.Proofs.SlLaysF0.n6 Tryz.prog Tryz.laysE6_ren := {
  mixed := by kernel_rfl
  f6 := ⟨Tryz.f50.name, by kernel_rfl, Tryz.func50.trans (congrArg some (by kernel_rfl))⟩
  f14 := ⟨Tryz.f79.name, by kernel_rfl, Tryz.func79.trans (congrArg some (by kernel_rfl))⟩
  f15 := Tryz.func74.trans (congrArg some (by kernel_rfl))
  f20 := ⟨Tryz.f112.name, by kernel_rfl, Tryz.func112.trans (congrArg some (by kernel_rfl))⟩
  f21 := ⟨Tryz.f113.name, by kernel_rfl, Tryz.func113.trans (congrArg some (by kernel_rfl))⟩
  f22 := ⟨Tryz.f114.name, by kernel_rfl, Tryz.func114.trans (congrArg some (by kernel_rfl))⟩
  f23 := ⟨Tryz.f115.name, by kernel_rfl, Tryz.func115.trans (congrArg some (by kernel_rfl))⟩
  f24 := ⟨Tryz.f116.name, by kernel_rfl, Tryz.func116.trans (congrArg some (by kernel_rfl))⟩
  f25 := ⟨Tryz.f117.name, by kernel_rfl, Tryz.func117.trans (congrArg some (by kernel_rfl))⟩
  f26 := ⟨Tryz.f118.name, by kernel_rfl, Tryz.func118.trans (congrArg some (by kernel_rfl))⟩
  f27 := ⟨Tryz.f119.name, by kernel_rfl, Tryz.func119.trans (congrArg some (by kernel_rfl))⟩
  f28 := Tryz.func109.trans (congrArg some (by kernel_rfl))
  f29 := Tryz.func110.trans (congrArg some (by kernel_rfl))
  f46 := ⟨Tryz.f143.name, by kernel_rfl, Tryz.func143.trans (congrArg some (by kernel_rfl))⟩
  f47 := Tryz.func139.trans (congrArg some (by kernel_rfl))
  f48 := Tryz.func140.trans (congrArg some (by kernel_rfl))
  f49 := ⟨Tryz.f144.name, by kernel_rfl, Tryz.func144.trans (congrArg some (by kernel_rfl))⟩
  f50 := ⟨Tryz.f145.name, by kernel_rfl, Tryz.func145.trans (congrArg some (by kernel_rfl))⟩
  f57 := ⟨Tryz.f162.name, by kernel_rfl, Tryz.func162.trans (congrArg some (by kernel_rfl))⟩
  t0 := Tryz.underlying0
  a0 := Tryz.isAgg0
  z0 := Tryz.sizeOf0
  v0 := Tryz.zeroValue0
  t3 := Tryz.underlying3
  a3 := Tryz.isAgg3
  z3 := Tryz.sizeOf3
  v3 := Tryz.zeroValue3
  t4 := Tryz.underlying4
  a4 := Tryz.isAgg4
  z4 := Tryz.sizeOf4
  v4 := Tryz.zeroValue4
  t5 := Tryz.underlying5
  a5 := Tryz.isAgg5
  z5 := Tryz.sizeOf5
  v5 := Tryz.zeroValue5
  t9 := Tryz.underlying9
  a9 := Tryz.isAgg9
  z9 := Tryz.sizeOf9
  v9 := Tryz.zeroValue9
  t22 := Tryz.underlying23
  a22 := Tryz.isAgg23
  z22 := Tryz.sizeOf23
  v22 := Tryz.zeroValue23
  t25 := Tryz.underlying87
  a25 := Tryz.isAgg87
  z25 := Tryz.sizeOf87
  v25 := Tryz.zeroValue87
  t39 := Tryz.underlying119
  a39 := Tryz.isAgg119
  z39 := Tryz.sizeOf119
  v39 := Tryz.zeroValue119
  t45 := Tryz.underlying148
  a45 := Tryz.isAgg148
  z45 := Tryz.sizeOf148
  v45 := Tryz.zeroValue148
  t46 := Tryz.underlying149
  a46 := Tryz.isAgg149
  z46 := Tryz.sizeOf149
  v46 := Tryz.zeroValue149
  t50 := Tryz.underlying99
  a50 := Tryz.isAgg99
  z50 := Tryz.sizeOf99
  v50 := Tryz.zeroValue99
  t53 := Tryz.underlying156
  a53 := Tryz.isAgg156
  z53 := Tryz.sizeOf156
  v53 := Tryz.zeroValue156
  t55 := Tryz.underlying24
  a55 := Tryz.isAgg24
  z55 := Tryz.sizeOf24
  v55 := Tryz.zeroValue24
  t66 := Tryz.underlying184
  a66 := Tryz.isAgg184
  z66 := Tryz.sizeOf184
  v66 := Tryz.zeroValue184
  t70 := Tryz.underlying188
  a70 := Tryz.isAgg188
  z70 := Tryz.sizeOf188
  v70 := Tryz.zeroValue188
  t76 := Tryz.underlying205
  a76 := Tryz.isAgg205
  z76 := Tryz.sizeOf205
  v76 := Tryz.zeroValue205
  t77 := Tryz.underlying206
  a77 := Tryz.isAgg206
  z77 := Tryz.sizeOf206
  v77 := Tryz.zeroValue206 }
end Go.Proofs
namespace Go.Proofs
open Go.Shelf Go.RowKit
def Tryz.laysCloneS_ren : Go.Shelf.Ren := ⟨fun | 41 => 49 | n => n, fun | 22 => 22 | 23 => 9 | 4 => 4 | n => n, fun | n => n⟩
theorem Tryz.laysCloneS : Go.Proofs.SlLaysE0.n41 Tryz.prog Tryz.laysCloneS_ren := {
  mixed := by kernel_rfl
  f41 := ⟨Tryz.f49.name, by kernel_rfl, Tryz.func49.trans (congrArg some (by kernel_rfl))⟩
  t4 := Tryz.underlying4
  a4 := Tryz.isAgg4
  z4 := Tryz.sizeOf4
  v4 := Tryz.zeroValue4
  t22 := Tryz.underlying22
  a22 := Tryz.isAgg22
  z22 := Tryz.sizeOf22
  v22 := Tryz.zeroValue22 }
end Go.Proofs
namespace Go.Proofs.YteefncohknclcaaGreatDoor
open Go.RowKit Go.Shelf Go.Sort
theorem hao (w : World) (o : Obj) (i : Nat) (h : i < w.heap.size) : (w.alloc o).heap[i]? = w.heap[i]? := by
  show (w.heap.push o)[i]? = w.heap[i]?
  rw [Array.getElem?_push, if_neg (Nat.ne_of_lt h)]
theorem han (w : World) (o : Obj) : (w.alloc o).heap[w.heap.size]? = some o := by
  show (w.heap.push o)[w.heap.size]? = some o
  simp
theorem han2 (w : World) (a b : Obj) : ((w.alloc a).alloc b).heap[w.heap.size + 1]? = some b := by
  have h := han (w.alloc a) b
  have e : (w.alloc a).heap.size = w.heap.size + 1 := by simp
  rwa [e] at h
theorem grown_set (w : World) (a : Addr) (u : Value) : w.grownBy (w.setCell a u) (some a.block) :=
  ⟨rfl, rfl, rfl, by simp, fun k _ hk => heap_setCell_other w a k u (fun e => hk (by rw [e]))⟩
/-- whoever grows behind a world, but for one block of it -/
theorem grown_step {W w w' : World} {row : Option Nat} {bx : Nat} (h : W.grownBy w (some bx)) (hg : w.grownBy w' row) (hr : ∀ k, row = some k → k = bx ∨ W.heap.size ≤ k) : W.grownBy w' (some bx) :=
  ⟨hg.os.trans h.os, hg.tape.trans h.tape, hg.output.trans h.output, Nat.le_trans h.size hg.size, fun k hk hne => by
    rw [hg.block k (Nat.lt_of_lt_of_le hk h.size) (fun e => by
      rcases hr k e.symm with h1 | h1
      · exact hne (by rw [h1])
      · omega), h.block k hk hne]⟩
theorem box4 {w : World} {b : Nat} {t : TypeId} {v0 v1 v2 v3 : Value} (h : w.heap[b]? = some (.cells #[v0, v1, v2, v3] t (0, 0))) :
    w.cell? ⟨b, 0, none⟩ = some v0 ∧ w.cell? ⟨b, 1, none⟩ = some v1 ∧ w.cell? ⟨b, 2, none⟩ = some v2 ∧ w.cell? ⟨b, 3, none⟩ = some v3 ∧ ∀ o, w.frozen? ⟨b, o, none⟩ = false := by
  refine ⟨?_, ?_, ?_, ?_, fun o => ?_⟩
  all_goals simp [World.cell?, World.frozen?, h]
theorem box4_set1 {w : World} {b : Nat} {t : TypeId} {v0 v1 v2 v3 : Value} (h : w.heap[b]? = some (.cells #[v0, v1, v2, v3] t (0, 0))) (u : Value) :
    (w.setCell ⟨b, 1, none⟩ u).heap[b]? = some (.cells #[v0, u, v2, v3] t (0, 0)) := by
  rw [setCell_eq]
  simp [mapBlock, onCells, Array.getElem?_modify, h]
theorem box4_all {w : World} {b : Nat} {t : TypeId} {v0 v1 v2 v3 : Value} (h : w.heap[b]? = some (.cells #[v0, v1, v2, v3] t (0, 0))) (u0 u1 u2 u3 : Value) :
    ((((w.setCell ⟨b, 0, none⟩ u0).setCell ⟨b, 1, none⟩ u1).setCell ⟨b, 2, none⟩ u2).setCell ⟨b, 3, none⟩ u3).heap[b]? = some (.cells #[u0, u1, u2, u3] t (0, 0)) := by
  simp only [setCell_eq]
  simp [mapBlock, onCells, Array.getElem?_modify, h]
theorem below_set4 {B b : Nat} {w w' : World} (h : Below B w w') (hb : B ≤ b) (u0 u1 u2 u3 : Value) :
    Below B w ((((w'.setCell ⟨b, 0, none⟩ u0).setCell ⟨b, 1, none⟩ u1).setCell ⟨b, 2, none⟩ u2).setCell ⟨b, 3, none⟩ u3) :=
  (((h.setCell hb _).setCell hb _).setCell hb _).setCell hb _
theorem own_formT {w : World} {base e n size : Nat} {v : Value} {xs : List Value} (h : w.ownsRow base e size v n xs) : ∃ (g : Option Addr) (c : Nat), v = .slice g n c ∧ ∀ b, v.ownBlock = some b → base ≤ b ∧ b < w.heap.size := by
  rcases h.2 with ⟨rfl, rfl⟩ | ⟨g, cap, cur, rfl, hb, hh, _⟩
  · exact ⟨none, 0, rfl, fun b hb => by cases hb⟩
  · exact ⟨_, cap, rfl, fun b hb' => h.lt b hb'⟩
theorem CloneS_ok (p : Option Addr) (n c : Nat) (zs : List ByteArray) (w : World) (h : NL w p n c zs) :
    Calls Tryz.prog 49 #[.slice p n c] w fun e w' => ∃ (g : Option Addr) (cg : Nat), e = .returned (.slice g n cg) ∧ w'.ownsRow w.heap.size 9 1 (.slice g n cg) n (strsV zs) ∧ Below w.heap.size w w' := by
  have hl := h.at_.len
  have hr := h.reach
  have hb := h.at_.big
  cases p with
  | none =>
    have hn : n = 0 := by
      rcases Nat.eq_zero_or_pos n with h0 | h0
      · exact h0
      · obtain ⟨ad, e, _⟩ := h.at_.reads.2 h0
        cases e
    subst hn
    have hz : zs = [] := List.length_eq_zero_iff.1 hl
    subst hz
    refine (AnyE.slices_Clone_nil Tryz.laysCloneS 0 c w).mono ?_
    rintro e w' ⟨rfl, rfl⟩
    exact ⟨none, 0, rfl, World.ownsRow_nil _ _ _ _, Below.refl _ _⟩
  | some ad =>
    obtain ⟨b, o, rfl, _⟩ := h.plain _ rfl
    obtain ⟨i0, hi, hz0, hz1, hz2⟩ := info_parts info_str
    have hcon := AnyE.slices_Clone Tryz.laysCloneS i0 (.string ⟨#[]⟩) 1 16 hi hz0 hz1 hz2 rfl (by decide) (fun _ => by kernel_rfl) b o n c (strsV zs) w (by simp [strsV, hl]) (by unfold maxLen; omega) (by omega)
      (fun j u hu => by
        have hj : j < zs.length := by
          have := (List.getElem?_eq_some_iff.1 hu).1
          simpa [strsV] using this
        have h0 := h.cellAt j hj
        rw [h0, ← hu]
        unfold strsV
        simp [hj])
      (fun u hu => by
        obtain ⟨x, _, rfl⟩ := List.mem_map.1 hu
        rfl)
    refine hcon.mono ?_
    rintro e w' ⟨v', rfl, hown, _, hbel⟩
    obtain ⟨g, cg, rfl, _⟩ := own_formT hown
    exact ⟨g, cg, rfl, hown, hbel⟩
theorem info_edge : (Tryz.prog.info? 85).map (fun i => (i.zero, i.size, i.bytes)) = some (some (.agg #[.int .i64 0, .int .i64 0]), 2, 16) := by kernel_rfl
theorem app_edge (w : World) {ops : Array Oper} {rest : List Oper} {o : Oper} {a : Act} {Q : Exit → Act → World → Prop} (hgd : o.guard = none) (s x : Operand)
    (ho : o.op = .call { callee := .builtin .append, args := #[s, x], argTypes := #[23, 23] })
    (base : Nat) (v : Value) (n : Nat) (xs : List E2) (hs : a.eval s = v) (hown : w.ownsRow base 85 2 v n (cells2 eF eG xs))
    (g : Nat) (y : E2) (hx : a.eval x = .slice (some ⟨g, 0, none⟩) 1 1) (hc0 : w.cell? ⟨g, 0, none⟩ = some (.int .i64 y.1)) (hc1 : w.cell? ⟨g, 1, none⟩ = some (.int .i64 y.2))
    (hn : n ≤ 8796093022207) (hbase : base ≤ w.heap.size)
    (h : ∀ v' w', w'.ownsRow base 85 2 v' (n + 1) (cells2 eF eG (xs ++ [y])) → w.grownBy w' v.ownBlock → wpList Tryz.prog ops Q rest (a.put o.dst v') w') : wpList Tryz.prog ops Q (o :: rest) a w := by
  obtain ⟨i0, hi, hz0, hz1, hz2⟩ := info_parts info_edge
  refine wpList_append_own w hgd s x 23 ho base 85 i0 _ 2 16 Tryz.underlying23 hi hz0 hz1 hz2 rfl (by decide) v n _ hs hown ⟨g, 0, none⟩ 1 1 [eF y, eG y] hx rfl ?_ ?_ (by unfold maxLen; omega) (by omega) hbase (fun v' w' h1 h2 _ => h v' w' ?_ h2)
  · intro j q hj
    match j, hj with
    | 0, hj => simp at hj; subst hj; simpa [Addr.add, eF] using hc0
    | 1, hj => simp at hj; subst hj; simpa [Addr.add, eG] using hc1
  · intro q hq; simp at hq; rcases hq with rfl | rfl <;> rfl
  · rw [cells2_append]; exact h1
set_option maxHeartbeats 1000000 in
set_option maxRecDepth 100000 in
theorem eorder_ex (a b : E2) (w : World) : Calls Tryz.prog 51 #[e2V a, e2V b] w fun e w' => e = .returned (.int .i64 (ordE a b)) ∧ ∃ q os, w' = grow (w.drewN q) os := by
  obtain ⟨a1, a2⟩ := a
  obtain ⟨b1, b2⟩ := b
  unfold e2V ordE
  simp only
  obtain ⟨x, hx⟩ : ∃ x, Lib.compareInt a1 b1 = x := ⟨_, rfl⟩
  obtain ⟨y, hy⟩ : ∃ y, Lib.compareInt a2 b2 = y := ⟨_, rfl⟩
  rw [hx, hy]
  have HO := Lib.hid (or_ok x y)
  obtain ⟨v, hv⟩ : ∃ v, (if x ≠ 0 then x else y) = v := ⟨_, rfl⟩
  rw [hv] at HO ⊢
  clear hv
  have HX := Lib.hid (Tryz.cmp_Compare_int a1 b1)
  have HY := Lib.hid (Tryz.cmp_Compare_int a2 b2)
  rw [hx] at HX
  rw [hy] at HY
  clear hx hy
  go_enter Tryz.func51, Tryz.ntmps51
  go_wp2
  obtain ⟨W, hW⟩ : ∃ W, W = (w.alloc (.cells #[.int .i64 a1, .int .i64 a2] 85)).alloc (.cells #[.int .i64 b1, .int .i64 b2] 85) := ⟨_, rfl⟩
  have c1 : W.cell? ⟨w.heap.size, 0, none⟩ = some (.int .i64 a1) := by rw [hW, World.cell?_alloc_lt _ _ _ (by simp), World.cell?_alloc_at _ _ _ _ rfl]; rfl
  have c2 : W.cell? ⟨w.heap.size, 1, none⟩ = some (.int .i64 a2) := by rw [hW, World.cell?_alloc_lt _ _ _ (by simp), World.cell?_alloc_at _ _ _ _ rfl]; rfl
  have c3 : W.cell? ⟨w.heap.size + 1, 0, none⟩ = some (.int .i64 b1) := by rw [hW, World.cell?_alloc_at _ _ _ _ (by simp)]; rfl
  have c4 : W.cell? ⟨w.heap.size + 1, 1, none⟩ = some (.int .i64 b2) := by rw [hW, World.cell?_alloc_at _ _ _ _ (by simp)]; rfl
  have HG : Hid (∃ os, W = grow w os) := by
    show ∃ os, _
    exact ⟨_, by rw [hW, alloc_eq_grow, alloc_eq_grow, grow_grow]⟩
  rw [← hW]
  clear hW
  refine wp_region_still_tail 10 (by kernel_rfl) (by kernel_rfl) ?_
  simp only [List.take_succ_cons, List.take_zero, List.drop_succ_cons, List.drop_zero]
  repeat still_step
  still_call (HX.out _)
  repeat still_step
  still_call (HY.out _)
  repeat still_step
  refine wpStill_nil ?_
  obtain ⟨W2, hW2⟩ : ∃ W2 : World, W2 = { heap := W.heap, tape := W.tape, drawn := W.drawn + 1, os := W.os, output := W.output } := ⟨_, rfl⟩
  have HG2 : Hid (∃ q os, W2 = grow (w.drewN q) os) := by
    show ∃ q os, _
    obtain ⟨os, ho⟩ := HG.out
    exact ⟨1, os, by rw [hW2, ho]; rfl⟩
  rw [← hW2]
  clear hW2 c1 c2 c3 c4 HG
  go_wp2_with (go_at_call 80; refine (HO.out _ _ (by rw [World.cell?_alloc_at _ _ _ _ rfl]; rfl) (by rw [World.cell?_alloc_at _ _ _ _ rfl]; rfl)).mono ?_; rintro e w' ⟨rfl, rfl⟩)
  go_ret
  obtain ⟨q, os, ho⟩ := HG2.out
  exact ⟨rfl, q, _, by rw [alloc_eq_grow, ho, grow_grow]⟩
def encE (x : E2) : List Value := [eF x, eG x]
theorem swoE : SWO (ltOf ordE) := by
  have key : ∀ x y, ltOf ordE x y = decide (elt x y) := fun x y => by
    unfold ltOf
    rw [Bool.eq_iff_iff, decide_eq_true_iff, decide_eq_true_iff, ordE_neg]
  refine ⟨fun x => ?_, fun x y z h1 h2 => ?_, fun x y z h1 h2 => ?_⟩
  · rw [key, decide_eq_false_iff_not]; exact elt_irr
  · rw [key, decide_eq_true_iff] at *; exact elt_trans h1 h2
  · rw [key, decide_eq_false_iff_not] at *
    intro h
    rcases elt_tri x y with h3 | h3 | h3
    · exact h1 h3
    · subst h3; exact h2 h
    · exact h2 (elt_trans h3 h)
/-- the library sorts a slice of edges of the call's own -/
theorem sortE_ok (base : Nat) (p : Option Addr) (n c : Nat) (xs : List E2) (w : World) (h : w.ownsRow base 85 2 (.slice p n c) n (cells2 eF eG xs)) (hbig : n ≤ 8796093022208) :
    Calls Tryz.prog 50 #[.slice p n c, .func (.func 51) #[] #[]] w fun e w' =>
      e = .returned (.tuple #[]) ∧ ∃ ts : List E2, ts.Perm xs ∧ ts.Pairwise (fun a b => ¬ elt b a) ∧ w'.ownsRow base 85 2 (.slice p n c) n (cells2 eF eG ts) ∧ w.grownBy w' (Value.slice p n c).ownBlock := by
  have hxl : xs.length = n := by have := h.1; rw [cells2_len] at this; omega
  rcases h.2 with ⟨hv, hn⟩ | ⟨g, cap, cur, hv, hb, hg, h1, h2, h3, h4⟩
  · injection hv with e1 e2 e3
    subst e1 e3 hn
    refine (AnyF.slices_SortFunc_none Tryz.laysE6 none 0 (.func (.func 51) #[] #[]) w).mono ?_
    rintro e w' ⟨rfl, rfl⟩
    have : xs = [] := List.length_eq_zero_iff.1 hxl
    subst this
    exact ⟨rfl, [], List.Perm.refl _, List.Pairwise.nil, World.ownsRow_nil _ _ _ _, ⟨rfl, rfl, rfl, Nat.le_refl _, fun _ _ _ => rfl⟩⟩
  · injection hv with e1 e2 e3
    subst e1 e3
    have hgl : g < w.heap.size := (Array.getElem?_eq_some_iff.1 hg).1
    have hH : HoldsK encE 2 w g 0 xs.toArray := holds2 eF eG hg (by rw [hxl]; exact h4)
    have hsz : xs.toArray.size = n := by simpa using hxl
    have eg : ∀ args w, (callFunc 51 args).run Tryz.prog w = .ok (.enter 51 args) w := enters_of Tryz.func51 (by kernel_rfl) rfl
    have hcmp : CmpLays Tryz.prog 51 #[] encE 2 ordE g 0 xs.toArray.size w := fun m os dk _ x y => eorder_ex x y _
    have hcon := AnyQ.slices_SortFunc Tryz.laysE6 2 (fun _ => by kernel_rfl) (fun _ => by kernel_rfl) encE (fun _ => rfl) (fun x v hv => by
      simp [encE, eF, eG] at hv
      rcases hv with rfl | rfl <;> rfl) ordE swoE 51 #[] g 0 c xs.toArray w eg hcmp hH hgl (by rw [hsz]; omega)
    rw [hsz] at hcon
    refine hcon.mono ?_
    rintro e w' ⟨rfl, d', nd, os, hp, hso, rfl⟩
    have hds : d'.size = n := by
      have := hp.1
      rw [this]; exact hsz
    have hdl : d'.toList.length = n := by rw [Array.length_toList]; exact hds
    have hpm : d'.toList.Perm xs := by
      have h := hp.2.2
      have e1 : d'.extract 0 n = d' := by rw [← hds]; simp
      have e2 : xs.toArray.extract 0 n = xs.toArray := by rw [← hsz]; simp
      rw [e1, e2] at h
      simpa using h
    refine ⟨rfl, d'.toList, hpm, ?_, ?_, ?_⟩
    · rw [List.pairwise_iff_getElem]
      intro i j hi hj hij
      have := hso i j (Nat.zero_le _) hij (by omega)
      have e1 : d'[i]! = d'.toList[i] := by rw [getElem!_pos d' i (by rw [hds]; omega)]; simp
      have e2 : d'[j]! = d'.toList[j] := by rw [getElem!_pos d' j (by rw [hds]; omega)]; simp
      rw [e1, e2] at this
      unfold ltOf at this
      rw [decide_eq_false_iff_not, ordE_neg] at this
      exact this
    · have := own2 eF eG (n := nd) (os := os) (e := 85) (ts := d'.toList) hdl hb hg h1 h2 h3
      rw [Array.toArray_toList] at this
      exact this
    · have := grown2 eF eG (w := w) (b := g) (n := nd) (os := os) d'.toList
      rw [Array.toArray_toList] at this
      exact this
theorem results_ct {P : Program} {fn : Func} {p u : Tmp} {ty : TypeId} (h : fn.results = #[.cell p ty, .tmp u]) (tmps : Array Value) (w : World) (g : Nat) (t : TypeId) (cs : Array Value) (fr : Nat × Nat) (d : TypeDesc) (x : Value)
    (hp : tmps.getD p undef = .pointer (some ⟨g, 0, none⟩)) (hx : tmps.getD u undef = x) (hg : w.heap[g]? = some (.cells cs t fr))
    (hu : P.underlying ty = some d) (hd : (match d with | .struct _ | .array _ _ => true | _ => false) = true) (hi : (P.info? ty).map (·.size) = some cs.size) :
    (results fn tmps).run P w = .ok (.tuple #[.agg cs, x]) w := by
  have hp' : tmps[p]?.getD undef = .pointer (some ⟨g, 0, none⟩) := by simpa using hp
  have hx' : tmps[u]?.getD undef = x := by simpa using hx
  rw [results_cell_tmp h]
  simp [hp', hx', asAddr, run_loadVar_row w g t ty cs fr d hg hu hd hi, Result.andThen]
/-- what Turn answers -/
def TurnPost (w : World) (g : GD) (e : Ending) (w' : World) : Prop :=
  ((Good g ∧ ∃ (p q : Option Addr) (c d : Nat) (ts : List E2), TurnOf g.edges ts ∧ ts.length = g.edges.length ∧
      e = .returned (.tuple #[.agg #[.slice p g.names.length c, .slice q g.edges.length d, .int .u64 (un g.phony : Int), .int .u64 (un g.made : Int)], .int .i64 0]) ∧
      w'.ownsRow w.heap.size 9 1 (.slice p g.names.length c) g.names.length (strsV g.names) ∧ w'.ownsRow w.heap.size 85 2 (.slice q g.edges.length d) g.edges.length (cells2 eF eG ts)) ∨
    (¬ Good g ∧ ∃ E : Int, E ≠ 0 ∧ e = .returned (.tuple #[.agg #[.slice none 0 0, .slice none 0 0, .int .u64 0, .int .u64 0], .int .i64 E]))) ∧ Below w.heap.size w w'
/-- where Turn stands when its new graph is laid -/
structure CutT (W : World) (g : GD) (bx : Nat) (gp : Option Addr) (gc : Nat) (wx : World) : Prop where
  ge : W.heap.size ≤ bx
  lt : bx < wx.heap.size
  below : Below W.heap.size W wx
  box : wx.heap[bx]? = some (.cells #[.slice gp g.names.length gc, .slice none 0 0, .int .u64 (un g.phony : Int), .int .u64 (un g.made : Int)] 26 (0, 0))
  own : wx.ownsRow W.heap.size 9 1 (.slice gp g.names.length gc) g.names.length (strsV g.names)
  ne : (Value.slice gp g.names.length gc).ownBlock ≠ some bx
theorem grown_set4 (w : World) (b : Nat) (u0 u1 u2 u3 : Value) : w.grownBy ((((w.setCell ⟨b, 0, none⟩ u0).setCell ⟨b, 1, none⟩ u1).setCell ⟨b, 2, none⟩ u2).setCell ⟨b, 3, none⟩ u3) (some b) :=
  (((grown_set w ⟨b, 0, none⟩ u0).trans (grown_set _ ⟨b, 1, none⟩ u1)).trans (grown_set _ ⟨b, 2, none⟩ u2)).trans (grown_set _ ⟨b, 3, none⟩ u3)
theorem cutT_a {W w2 w3 : World} {g : GD} {gp : Option Addr} {gc : Nat} (hW2 : Below W.heap.size W w2) (ho : w3.ownsRow w2.heap.size 9 1 (.slice gp g.names.length gc) g.names.length (strsV g.names)) (hb : Below W.heap.size W w3) :
    CutT W g w3.heap.size gp gc (w3.alloc (.cells #[.slice gp g.names.length gc, .slice none 0 0, .int .u64 (un g.phony : Int), .int .u64 (un g.made : Int)] 26)) :=
  ⟨hb.size, by simp, hb.alloc hb.size _, han _ _, (World.ownsRow.mono ho hW2.size).alloc _, fun e => by have := (ho.lt _ e).2; omega⟩
theorem cutT_b {W w2 w3 : World} {g : GD} {gp : Option Addr} {gc B : Nat} {v0 v1 v2 v3 : Value} (hW2 : Below W.heap.size W w2) (hB : w2.heap.size < B) (hs : w2.heap.size < w3.heap.size) (ho : w3.ownsRow B 9 1 (.slice gp g.names.length gc) g.names.length (strsV g.names)) (hb : Below W.heap.size W w3)
    (hx : w3.heap[w2.heap.size]? = some (.cells #[v0, v1, v2, v3] 26 (0, 0))) :
    CutT W g w2.heap.size gp gc ((((w3.setCell ⟨w2.heap.size, 0, none⟩ (.slice gp g.names.length gc)).setCell ⟨w2.heap.size, 1, none⟩ (.slice none 0 0)).setCell ⟨w2.heap.size, 2, none⟩ (.int .u64 (un g.phony : Int))).setCell ⟨w2.heap.size, 3, none⟩ (.int .u64 (un g.made : Int))) := by
  have hne : (Value.slice gp g.names.length gc).ownBlock ≠ some w2.heap.size := fun e => by have := (ho.lt _ e).1; omega
  exact ⟨hW2.size, Nat.lt_of_lt_of_le hs (grown_set4 _ _ _ _ _ _).size, below_set4 hb hW2.size _ _ _ _, box4_all hx _ _ _ _, (World.ownsRow.mono ho (by have := hW2.size; omega)).kept (grown_set4 _ _ _ _ _ _) (.inr hne), hne⟩
/-- what the loop of Turn keeps: j edges are turned -/
structure TInv (wc : World) (g : GD) (bx : Nat) (gp : Option Addr) (gc j : Nat) (pe : Option Addr) (ce : Nat) (wr : World) : Prop where
  box : wr.heap[bx]? = some (.cells #[.slice gp g.names.length gc, .slice pe j ce, .int .u64 (un g.phony : Int), .int .u64 (un g.made : Int)] 26 (0, 0))
  own : wr.ownsRow wc.heap.size 85 2 (.slice pe j ce) j (cells2 eF eG ((g.edges.take j).map swapE))
  grow : wc.grownBy wr (some bx)
theorem TInv.alloc {wc wr : World} {g : GD} {bx gc j ce : Nat} {gp pe : Option Addr} (h : TInv wc g bx gp gc j pe ce wr) (o : Obj) : TInv wc g bx gp gc j pe ce (wr.alloc o) := by
  have hlt : bx < wr.heap.size := (Array.getElem?_eq_some_iff.1 h.box).1
  exact ⟨(hao _ _ _ hlt).trans h.box, h.own.alloc o, h.grow.trans (World.grownBy_alloc _ _ _)⟩
theorem TInv.app {wc X w5 : World} {g : GD} {bx gc j ce : Nat} {gp pe : Option Addr} (h : TInv wc g bx gp gc j pe ce X) (hbx : bx < wc.heap.size) (hg : X.grownBy w5 (Value.slice pe j ce).ownBlock) :
    w5.heap[bx]? = some (.cells #[.slice gp g.names.length gc, .slice pe j ce, .int .u64 (un g.phony : Int), .int .u64 (un g.made : Int)] 26 (0, 0)) ∧ wc.grownBy w5 (some bx) := by
  have hlt : bx < X.heap.size := (Array.getElem?_eq_some_iff.1 h.box).1
  have hne : ∀ k, (Value.slice pe j ce).ownBlock = some k → wc.heap.size ≤ k := fun k hk => (h.own.lt k hk).1
  exact ⟨(hg.block bx hlt fun e => by have := hne bx e.symm; omega).trans h.box, grown_step h.grow hg fun k hk => .inr (hne k hk)⟩
theorem TInv.set {wc w5 : World} {g : GD} {bx gc j ce ce2 : Nat} {gp pe pe2 : Option Addr} (hbx : bx < wc.heap.size)
    (h1 : w5.heap[bx]? = some (.cells #[.slice gp g.names.length gc, .slice pe j ce, .int .u64 (un g.phony : Int), .int .u64 (un g.made : Int)] 26 (0, 0))) (h2 : wc.grownBy w5 (some bx))
    (ho : w5.ownsRow wc.heap.size 85 2 (.slice pe2 (j + 1) ce2) (j + 1) (cells2 eF eG ((g.edges.take (j + 1)).map swapE))) :
    TInv wc g bx gp gc (j + 1) pe2 ce2 (w5.setCell ⟨bx, 1, none⟩ (.slice pe2 (j + 1) ce2)) :=
  ⟨box4_set1 h1 _, ho.kept (grown_set _ _ _) (.inr fun e => by have := (ho.lt bx e).1; omega), h2.trans (grown_set _ _ _)⟩
theorem take_swap {es : List E2} {j : Nat} (h : j < es.length) : (es.take (j + 1)).map swapE = (es.take j).map swapE ++ [swapE (es.getD j (0, 0))] := by
  rw [List.take_succ_eq_append_getElem h, List.map_append, List.getD_eq_getElem?_getD, List.getElem?_eq_getElem h]; rfl
set_option maxHeartbeats 4000000 in
set_option maxRecDepth 100000 in
theorem Turn_ok (v : Value) (g : GD) (w : World) (h : GrAt w v g) : Calls Tryz.prog 29 #[v] w (TurnPost w g) := by
  have hGr := h
  obtain ⟨p, n, c, q, m, d, rfl, hN, hE⟩ := h.at_
  have hln := hN.at_.len
  have hlm := hE.len
  subst hln hlm
  have hbn := hN.at_.big
  have hbm := hE.big
  obtain ⟨W, hW⟩ : ∃ W, W = (w.alloc (.cells #[.slice p g.names.length c, .slice q g.edges.length d, .int .u64 (un g.phony : Int), .int .u64 (un g.made : Int)] 26)).alloc (.cells #[.slice none 0 0, .slice none 0 0, .int .u64 0, .int .u64 0] 26) := ⟨_, rfl⟩
  have hBW : Below w.heap.size w W := by rw [hW]; exact ((Below.refl _ _).alloc (Nat.le_refl _) _).alloc (by simp) _
  have HS : Hid (W.heap.size = w.heap.size + 2) := by show _ = _; rw [hW]; simp
  have HC : Hid (∀ u : World, Below W.heap.size W u → u.heap[w.heap.size]? = some (.cells #[.slice p g.names.length c, .slice q g.edges.length d, .int .u64 (un g.phony : Int), .int .u64 (un g.made : Int)] 26 (0, 0)) ∧ u.heap[w.heap.size + 1]? = some (.cells #[.slice none 0 0, .slice none 0 0, .int .u64 0, .int .u64 0] 26 (0, 0))) := by
    show ∀ u : World, _ → _
    intro u hu
    have hs := HS.out
    rw [hu.block _ (by omega), hu.block _ (by omega), hW]
    exact ⟨by rw [hao _ _ _ (by simp), han], han2 _ _ _⟩
  have HN := Lib.hid (hN.below hBW)
  have HE := Lib.hid (hE.below hBW)
  have HGr := Lib.hid (hGr.below hBW)
  have HFIN : Hid (∀ u, Below W.heap.size W u → Below w.heap.size w u) := by show ∀ u, _; exact fun u hu => hBW.trans (hu.mono (by have := HS.out; omega))
  obtain ⟨hb0, hb1⟩ := HC.out W (Below.refl _ _)
  obtain ⟨k0, k1, k2, k3, _⟩ := box4 hb0
  rw [hW] at k0 k1 k2 k3
  clear hN hE hBW h hGr hb0 hb1
  go_enter Tryz.func29, Tryz.ntmps29
  go_wp2_with fail
  rw [← hW]
  clear hW k0 k1 k2 k3
  refine (CheckG2_ok _ g W HGr.out).mono ?_
  rintro e w2 ⟨⟨E, rfl, hcase⟩, hb2⟩
  have HB2 := Lib.hid hb2
  obtain ⟨hb0, hb1⟩ := HC.out w2 hb2
  obtain ⟨k0, k1, k2, k3, _⟩ := box4 hb0
  obtain ⟨l0, l1, l2, l3, l4⟩ := box4 hb1
  clear hb2
  rcases hcase with ⟨rfl, hG⟩ | ⟨hE0, hG⟩
  · have HG := Lib.hid hG
    have HB := Lib.hid hb0
    have HB1 := Lib.hid hb1
    clear hG hb0 hb1
    have HSS : Hid (∀ u : World, Below W.heap.size W u → u.cell? ⟨w.heap.size, 0, none⟩ = some (.slice p g.names.length c) ∧ u.cell? ⟨w.heap.size, 2, none⟩ = some (.int .u64 (un g.phony : Int)) ∧ u.cell? ⟨w.heap.size, 3, none⟩ = some (.int .u64 (un g.made : Int))) := by
      show ∀ u : World, _ → _
      intro u hu
      obtain ⟨q0, _, q2, q3, _⟩ := box4 (HC.out u hu).1
      exact ⟨q0, q2, q3⟩
    have HCl : Hid (∀ u : World, Below W.heap.size W u → Calls Tryz.prog 49 #[.slice p g.names.length c] u fun e w' => ∃ (gp : Option Addr) (gc : Nat), e = .returned (.slice gp g.names.length gc) ∧ Hid (w'.ownsRow u.heap.size 9 1 (.slice gp g.names.length gc) g.names.length (strsV g.names)) ∧ Hid (Below u.heap.size u w') ∧ Hid (Below W.heap.size W w')) := by
      show ∀ u : World, _
      intro u hu
      refine (CloneS_ok p _ c g.names u (HN.out.below hu)).mono ?_
      rintro e w' ⟨gp, gc, h1, h2, h3⟩
      exact ⟨gp, gc, h1, h2, h3, hu.trans (h3.mono hu.size)⟩
    go_upto_region 5 with fail
    go_cut [5] (fun out wx => ∃ (bx : Nat) (gp : Option Addr) (gc : Nat), out = .pointer (some ⟨bx, 0, none⟩) ∧ Hid (CutT W g bx gp gc wx))
    case first =>
      go_wp2_with fail
      go_region_held3 (fun u : World => u.cell? ⟨w.heap.size, 0, none⟩ = some (.slice p g.names.length c) ∧ u.cell? ⟨w.heap.size, 2, none⟩ = some (.int .u64 (un g.phony : Int)) ∧ u.cell? ⟨w.heap.size, 3, none⟩ = some (.int .u64 (un g.made : Int)))
        (first | exact HSS.out _ HB2.out.drew | exact HSS.out _ HB3.out | exact HSS.out _ (HB2.out.drew.alloc HB2.out.size _) | exact HSS.out _ (HB3.out.alloc HB3.out.size _) | exact HSS.out _ (below_set4 HB3.out HB2.out.size _ _ _ _))
        (first | (go_at_call 49; refine (HCl.out _ HB2.out.drew).mono ?_; rintro e w3 ⟨gp, gc, rfl, HO3, HB23, HB3⟩) | (go_at_call 49; refine (HCl.out _ (HB2.out.drew.alloc HB2.out.size _)).mono ?_; rintro e w3 ⟨gp, gc, rfl, HO3, HB23, HB3⟩; have hbx := (HB23.out.block w2.heap.size (by simp)).trans (han _ _); obtain ⟨z0, z1, z2, z3, z4⟩ := box4 hbx; have HBX := Lib.hid hbx; have z5 := z4 0; have z6 := z4 1; have z7 := z4 2; have z8 := z4 3; clear hbx z4))
      all_goals
        go_wp2_with fail
        go_meet
        first
          | exact ⟨_, gp, gc, rfl, cutT_a HB2.out HO3.out HB3.out⟩
          | exact ⟨_, gp, gc, rfl, cutT_b HB2.out (Nat.lt_of_lt_of_le (Nat.lt_succ_self _) (Nat.le_of_eq (by simp))) (Nat.lt_of_lt_of_le (Nat.lt_of_lt_of_le (Nat.lt_succ_self _) (Nat.le_of_eq (by simp))) HB23.out.size) HO3.out HB3.out HBX.out⟩
    case rest =>
      obtain ⟨bx, gp, gc, rfl, HCut⟩ := hcut
      clear k0 k1 k2 k3 l0 l1 l2 l3 l4 HB HB1 HB2 HCl
      have hk := box4 (HC.out wc HCut.out.below).1
      obtain ⟨k0, k1, k2, k3, _⟩ := hk
      go_wp2_with fail
      go_loopg [25] g.edges.length (fun k i wr => ∃ (j : Nat) (pe : Option Addr) (ce : Nat), k + j = g.edges.length ∧ i = .int .i64 j ∧ Hid (TInv wc g bx gp gc j pe ce wr))
      case atStart => exact ⟨0, none, 0, by omega, rfl, show TInv _ _ _ _ _ _ _ _ _ from ⟨HCut.out.box, World.ownsRow_nil _ _ _ _, ⟨rfl, rfl, rfl, Nat.le_refl _, fun _ _ _ => rfl⟩⟩⟩
      case round =>
        obtain ⟨j, pe, ce, hj, rfl, HI⟩ := hrel
        have HBr : Hid (Below W.heap.size W wr) := by show Below _ _ _; exact HCut.out.below.grown HI.out.grow HCut.out.below.size (fun k hk => by cases hk; exact HCut.out.ge)
        by_cases hlt : j < g.edges.length
        · obtain ⟨b, o, rfl, hbb, hca, hcb⟩ := (HE.out.below HBr.out).cell (getD_some (0, 0) hlt)
          have HTS := Lib.hid (take_swap hlt)
          generalize g.edges.getD j (0, 0) = y at *
          obtain ⟨y1, y2⟩ := y
          simp only [eF, eG] at hca hcb
          have hca2 : wr.cell? ⟨b, o + j * 2 + 1, none⟩ = some (.int .i64 y2) := hcb
          obtain ⟨X, hX⟩ : ∃ X : World, X = wr.alloc (.cells #[.int .i64 y1, .int .i64 y2] 85) := ⟨_, rfl⟩
          have HIX : Hid (TInv wc g bx gp gc j pe ce X) := by show TInv _ _ _ _ _ _ _ _ _; rw [hX]; exact HI.out.alloc _
          have d1 : X.cell? ⟨wr.heap.size, 0, none⟩ = some (.int .i64 y1) := by rw [hX, World.cell?_alloc_at _ _ _ _ rfl]; rfl
          have d2 : X.cell? ⟨wr.heap.size, 1, none⟩ = some (.int .i64 y2) := by rw [hX, World.cell?_alloc_at _ _ _ _ rfl]; rfl
          clear k0 k1 k2 k3 hcb
          go_upto_region 8 with fail
          rw [← hX]
          clear hX hca hca2
          obtain ⟨b0, b1, b2, b3, _⟩ := box4 HIX.out.box
          have HOX := Lib.hid HIX.out.own
          have hsz : wc.heap.size ≤ X.heap.size := HIX.out.grow.size
          have hbxl := HCut.out.lt
          go_wp2_with (at_builtin; refine app_edge _ rfl _ _ rfl wc.heap.size _ j _ rfl (HOX.out.alloc _) X.heap.size (y2, y1) rfl (by rw [World.cell?_alloc_at _ _ _ _ rfl]; rfl) (by rw [World.cell?_alloc_at _ _ _ _ rfl]; rfl) (by omega) ?c2 ?_; rotate_right; intro v' w5 hown5 hgrow5; obtain ⟨pe2, ce2, rfl, _⟩ := own_formT hown5; have h5 := (HIX.out.alloc _).app hbxl hgrow5; have HO5 := Lib.hid hown5; obtain ⟨e0, e1, e2, e3, e4⟩ := box4 h5.1; have e5 := e4 1; have H5 := Lib.hid h5; clear h5 hown5 hgrow5 e4)
          case c2 => simp; omega
          go_roundg (g.edges.length - (j + 1))
          case measure => omega
          case rel => exact ⟨j + 1, pe2, ce2, by omega, by go_num, TInv.set hbxl H5.out.1 H5.out.2 (by rw [HTS.out]; exact HO5.out)⟩
        · obtain rfl : j = g.edges.length := by omega
          have hbb := HI.out.box
          obtain ⟨b0, b1, b2, b3, _⟩ := box4 hbb
          have ho := HI.out.own
          rw [List.take_length] at ho
          have HSo := Lib.hid (sortE_ok wc.heap.size pe _ ce (g.edges.map swapE) wr ho hbm)
          have HBB := Lib.hid hbb
          clear hbb ho k0 k1 k2 k3 hlt
          go_wp2_with (go_at_call 50; refine HSo.out.mono ?_; rintro e w6 ⟨rfl, ts, hp, hs, ho6, hg6⟩; have HTO := Lib.hid (turn_of HG.out.erise hp hs); have HLE := Lib.hid hp.length_eq; have HO6 := Lib.hid ho6; have HG6 := Lib.hid hg6; have hb6 := (hg6.block bx (Array.getElem?_eq_some_iff.1 HBB.out).1 (fun e => by have := (HI.out.own.lt bx e.symm).1; have := HCut.out.lt; omega)).trans HBB.out; obtain ⟨f0, f1, f2, f3, _⟩ := box4 hb6; have HB6 := Lib.hid hb6; have hw6 : Below W.heap.size W w6 := HBr.out.grown hg6 HBr.out.size (fun k hk => Nat.le_trans HCut.out.below.size (HI.out.own.lt k hk).1); have hz6 := (HC.out w6 hw6).2; obtain ⟨l0, l1, l2, l3, l4⟩ := box4 hz6; have l5 := l4 0; have l6 := l4 1; have l7 := l4 2; have l8 := l4 3; have HZ6 := Lib.hid hz6; have HW6 := Lib.hid hw6; clear hp hs ho6 hg6 hb6 hw6 hz6 l4)
          refine bodyPost_ret (v := .tuple #[.agg #[.slice gp g.names.length gc, .slice pe g.edges.length ce, .int .u64 (un g.phony : Int), .int .u64 (un g.made : Int)], .int .i64 0]) (results_ct Tryz.results29 _ _ (w.heap.size + 1) 26 _ (0, 0) _ _ rfl rfl (box4_all HZ6.out _ _ _ _) Tryz.underlying26 rfl (by kernel_rfl)) rfl ⟨.inl ⟨HG.out, gp, pe, gc, ce, ts, HTO.out, ?hl, rfl, ?hn, ?he⟩, below_set4 (HFIN.out _ HW6.out) (by omega) _ _ _ _⟩
          case hl => rw [HLE.out, List.length_map]
          case hn =>
            have hle : w.heap.size + 2 ≤ W.heap.size := by rw [HS.out]; exact Nat.le_refl _
            have hne : (Value.slice gp g.names.length gc).ownBlock ≠ some (w.heap.size + 1) := fun e => by have := (HCut.out.own.lt _ e).1; omega
            have h0 := HCut.out.own
            have h1 := h0.kept HI.out.grow (.inr HCut.out.ne)
            have h2 := h1.kept HG6.out (by
              cases hq : (Value.slice gp g.names.length gc).ownBlock with
              | none => exact .inl rfl
              | some k =>
                refine .inr fun e => ?_
                have h3 := (HI.out.own.lt k e.symm).1
                have h4 := (h0.lt k hq).2
                omega)
            exact (World.ownsRow.mono h2 (by omega)).kept (grown_set4 _ _ _ _ _ _) (.inr hne)
          case he =>
            have hle : w.heap.size + 2 ≤ W.heap.size := by rw [HS.out]; exact Nat.le_refl _
            have hws := HCut.out.below.size
            have hne : (Value.slice pe g.edges.length ce).ownBlock ≠ some (w.heap.size + 1) := fun e => by have := (HO6.out.lt _ e).1; omega
            exact (World.ownsRow.mono HO6.out (by omega)).kept (grown_set4 _ _ _ _ _ _) (.inr hne)
  · have HG := Lib.hid hG
    obtain ⟨i1, i2⟩ := int_ne' hE0
    have HBL := Lib.hid hb1
    clear hG hb0 hb1
    have L4 := Lib.hid l4
    have l5 := L4.out 0
    have l6 := L4.out 1
    have l7 := L4.out 2
    have l8 := L4.out 3
    clear l4
    go_wp2
    refine bodyPost_ret (v := .tuple #[.agg #[.slice none 0 0, .slice none 0 0, .int .u64 0, .int .u64 0], .int .i64 E]) (results_ct Tryz.results29 _ _ (w.heap.size + 1) 26 _ (0, 0) _ _ rfl rfl ?hp Tryz.underlying26 rfl (by kernel_rfl)) rfl ⟨.inr ⟨HG.out, E, hE0, rfl⟩, ?hb⟩
    case hp => exact box4_all HBL.out _ _ _ _
    case hb => exact below_set4 (HFIN.out _ HB2.out) (by omega) _ _ _ _
end Go.Proofs.YteefncohknclcaaGreatDoor
namespace Go.Proofs.YteefncohknclcaaGreatDoor
open Go.RowKit Go.Shelf
/-- the empty graph -/
def G00 : GD := ⟨[], [], 0#64, 0#64⟩
theorem grat_zero (w : World) : GrAt w (.agg #[.slice none 0 0, .slice none 0 0, .int .u64 0, .int .u64 0]) G00 :=
  ⟨none, 0, 0, none, 0, 0, rfl, ⟨⟨rfl, Reads.none_, fun s hs => (by cases hs), by omega⟩, fun _ => rfl, fun ad h => (by cases h), by omega⟩, ⟨rfl, fun h => absurd h (by omega), by omega⟩⟩
theorem good_sizes {g : GD} (hG : Good g) : ∀ s ∈ g.names, s.size ≤ 4611686018427387904 := fun s hs => by
  have h1 := (okN_mem rfl).1 hG.ok s hs
  have h2 := nameE_size h1
  omega
/-- a graph of a call's own, as it can be read -/
theorem grat_own {w : World} {b1 b2 n m : Nat} {g : GD} {p q : Option Addr} {c d : Nat} (hG : Good g) (hb : m ≤ 8796093022208)
    (ho : w.ownsRow b1 9 1 (.slice p n c) n (strsV g.names)) (he : w.ownsRow b2 85 2 (.slice q m d) m (cells2 eF eG g.edges)) :
    GrAt w (.agg #[.slice p n c, .slice q m d, .int .u64 (un g.phony : Int), .int .u64 (un g.made : Int)]) g := by
  have hl : g.names.length = n := by have := ho.1; simpa [strsV] using this
  have h64 := hG.names
  exact ⟨p, _, c, q, _, d, rfl, NL_own ho (good_sizes hG) (by omega), P2At.own he hb⟩
end Go.Proofs.YteefncohknclcaaGreatDoor
namespace Go.Proofs.YteefncohknclcaaGreatDoor
open Go.RowKit
set_option maxHeartbeats 1000000 in
theorem equal_same (p q : Option Addr) (n c d : Nat) (r : List B) (w : World) (hP : RowsAt w p n r) (hQ : RowsAt w q n r) :
    Calls Tryz.prog 30 #[.slice p n c, .slice q n d] w fun e w' => e = .returned (.bool true) ∧ ∃ k, w' = w.drewN k := by
  have hbig := hP.big
  unfold maxLen at hbig
  go_enter Tryz.func30, Tryz.ntmps30
  go_wp2
  go_loopw [13] (fun i wr => ∃ k : Nat, k ≤ n ∧ i = .int .i64 k ∧ Hid (∃ m, wr = w.drewN m)) (fun i _ => n - (intOf i).toNat)
  case atStart => exact ⟨0, Nat.zero_le _, rfl, show ∃ m, w = w.drewN m from ⟨0, rfl⟩⟩
  case round =>
    obtain ⟨k, hk, rfl, HW⟩ := hrel
    by_cases hlt : k < n
    · obtain ⟨ad, rfl, _, hc⟩ := hP.cell hlt
      obtain ⟨ae, rfl, _, hd⟩ := hQ.cell hlt
      have hc' : wr.cell? (ad.add k) = some (.int .u64 (un (row r k) : Int)) := by obtain ⟨m, hm⟩ := HW.out; rw [hm]; exact hc
      have hd' : wr.cell? (ae.add k) = some (.int .u64 (un (row r k) : Int)) := by obtain ⟨m, hm⟩ := HW.out; rw [hm]; exact hd
      clear hc hd hP hQ
      generalize row r k = x at *
      have s3 : 0 ≤ (k : Int) := by omega
      have s4 : (k : Int) < n := by omega
      go_wp2
      go_quiet (fail)
      go_wp2
      go_roundw
      case rel => exact ⟨k + 1, by omega, by go_num, by
        obtain ⟨m, hm⟩ := HW.out
        exact ⟨_, by rw [hm, World.drewN_drewN]⟩⟩
      case measure => simp [intOf]; omega
    · obtain rfl : k = n := by omega
      go_wp2
      go_ret
      exact ⟨rfl, HW.out⟩
theorem reach_turn {r : List B} (hv : Valid r) {a b : Nat} (ha : a < r.length) (hb : b < r.length) : has (cls r (1#64 <<< a)) b = has (cls (bk r) (1#64 <<< b)) a := by
  have h64 := hv.1
  have h1 := has_cls_one (r := r) (a := a) (b := b) (by omega)
  have h2 := has_cls_one (r := bk r) (a := b) (b := a) (by omega)
  rw [rch_bk hv] at h2
  cases hx : has (cls r (1#64 <<< a)) b <;> cases hy : has (cls (bk r) (1#64 <<< b)) a
  · rfl
  · exact absurd (h1.2 (h2.1 hy)) (by rw [hx]; simp)
  · exact absurd (h2.2 (h1.1 hx)) (by rw [hy]; simp)
  · rfl
end Go.Proofs.YteefncohknclcaaGreatDoor
namespace Go.Proofs.YteefncohknclcaaGreatDoor
open Go.RowKit Go.Shelf
/-- an ask of one whose list was laid -/
theorem one_laidT (u0 : World) (k : Int) (n : Int) (x : QT) (hx : QIn u0 x) (u : World) (hu : Below (u0.alloc (.cells #[.int .i64 x.kind, .string x.name, .int .i64 x.num, .slice x.p x.xs.length x.cap] 29)).heap.size (u0.alloc (.cells #[.int .i64 x.kind, .string x.name, .int .i64 x.num, .slice x.p x.xs.length x.cap] 29)) u) : QIn u (.mk k ⟨#[]⟩ n (some ⟨u0.heap.size, 0, none⟩) 1 [x]) := by
  have h := qs_list u0 [x] (List.forall_mem_cons.2 ⟨hx, fun _ h => nomatch h⟩)
  have h2 : QIn (u0.alloc (.cells #[.int .i64 x.kind, .string x.name, .int .i64 x.num, .slice x.p x.xs.length x.cap] 29)) (.mk k ⟨#[]⟩ n (some ⟨u0.heap.size, 0, none⟩) 1 [x]) := QIn.of (by show 0 ≤ _; omega) (by show 1 ≤ 1; omega) (by show 1 ≤ _; omega) h
  exact h2.below hu
/-- two asks laid behind a cell -/
theorem pair_laidT (u0 : World) (t m : QT) (X : Obj) (h1 : QIn (u0.alloc X) t) (h2 : QIn (u0.alloc X) m) : QsIn ((u0.alloc X).alloc (.cells (asksC [t, m]).toArray 29)) (some ⟨u0.heap.size + 1, 0, none⟩) 0 [t, m] := by
  have h := qs_list (u0.alloc X) [t, m] (List.forall_mem_cons.2 ⟨h1, List.forall_mem_cons.2 ⟨h2, fun _ h => nomatch h⟩⟩)
  have es : (u0.alloc X).heap.size = u0.heap.size + 1 := by simp
  rw [es] at h
  exact h
/-- what evals of two asks comes to -/
def PairRes (g : GD) (a b : QA) (n : Nat) (r : List B) (ok : Bool) : Prop :=
  (ok = true ∧ (Qev g a ∧ Qev g b) ∧ n = 2 ∧ r = [qval g a [], qval g b []]) ∨ (ok = false ∧ ¬ (Qev g a ∧ Qev g b) ∧ n = 0 ∧ r = [])
theorem pair_res {g : GD} {t m : QT} {a b : QA} {w w' : World} {e : Ending} (ht : qabs t = a) (hm : qabs m = b) (h : EvalsPost g [t, m] w e w') :
    ∃ (q : Option Addr) (n c : Nat) (ok : Bool) (r : List B), e = .returned (.tuple #[.slice q n c, .bool ok]) ∧ RowsAt w' q n r ∧ PairRes g a b n r ok ∧ Below w.heap.size w w' := by
  subst ht hm
  obtain ⟨h1, h2⟩ := h
  rcases h1 with ⟨h3, q, c, rfl, h4⟩ | ⟨h3, rfl⟩
  · exact ⟨q, 2, c, true, [qval g (qabs t) [], qval g (qabs m) []], rfl, rows_own h4 rfl (by decide), .inl ⟨rfl, ⟨h3 t (by simp), h3 m (by simp)⟩, rfl, rfl⟩, h2⟩
  · exact ⟨none, 0, 0, false, [], rfl, ⟨Reads.none_, rfl, by decide⟩, .inr ⟨rfl, fun h => h3 (List.forall_mem_cons.2 ⟨h.1, List.forall_mem_cons.2 ⟨h.2, fun _ h => nomatch h⟩⟩), rfl, rfl⟩, h2⟩
theorem pair_same {g g2 : GD} {a b a2 b2 : QA} {n n2 : Nat} {r r2 : List B} {ok ok2 : Bool} (h8 : Qev g a ↔ Qev g2 a2) (h10 : Qev g b ↔ Qev g2 b2) (hv : Qev g a → qval g2 a2 [] = qval g a [] ∧ qval g2 b2 [] = qval g b [])
    (h1 : PairRes g a b n r ok) (h2 : PairRes g2 a2 b2 n2 r2 ok2) : n2 = n ∧ r2 = r ∧ ok2 = ok := by
  rcases h1 with ⟨rfl, hq, rfl, rfl⟩ | ⟨rfl, hq, rfl, rfl⟩ <;> rcases h2 with ⟨rfl, hq2, rfl, rfl⟩ | ⟨rfl, hq2, rfl, rfl⟩
  · obtain ⟨e1, e2⟩ := hv hq.1
    exact ⟨rfl, by rw [e1, e2], rfl⟩
  · exact absurd ⟨h8.1 hq.1, h10.1 hq.2⟩ hq2
  · exact absurd ⟨h8.2 hq2.1, h10.2 hq2.2⟩ hq
  · exact ⟨rfl, rfl, rfl⟩
set_option maxHeartbeats 8000000 in
set_option maxRecDepth 100000 in
theorem evalTurn_ok (g : GD) (v : Value) (x : QT) (k : Int) (w : World) (hG : GrAt w v g) (hX : QIn w x) (hT : EvTabs w) (hcx : qcnt (qabs x) ≤ 1048576) :
    Calls Tryz.prog 9 #[v, x.v, .int .i64 k] w fun e w' => e = .returned (.bool true) ∧ Below w.heap.size w w' := by
  obtain ⟨p, n, c, qe, m, d, hv, hN, hE⟩ := hG.at_
  have hln := hN.at_.len
  have hme := hE.big
  have hlm := hE.len
  obtain ⟨W, hW, hBW, hS, hC⟩ := argGA w (.slice p n c) (.slice qe m d) (.int .u64 (un g.phony : Int)) (.int .u64 (un g.made : Int)) (.int .i64 x.kind) (.string x.name) (.int .i64 x.num) (.slice x.p x.xs.length x.cap)
  have HC := Lib.hid hC
  have HBW := Lib.hid hBW
  have HME : Hid (g.edges.length ≤ 8796093022208) := by show _ ≤ _; rw [hlm]; exact hme
  have HIN : Hid (∀ u : World, Below W.heap.size W u → QIn u x ∧ EvTabs u) := by
    show ∀ u : World, _
    exact fun u hu => ⟨hX.below (hBW.trans (hu.mono hBW.size)), hT.below (hBW.trans (hu.mono hBW.size))⟩
  have HEVS : Hid (∀ (g2 : GD) (v2 : Value) (l : List QT) (q : Option Addr) (cc : Nat) (u : World), Below W.heap.size W u → GrAt u v2 g2 → QsIn u q 0 l → (∀ t ∈ l, qcnt (qabs t) ≤ 1099511627776) → l.length ≤ 100 → Calls Tryz.prog 24 #[v2, .slice q l.length cc] u (EvalsPost g2 l u)) := by
    show ∀ (g2 : GD) (v2 : Value) (l : List QT) (q : Option Addr) (cc : Nat) (u : World), _
    exact fun g2 v2 l q cc u hu hg hl hc h100 => evals_ok g2 v2 q cc l u hg hl (HIN.out u hu).2 hc h100
  have HGR : Hid (∀ u : World, Below W.heap.size W u → GrAt u v g) := by
    show ∀ u : World, _
    exact fun u hu => hG.below (hBW.trans (hu.mono hBW.size))
  have HTU : Hid (∀ u : World, Below W.heap.size W u → Calls Tryz.prog 29 #[v] u (TurnPost u g)) := by
    show ∀ u : World, _
    exact fun u hu => Turn_ok v g u (HGR.out u hu)
  have HON : Hid (∀ (k : Int) (a : QT) (u : World), QIn u a → Calls Tryz.prog 26 #[.int .i64 k, a.v] u (OnePost k a u)) := by
    show ∀ (k : Int) (a : QT) (u : World), _
    exact fun k a u ha => oneL_ok k a u ha
  have HAN := Lib.hid (answers_ok W (HIN.out W (Below.refl _ _)).2)
  have HKx := Lib.hid hcx
  unfold TurnPost at HTU
  unfold OnePost at HON
  rw [hv] at HGR HTU ⊢
  show Calls Tryz.prog 9 #[.agg #[.slice p n c, .slice qe m d, .int .u64 (un g.phony : Int), .int .u64 (un g.made : Int)], .agg #[.int .i64 x.kind, .string x.name, .int .i64 x.num, .slice x.p x.xs.length x.cap], .int .i64 k] w _
  obtain ⟨⟨g0, g1, g2, g3⟩, k0, k1, k2, k3⟩ := HC.out W (Below.refl _ _)
  clear hG hX hT hcx hv hN hE hBW hC hln hme hlm hS
  go_enter Tryz.func9, Tryz.ntmps9
  go_upto_region 1 with fail
  rw [← hW]
  clear hW
  go_upto_region 3 with (go_at_call 23; refine HAN.out.mono ?_; rintro e w1 ⟨rfl, hb⟩; have HB1 := Lib.hid hb; obtain ⟨⟨u0, u1, u2, u3⟩, _⟩ := HC.out w1 hb; clear hb)
  clear g0 g1 g2 g3 k0 k1 k2 k3
  by_cases hgd : Good g
  · have HGD := Lib.hid hgd
    clear hgd
    go_upto_region 4 with (go_at_call 29; refine (HTU.out w1 HB1.out).mono ?_; rintro e w2 ⟨hF, hb⟩; obtain ⟨pt, qt, ct, dt, ts, hto, htl, rfl, ho1, ho2⟩ := (hF.resolve_right (fun h => h.1 HGD.out)).2; have HTO := Lib.hid hto; have HO1 := Lib.hid ho1; have HO2 := Lib.hid ho2; have HTL := Lib.hid htl; have HB2 := Lib.hid (HB1.out.trans (hb.mono HB1.out.size)); clear hb hF hto ho1 ho2 htl)
    clear u0 u1 u2 u3
    have HGT : Hid (∀ u : World, Below w2.heap.size w2 u → GrAt u (.agg #[.slice pt g.names.length ct, .slice qt g.edges.length dt, .int .u64 (un g.phony : Int), .int .u64 (un g.made : Int)]) (tG g ts)) := by
      show ∀ u : World, _
      intro u hu
      exact (grat_own (g := tG g ts) (good_turn HGD.out HTO.out) HME.out HO1.out HO2.out).below hu
    obtain ⟨V, hV⟩ : ∃ V, V = w2.alloc (.cells #[.slice pt g.names.length ct, .slice qt g.edges.length dt, .int .u64 (un g.phony : Int), .int .u64 (un g.made : Int)] 26) := ⟨_, rfl⟩
    have hbv : Below w2.heap.size w2 V := by rw [hV]; exact (Below.refl _ _).alloc (Nat.le_refl _) _
    have hsv : V.heap.size = w2.heap.size + 1 := by rw [hV]; simp
    have HBV := Lib.hid (HB2.out.trans (hbv.mono HB2.out.size))
    have HV2 := Lib.hid hbv
    have HTC : Hid (∀ u : World, Below V.heap.size V u → u.cell? ⟨w2.heap.size, 0, none⟩ = some (.slice pt g.names.length ct) ∧ u.cell? ⟨w2.heap.size, 1, none⟩ = some (.slice qt g.edges.length dt) ∧ u.cell? ⟨w2.heap.size, 2, none⟩ = some (.int .u64 (un g.phony : Int)) ∧ u.cell? ⟨w2.heap.size, 3, none⟩ = some (.int .u64 (un g.made : Int))) := by
      show ∀ u : World, _
      intro u hu
      have hc : ∀ o, u.cell? ⟨w2.heap.size, o, none⟩ = V.cell? ⟨w2.heap.size, o, none⟩ := fun o => hu.cell (p := ⟨w2.heap.size, o, none⟩) (by show w2.heap.size < _; omega)
      rw [hc, hc, hc, hc, hV]
      refine ⟨?_, ?_, ?_, ?_⟩ <;> (rw [World.cell?_alloc_at _ _ _ _ rfl]; rfl)
    rw [← hV]
    clear hV hbv hsv HO1 HO2
    obtain ⟨_, b0, _, _, _⟩ := HC.out V HBV.out
    by_cases hk1 : x.kind = 1
    · have e1 : (x.kind == 1) = true := by rw [beq_iff_eq]; exact hk1
      have e2 : (x.kind != 1) = false := by simp [bne, e1]
      have HKK : Hid ((qabs x).kind = 1) := by show _ = _; cases x; exact hk1
      clear hk1
      by_cases hn0 : k < 0
      · go_wp2_with fail
        go_ret
        exact ⟨rfl, HBW.out.trans (HBV.out.mono HBW.out.size)⟩
      by_cases hn1 : 100 < k
      · go_wp2_with fail
        go_ret
        exact ⟨rfl, HBW.out.trans (HBV.out.mono HBW.out.size)⟩
      have hn0 : 0 ≤ k := by omega
      have hn1 : k ≤ 100 := by omega
      obtain ⟨j1, j2⟩ := turn_qev HGD.out HTO.out (X := qabs x) hn0 hn1
      have HJ1 := Lib.hid j1
      have HJ2 := Lib.hid j2
      have n0 : ¬ k < 0 := by omega
      have n1 : ¬ 100 < k := by omega
      clear j1 j2
      go_upto_region 6 with fail
      clear b0 e1 e2 hn0 hn1 n0 n1
      have HSS : Hid (∀ u : World, Below V.heap.size V u → (u.cell? ⟨w.heap.size, 0, none⟩ = some (.slice p n c) ∧ u.cell? ⟨w.heap.size, 1, none⟩ = some (.slice qe m d) ∧ u.cell? ⟨w.heap.size, 2, none⟩ = some (.int .u64 (un g.phony : Int)) ∧ u.cell? ⟨w.heap.size, 3, none⟩ = some (.int .u64 (un g.made : Int))) ∧ (u.cell? ⟨w.heap.size + 1, 0, none⟩ = some (.int .i64 x.kind) ∧ u.cell? ⟨w.heap.size + 1, 1, none⟩ = some (.string x.name) ∧ u.cell? ⟨w.heap.size + 1, 2, none⟩ = some (.int .i64 x.num) ∧ u.cell? ⟨w.heap.size + 1, 3, none⟩ = some (.slice x.p x.xs.length x.cap)) ∧ (u.cell? ⟨w2.heap.size, 0, none⟩ = some (.slice pt g.names.length ct) ∧ u.cell? ⟨w2.heap.size, 1, none⟩ = some (.slice qt g.edges.length dt) ∧ u.cell? ⟨w2.heap.size, 2, none⟩ = some (.int .u64 (un g.phony : Int)) ∧ u.cell? ⟨w2.heap.size, 3, none⟩ = some (.int .u64 (un g.made : Int)))) := by
        show ∀ u : World, _
        intro u hu
        have h1 := HC.out u (HBV.out.trans (hu.mono HBV.out.size))
        exact ⟨h1.1, h1.2, HTC.out u hu⟩
      have HQX : Hid (∀ u : World, Below V.heap.size V u → QIn u x) := by
        show ∀ u : World, _
        exact fun u hu => (HIN.out u (HBV.out.trans (hu.mono HBV.out.size))).1
      have HGB : Hid (∀ u : World, Below V.heap.size V u → GrAt u (.agg #[.slice p n c, .slice qe m d, .int .u64 (un g.phony : Int), .int .u64 (un g.made : Int)]) g ∧ GrAt u (.agg #[.slice pt g.names.length ct, .slice qt g.edges.length dt, .int .u64 (un g.phony : Int), .int .u64 (un g.made : Int)]) (tG g ts)) := by
        show ∀ u : World, _
        exact fun u hu => ⟨HGR.out u (HBV.out.trans (hu.mono HBV.out.size)), HGT.out u (HV2.out.trans (hu.mono HV2.out.size))⟩
      have HM0 : Hid (Below V.heap.size V V.drew) := (Below.refl _ _).drew
      have HCM0 := Lib.hid HM0.out
      go_region_held3 (fun u : World => (u.cell? ⟨w.heap.size, 0, none⟩ = some (.slice p n c) ∧ u.cell? ⟨w.heap.size, 1, none⟩ = some (.slice qe m d) ∧ u.cell? ⟨w.heap.size, 2, none⟩ = some (.int .u64 (un g.phony : Int)) ∧ u.cell? ⟨w.heap.size, 3, none⟩ = some (.int .u64 (un g.made : Int))) ∧ (u.cell? ⟨w.heap.size + 1, 0, none⟩ = some (.int .i64 x.kind) ∧ u.cell? ⟨w.heap.size + 1, 1, none⟩ = some (.string x.name) ∧ u.cell? ⟨w.heap.size + 1, 2, none⟩ = some (.int .i64 x.num) ∧ u.cell? ⟨w.heap.size + 1, 3, none⟩ = some (.slice x.p x.xs.length x.cap)) ∧ (u.cell? ⟨w2.heap.size, 0, none⟩ = some (.slice pt g.names.length ct) ∧ u.cell? ⟨w2.heap.size, 1, none⟩ = some (.slice qt g.edges.length dt) ∧ u.cell? ⟨w2.heap.size, 2, none⟩ = some (.int .u64 (un g.phony : Int)) ∧ u.cell? ⟨w2.heap.size, 3, none⟩ = some (.int .u64 (un g.made : Int))))
        (first | exact HSS.out _ HB30.out | exact HSS.out _ HU0.out | exact HSS.out _ (HU0.out.alloc HU0.out.size _) | exact HSS.out _ ((HU0.out.alloc HU0.out.size _).alloc (HU0.out.alloc HU0.out.size _).size _) | exact HSS.out _ HCM0.out | exact HSS.out _ (HCM0.out.alloc HCM0.out.size _))
        (first
          | (have hb := HM0.out; clear HM0; go_at_call 26; refine (HON.out 8 x (V.drew) (HQX.out _ hb)).mono ?_; rintro e u0 ⟨t0, he, ht1, ht2, hb2⟩; obtain rfl : e = .returned (.agg #[.int .i64 t0.kind, .string t0.name, .int .i64 t0.num, .slice t0.p t0.xs.length t0.cap]) := he; have HA0 := Lib.hid ht1; have HK0 := Lib.hid (one_cnt ht1 HKx.out); have HI0 := Lib.hid ht2; have HU0 := Lib.hid (hb.trans (hb2.mono hb.size)); have HMA0 := Lib.hid HU0.out; clear hb hb2 ht1 ht2)
          | (have hb0 := HM0.out; clear HM0; have hb := hb0.alloc hb0.size (.cells #[.int .i64 x.kind, .string x.name, .int .i64 x.num, .slice x.p x.xs.length x.cap] 29); go_at_call 26; refine (HON.out 8 x ((V.drew).alloc (.cells #[.int .i64 x.kind, .string x.name, .int .i64 x.num, .slice x.p x.xs.length x.cap] 29)) (HQX.out _ hb)).mono ?_; rintro e u0 ⟨t0, he, ht1, ht2, hb2⟩; obtain rfl : e = .returned (.agg #[.int .i64 t0.kind, .string t0.name, .int .i64 t0.num, .slice t0.p t0.xs.length t0.cap]) := he; have HA0 := Lib.hid ht1; have HK0 := Lib.hid (one_cnt ht1 HKx.out); have HI0 := Lib.hid ht2; have HU0 := Lib.hid (hb.trans (hb2.mono hb.size)); have HQ0 := Lib.hid (one_laidT (V.drew) 10 k x (HQX.out _ hb0) u0 hb2); have HMB0 := Lib.hid HU0.out; clear hb hb0 hb2 ht1 ht2)
          | (have hb0 := HMA0.out; clear HMA0; go_at_call 24; have hq := pair_laidT u0 t0 (.mk 10 ⟨#[]⟩ k (some ⟨u0.heap.size, 0, none⟩) 1 [x] : QT) (.cells #[.int .i64 x.kind, .string x.name, .int .i64 x.num, .slice x.p x.xs.length x.cap] 29) (HI0.out.below ((Below.refl _ _).alloc (Nat.le_refl _) _)) (one_laidT u0 10 k x (HQX.out _ hb0) _ (Below.refl _ _)); have hb1 := hb0.alloc hb0.size (.cells #[.int .i64 x.kind, .string x.name, .int .i64 x.num, .slice x.p x.xs.length x.cap] 29); have hbx := fun o => hb1.alloc hb1.size o; refine (HEVS.out (g) (.agg #[.slice p n c, .slice qe m d, .int .u64 (un g.phony : Int), .int .u64 (un g.made : Int)]) [t0, (.mk 10 ⟨#[]⟩ k (some ⟨u0.heap.size, 0, none⟩) 1 [x] : QT)] _ _ _ (HBV.out.trans ((hbx _).mono HBV.out.size)) (HGB.out _ (hbx _)).1 hq (List.forall_mem_cons.2 ⟨Nat.le_trans HK0.out (by decide), List.forall_mem_cons.2 ⟨Nat.le_trans (one_cnt (t := (.mk 10 ⟨#[]⟩ k (some ⟨u0.heap.size, 0, none⟩) 1 [x] : QT)) (k := 10) (s := []) (n := k) rfl HKx.out) (by decide), fun _ h => nomatch h⟩⟩) (by decide : 2 ≤ 100)).mono ?_; clear hq; rintro e w30 hF; obtain ⟨q0, n0, c0, ok0, r0, rfl, hr, hp, hb2⟩ := pair_res (b := .mk 10 [] k [qabs x]) HA0.out rfl hF; have HR0 := Lib.hid hr; have HP0 := Lib.hid hp; have HB30 := Lib.hid ((hbx _).trans (hb2.mono (hbx _).size)); clear hbx hb1 hb0 hb2 hF hr hp)
          | (have hb0 := HMB0.out; clear HMB0; go_at_call 24; have hq := qs_list u0 [t0, (.mk 10 ⟨#[]⟩ k (some ⟨(V.drew).heap.size, 0, none⟩) 1 [x] : QT)] (List.forall_mem_cons.2 ⟨HI0.out, List.forall_mem_cons.2 ⟨HQ0.out, fun _ h => nomatch h⟩⟩); have hb1 := hb0; have hbx := fun o => hb1.alloc hb1.size o; refine (HEVS.out (g) (.agg #[.slice p n c, .slice qe m d, .int .u64 (un g.phony : Int), .int .u64 (un g.made : Int)]) [t0, (.mk 10 ⟨#[]⟩ k (some ⟨(V.drew).heap.size, 0, none⟩) 1 [x] : QT)] _ _ _ (HBV.out.trans ((hbx _).mono HBV.out.size)) (HGB.out _ (hbx _)).1 hq (List.forall_mem_cons.2 ⟨Nat.le_trans HK0.out (by decide), List.forall_mem_cons.2 ⟨Nat.le_trans (one_cnt (t := (.mk 10 ⟨#[]⟩ k (some ⟨(V.drew).heap.size, 0, none⟩) 1 [x] : QT)) (k := 10) (s := []) (n := k) rfl HKx.out) (by decide), fun _ h => nomatch h⟩⟩) (by decide : 2 ≤ 100)).mono ?_; clear hq; rintro e w30 hF; obtain ⟨q0, n0, c0, ok0, r0, rfl, hr, hp, hb2⟩ := pair_res (b := .mk 10 [] k [qabs x]) HA0.out rfl hF; have HR0 := Lib.hid hr; have HP0 := Lib.hid hp; have HB30 := Lib.hid ((hbx _).trans (hb2.mono (hbx _).size)); clear hbx hb1 hb0 hb2 hF hr hp))
      all_goals
        clear HK0 HI0 HU0 HCM0 HA0
        have HM1 : Hid (Below V.heap.size V w30.drew) := HB30.out.drew
        have HCM1 := Lib.hid HM1.out
        have HRR : Hid (RowsAt w30.drew q0 n0 r0) := HR0.out.drewN 1
        go_upto_region 7 with fail
        go_region_held3 (fun u : World => (u.cell? ⟨w.heap.size, 0, none⟩ = some (.slice p n c) ∧ u.cell? ⟨w.heap.size, 1, none⟩ = some (.slice qe m d) ∧ u.cell? ⟨w.heap.size, 2, none⟩ = some (.int .u64 (un g.phony : Int)) ∧ u.cell? ⟨w.heap.size, 3, none⟩ = some (.int .u64 (un g.made : Int))) ∧ (u.cell? ⟨w.heap.size + 1, 0, none⟩ = some (.int .i64 x.kind) ∧ u.cell? ⟨w.heap.size + 1, 1, none⟩ = some (.string x.name) ∧ u.cell? ⟨w.heap.size + 1, 2, none⟩ = some (.int .i64 x.num) ∧ u.cell? ⟨w.heap.size + 1, 3, none⟩ = some (.slice x.p x.xs.length x.cap)) ∧ (u.cell? ⟨w2.heap.size, 0, none⟩ = some (.slice pt g.names.length ct) ∧ u.cell? ⟨w2.heap.size, 1, none⟩ = some (.slice qt g.edges.length dt) ∧ u.cell? ⟨w2.heap.size, 2, none⟩ = some (.int .u64 (un g.phony : Int)) ∧ u.cell? ⟨w2.heap.size, 3, none⟩ = some (.int .u64 (un g.made : Int))))
          (first | exact HSS.out _ HB31.out | exact HSS.out _ HU1.out | exact HSS.out _ (HU1.out.alloc HU1.out.size _) | exact HSS.out _ ((HU1.out.alloc HU1.out.size _).alloc (HU1.out.alloc HU1.out.size _).size _) | exact HSS.out _ HCM1.out | exact HSS.out _ (HCM1.out.alloc HCM1.out.size _))
          (first
            | (have hb := HM1.out; clear HM1; go_at_call 26; refine (HON.out 9 x (w30.drew) (HQX.out _ hb)).mono ?_; rintro e u1 ⟨t1, he, ht1, ht2, hb2⟩; obtain rfl : e = .returned (.agg #[.int .i64 t1.kind, .string t1.name, .int .i64 t1.num, .slice t1.p t1.xs.length t1.cap]) := he; have HA1 := Lib.hid ht1; have HK1 := Lib.hid (one_cnt ht1 HKx.out); have HI1 := Lib.hid ht2; have HU1 := Lib.hid (hb.trans (hb2.mono hb.size)); have HJ := Lib.hid (HRR.out.below hb2); clear HRR; have HRR := Lib.hid HJ.out; clear HJ; have HMA1 := Lib.hid HU1.out; clear hb hb2 ht1 ht2)
            | (have hb0 := HM1.out; clear HM1; have hb := hb0.alloc hb0.size (.cells #[.int .i64 x.kind, .string x.name, .int .i64 x.num, .slice x.p x.xs.length x.cap] 29); go_at_call 26; refine (HON.out 9 x ((w30.drew).alloc (.cells #[.int .i64 x.kind, .string x.name, .int .i64 x.num, .slice x.p x.xs.length x.cap] 29)) (HQX.out _ hb)).mono ?_; rintro e u1 ⟨t1, he, ht1, ht2, hb2⟩; obtain rfl : e = .returned (.agg #[.int .i64 t1.kind, .string t1.name, .int .i64 t1.num, .slice t1.p t1.xs.length t1.cap]) := he; have HA1 := Lib.hid ht1; have HK1 := Lib.hid (one_cnt ht1 HKx.out); have HI1 := Lib.hid ht2; have HU1 := Lib.hid (hb.trans (hb2.mono hb.size)); have HJ := Lib.hid ((HRR.out.alloc (.cells #[.int .i64 x.kind, .string x.name, .int .i64 x.num, .slice x.p x.xs.length x.cap] 29)).below hb2); clear HRR; have HRR := Lib.hid HJ.out; clear HJ; have HQ1 := Lib.hid (one_laidT (w30.drew) 11 k x (HQX.out _ hb0) u1 hb2); have HMB1 := Lib.hid HU1.out; clear hb hb0 hb2 ht1 ht2)
            | (have hb0 := HMA1.out; clear HMA1; go_at_call 24; have hq := pair_laidT u1 t1 (.mk 11 ⟨#[]⟩ k (some ⟨u1.heap.size, 0, none⟩) 1 [x] : QT) (.cells #[.int .i64 x.kind, .string x.name, .int .i64 x.num, .slice x.p x.xs.length x.cap] 29) (HI1.out.below ((Below.refl _ _).alloc (Nat.le_refl _) _)) (one_laidT u1 11 k x (HQX.out _ hb0) _ (Below.refl _ _)); have hb1 := hb0.alloc hb0.size (.cells #[.int .i64 x.kind, .string x.name, .int .i64 x.num, .slice x.p x.xs.length x.cap] 29); have hbx := fun o => hb1.alloc hb1.size o; refine (HEVS.out (tG g ts) (.agg #[.slice pt g.names.length ct, .slice qt g.edges.length dt, .int .u64 (un g.phony : Int), .int .u64 (un g.made : Int)]) [t1, (.mk 11 ⟨#[]⟩ k (some ⟨u1.heap.size, 0, none⟩) 1 [x] : QT)] _ _ _ (HBV.out.trans ((hbx _).mono HBV.out.size)) (HGB.out _ (hbx _)).2 hq (List.forall_mem_cons.2 ⟨Nat.le_trans HK1.out (by decide), List.forall_mem_cons.2 ⟨Nat.le_trans (one_cnt (t := (.mk 11 ⟨#[]⟩ k (some ⟨u1.heap.size, 0, none⟩) 1 [x] : QT)) (k := 11) (s := []) (n := k) rfl HKx.out) (by decide), fun _ h => nomatch h⟩⟩) (by decide : 2 ≤ 100)).mono ?_; clear hq; rintro e w31 hF; obtain ⟨q1, n1, c1, ok1, r1, rfl, hr, hp, hb2⟩ := pair_res (b := .mk 11 [] k [qabs x]) HA1.out rfl hF; have HR1 := Lib.hid hr; have HP1 := Lib.hid hp; have HB31 := Lib.hid ((hbx _).trans (hb2.mono (hbx _).size)); have HJ := Lib.hid (((HRR.out.alloc (.cells #[.int .i64 x.kind, .string x.name, .int .i64 x.num, .slice x.p x.xs.length x.cap] 29)).alloc _).below hb2); clear HRR; have HRR := Lib.hid HJ.out; clear HJ; clear hbx hb1 hb0 hb2 hF hr hp)
            | (have hb0 := HMB1.out; clear HMB1; go_at_call 24; have hq := qs_list u1 [t1, (.mk 11 ⟨#[]⟩ k (some ⟨(w30.drew).heap.size, 0, none⟩) 1 [x] : QT)] (List.forall_mem_cons.2 ⟨HI1.out, List.forall_mem_cons.2 ⟨HQ1.out, fun _ h => nomatch h⟩⟩); have hb1 := hb0; have hbx := fun o => hb1.alloc hb1.size o; refine (HEVS.out (tG g ts) (.agg #[.slice pt g.names.length ct, .slice qt g.edges.length dt, .int .u64 (un g.phony : Int), .int .u64 (un g.made : Int)]) [t1, (.mk 11 ⟨#[]⟩ k (some ⟨(w30.drew).heap.size, 0, none⟩) 1 [x] : QT)] _ _ _ (HBV.out.trans ((hbx _).mono HBV.out.size)) (HGB.out _ (hbx _)).2 hq (List.forall_mem_cons.2 ⟨Nat.le_trans HK1.out (by decide), List.forall_mem_cons.2 ⟨Nat.le_trans (one_cnt (t := (.mk 11 ⟨#[]⟩ k (some ⟨(w30.drew).heap.size, 0, none⟩) 1 [x] : QT)) (k := 11) (s := []) (n := k) rfl HKx.out) (by decide), fun _ h => nomatch h⟩⟩) (by decide : 2 ≤ 100)).mono ?_; clear hq; rintro e w31 hF; obtain ⟨q1, n1, c1, ok1, r1, rfl, hr, hp, hb2⟩ := pair_res (b := .mk 11 [] k [qabs x]) HA1.out rfl hF; have HR1 := Lib.hid hr; have HP1 := Lib.hid hp; have HB31 := Lib.hid ((hbx _).trans (hb2.mono (hbx _).size)); have HJ := Lib.hid ((HRR.out.alloc _).below hb2); clear HRR; have HRR := Lib.hid HJ.out; clear HJ; clear hbx hb1 hb0 hb2 hF hr hp))
      all_goals
        clear HSS HQX HGB HTC HGT HGR HTU HON HAN HEVS HIN HK1 HI1 HU1 HCM1 HA1
        obtain ⟨e1, e2, e3⟩ := pair_same HJ1.out HJ2.out (fun h => turn_law HGD.out HTO.out HKK.out h) HP0.out HP1.out
        have hA := HRR.out
        have hB := HR1.out
        rw [e1, e2] at hB
        rw [e1, e3]
        clear HP0 HP1 HR0 HR1 HRR HJ1 HJ2 e1 e2 e3
        cases ok0 <;>
          (go_wp2_with (go_at_call 30; refine (equal_same _ _ _ _ _ _ _ hA hB).mono ?_; rintro e w' ⟨rfl, kk, rfl⟩)
           go_ret
           exact ⟨rfl, below_drawsA (HBW.out.trans ((HBV.out.trans (HB31.out.mono HBV.out.size)).mono HBW.out.size)) _⟩)
    · have e1 : (x.kind == 1) = false := by rw [beq_eq_false_iff_ne]; exact hk1
      have e2 : (x.kind != 1) = true := by simp [bne, e1]
      clear hk1
      go_wp2_with fail
      go_ret
      exact ⟨rfl, HBW.out.trans (HBV.out.mono HBW.out.size)⟩
  · have HGD := Lib.hid hgd
    clear hgd
    go_upto_region 4 with (go_at_call 29; refine (HTU.out w1 HB1.out).mono ?_; rintro e w2 ⟨hF, hb⟩; obtain ⟨E, hne, rfl⟩ := (hF.resolve_left (fun h => HGD.out h.1)).2; have HB2 := Lib.hid (HB1.out.trans (hb.mono HB1.out.size)); clear hb hF)
    obtain ⟨i1, i2⟩ := int_ne' hne
    clear hne u0 u1 u2 u3
    have HAL : Hid (∀ o, Below W.heap.size W (w2.alloc o)) := fun o => HB2.out.alloc HB2.out.size o
    go_wp2_with fail
    go_ret
    exact ⟨rfl, HBW.out.trans ((HAL.out _).mono HBW.out.size)⟩
end Go.Proofs.YteefncohknclcaaGreatDoor
