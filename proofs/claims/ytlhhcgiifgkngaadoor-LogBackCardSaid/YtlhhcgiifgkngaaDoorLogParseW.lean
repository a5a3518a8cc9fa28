/- The walk of log.Parse. Conditions: the text is of at most 2^47 bytes; the tables and the errors' variables read as listed. -/
import Derived.Test.YtlhhcgiifgkngaaDoorLogReadW
import Derived.Test.YtlhhcgiifgkngaaDoorLinesIt
namespace Go.Proofs.YtlhhcgiifgkngaaDoor
open Go Go.RowKit Go.Shelf Go.Sort
attribute [local go_sem] Oper.semAt_some
/-! ### plainly -/
open Classical in
noncomputable def chkN (l : List StP) : Int := if ChkS l then 0 else 1
theorem chkN_zero {l : List StP} : chkN l = 0 ↔ ChkS l := by
  unfold chkN
  split <;> simp [*]
noncomputable def lgS (l : List LnB) : List StP × Nat × Int := lgo rdS chkN 200 (l.map fun x => x.1.data.toList) 0 []
theorem lgo_app {St : Type} (rd : List UInt8 → St × Bool) (chk : List St → Int) (most : Nat) (m : List (List UInt8)) : ∀ (l : List (List UInt8)) (k : Nat) (out : List St), (lgo rd chk most l k out).2.2 = 0 → lgo rd chk most (l ++ m) k out = lgo rd chk most m (k + l.length) (lgo rd chk most l k out).1 := by
  intro l
  induction l with
  | nil => intro k out _; rfl
  | cons s l ih =>
    intro k out h
    by_cases h1 : most < k + 1
    · rw [lgo, if_pos h1] at h; cases h
    · by_cases h2 : (rd s).2 = false ∨ chk ((out ++ [(rd s).1]).drop (k - 1)) ≠ 0
      · rw [lgo, if_neg h1, if_pos h2] at h; cases h
      · rw [lgo, if_neg h1, if_neg h2] at h ⊢
        rw [List.cons_append, lgo, if_neg h1, if_neg h2, ih _ _ h, List.length_cons]
        congr 1
        omega
theorem lgo_bad_app {St : Type} (rd : List UInt8 → St × Bool) (chk : List St → Int) (most : Nat) (m : List (List UInt8)) : ∀ (l : List (List UInt8)) (k : Nat) (out : List St), (lgo rd chk most l k out).2.2 ≠ 0 → lgo rd chk most (l ++ m) k out = lgo rd chk most l k out := by
  intro l
  induction l with
  | nil => intro k out h; exact absurd rfl h
  | cons s l ih =>
    intro k out h
    by_cases h1 : most < k + 1
    · rw [List.cons_append, lgo, lgo, if_pos h1, if_pos h1]
    · by_cases h2 : (rd s).2 = false ∨ chk ((out ++ [(rd s).1]).drop (k - 1)) ≠ 0
      · rw [List.cons_append, lgo, lgo, if_neg h1, if_neg h1, if_pos h2, if_pos h2]
      · rw [lgo, if_neg h1, if_neg h2] at h
        rw [List.cons_append, lgo, lgo, if_neg h1, if_neg h1, if_neg h2, if_neg h2]
        exact ih _ _ h
/-- the stamps of lines that have gone through -/
noncomputable def outL (l : List LnB) : List StP := l.map fun x => (rdS x.1.data.toList).1
theorem lgS_out {l : List LnB} (h : (lgS l).2.2 = 0) : (lgS l).1 = outL l := by
  have := (lgo_ok rdS chkN 200 _ 0 [] h).2
  unfold lgS
  rw [this, List.nil_append, List.map_map]
  rfl
theorem lgS_next {l : List LnB} {x : LnB} (h : (lgS l).2.2 = 0) : lgS (l ++ [x]) = if 200 < l.length + 1 then ([], l.length + 1, 2) else if (rdS x.1.data.toList).2 = false ∨ chkN ((outL l ++ [(rdS x.1.data.toList).1]).drop (l.length - 1)) ≠ 0 then ([], l.length + 1, 3) else (outL l ++ [(rdS x.1.data.toList).1], 0, 0) := by
  have h2 := lgS_out h
  unfold lgS at h h2 ⊢
  rw [List.map_append, lgo_app rdS chkN 200 _ _ 0 [] h, h2, List.map_singleton, Nat.zero_add, List.length_map, lgo]
  rfl
theorem stOk_wf {x : StP} (h : stOk x) (hw : stWf x) : WfS x := by
  obtain ⟨h1, h2, h3⟩ := h
  have hall : ∀ c ∈ x.1.data.toList, signC c = true := by
    intro c hc
    unfold nameE at h1
    split at h1
    · cases h1
    · split at h1
      · rename_i h4; exact List.all_eq_true.1 h4 c hc
      · cases h1
  exact ⟨⟨fun hc => absurd (hall _ hc) (by decide), fun hc => absurd (hall _ hc) (by decide)⟩, ⟨h2.1, by omega⟩, hw.2⟩
/-- what the call of read has told of a line -/
def ReadOf (s : ByteArray) (y : StP) (b : Bool) : Prop := stWf y ∧ (b = true → txB y = s) ∧ ∀ z, WfS z → txB z = s → y = z ∧ b = true
theorem round_good {s : ByteArray} {y : StP} {b : Bool} {l : List StP} {k : Nat} (h : ReadOf s y b) (hb : b = true) (hk : k ≤ l.length) (hc : ChkS ((l ++ [y]).drop k)) : rdS s.data.toList = (y, true) := by
  have hm : y ∈ (l ++ [y]).drop k := by rw [List.drop_append_of_le_length hk]; simp
  have hw := stOk_wf (hc.2.1 y hm) h.1
  have := rdS_yes hw
  rw [← txB_list, h.2.1 hb] at this
  exact this
theorem round_bad {s : ByteArray} {y : StP} {b : Bool} {l : List StP} {k : Nat} (h : ReadOf s y b) (hc : b = false ∨ ¬ ChkS ((l ++ [y]).drop k)) : (rdS s.data.toList).2 = false ∨ chkN ((l ++ [(rdS s.data.toList).1]).drop k) ≠ 0 := by
  cases hr : (rdS s.data.toList).2 with
  | false => exact .inl rfl
  | true =>
    obtain ⟨h1, h2⟩ := rdS_of hr
    obtain ⟨h3, h4⟩ := h.2.2 _ h1 (ba_ext (by rw [txB_list]; exact h2))
    rcases hc with hc | hc
    · rw [h4] at hc; cases hc
    · rw [h3] at hc
      exact .inr fun e => hc (chkN_zero.1 e)
theorem outL_snoc (l : List LnB) (x : LnB) : outL (l ++ [x]) = outL l ++ [(rdS x.1.data.toList).1] := by unfold outL; simp
theorem outL_len (l : List LnB) : (outL l).length = l.length := by unfold outL; simp
/-- what Parse answers of lines -/
theorem lgS_all {ys pre : List LnB} (h : (lgS pre).2.2 ≠ 0) (m : List LnB) (hy : ys = pre ++ m) : lgS ys = lgS pre := by
  rw [hy]
  unfold lgS at h ⊢
  rw [List.map_append]
  exact lgo_bad_app rdS chkN 200 _ _ 0 [] h
theorem app_stampI {F : Fence} {n : Nat} (w : World) {ops : Array Oper} {rest : List Oper} {o : Oper} {a : Act} {Q : Exit → Act → World → Prop} (hgd : o.guard = none) (s x : Operand)
    (ho : o.op = .call { callee := .builtin .append, args := #[s, x], argTypes := #[69, 69] })
    (base : Nat) (v : Value) (k : Nat) (xs : List StP) (hs : a.eval s = v) (hown : w.ownsRow base 73 3 v k (cells3 xs))
    (g : Nat) (y : StP) (hx : a.eval x = .slice (some ⟨g, 0, none⟩) 1 1) (hc0 : w.cell? ⟨g, 0, none⟩ = some (.string y.1)) (hc1 : w.cell? ⟨g, 1, none⟩ = some (.int .i64 y.2.1)) (hc2 : w.cell? ⟨g, 2, none⟩ = some (.float .f64 y.2.2))
    (hn : k ≤ 4398046511103) (hbase : base ≤ w.heap.size)
    (h : ∀ v' w', w'.ownsRow base 73 3 v' (k + 1) (cells3 (xs ++ [y])) → w.grownBy w' v.ownBlock → wpListIn F n Tryd.prog ops Q rest (a.put o.dst v') w') : wpListIn F n Tryd.prog ops Q (o :: rest) a w := by
  obtain ⟨i0, hi, hz0, hz1, hz2⟩ := info_parts info_stamp
  refine wpListIn_append_own w hgd s x 69 ho base 73 i0 _ 3 32 Tryd.underlying69 hi hz0 hz1 hz2 rfl (by decide) v k _ hs hown ⟨g, 0, none⟩ 1 1 (encS y) hx rfl ?_ ?_ (by unfold maxLen; omega) (by omega) hbase (fun v' w' h1 h2 _ => h v' w' ?_ h2)
  · intro j q hj
    match j, hj with
    | 0, hj => simp [encS] at hj; subst hj; simpa [Addr.add, sN] using hc0
    | 1, hj => simp [encS] at hj; subst hj; simpa [Addr.add, sA] using hc1
    | 2, hj => simp [encS] at hj; subst hj; simpa [Addr.add, sT] using hc2
  · intro q hq
    simp only [encS, List.mem_cons, List.not_mem_nil, or_false] at hq
    rcases hq with rfl | rfl | rfl <;> rfl
  · rw [cells3_append]; exact h1
theorem grown_setL (w : World) (a : Addr) (u : Value) : w.grownBy (w.setCell a u) (some a.block) :=
  ⟨rfl, rfl, rfl, by simp, fun k _ hk => heap_setCell_other w a k u (fun e => hk (by rw [e]))⟩
/-! ### Parse's variables -/
/-- the three results, the stamps so far, and the line's number -/
structure PB (w W : World) (v2 v3 v4 vo va : Value) : Prop where
  r2 : W.heap[w.heap.size]? = some (.cells #[v2] 69 (0, 0))
  r3 : W.heap[w.heap.size + 1]? = some (.cells #[v3] 3 (0, 0))
  r4 : W.heap[w.heap.size + 2]? = some (.cells #[v4] 28 (0, 0))
  ob : W.heap[w.heap.size + 3]? = some (.cells #[vo] 69 (0, 0))
  ab : W.heap[w.heap.size + 4]? = some (.cells #[va] 3 (0, 0))
  sz : w.heap.size + 6 ≤ W.heap.size
theorem PB.lt {w W : World} {v2 v3 v4 vo va : Value} (h : PB w W v2 v3 v4 vo va) : w.heap.size + 4 < W.heap.size := (Array.getElem?_eq_some_iff.1 h.ab).1
theorem PB.of {w W W' : World} {v2 v3 v4 vo va : Value} (h : PB w W v2 v3 v4 vo va) (hk : ∀ k, k ≤ w.heap.size + 4 → W'.heap[k]? = W.heap[k]?) (hz : W.heap.size ≤ W'.heap.size) : PB w W' v2 v3 v4 vo va :=
  ⟨(hk _ (by omega)).trans h.r2, (hk _ (by omega)).trans h.r3, (hk _ (by omega)).trans h.r4, (hk _ (by omega)).trans h.ob, (hk _ (by omega)).trans h.ab, Nat.le_trans h.sz hz⟩
theorem PB.below {w W W' : World} {v2 v3 v4 vo va : Value} (h : PB w W v2 v3 v4 vo va) (hb : Below W.heap.size W W') : PB w W' v2 v3 v4 vo va :=
  h.of (fun k hk => hb.block k (by have := h.lt; omega)) hb.size
theorem PB.grown {w W W' : World} {v2 v3 v4 vo va : Value} {row : Option Nat} (h : PB w W v2 v3 v4 vo va) (hg : W.grownBy W' row) (hr : ∀ k, row = some k → w.heap.size + 4 < k) : PB w W' v2 v3 v4 vo va :=
  h.of (fun k hk => hg.block k (by have := h.lt; omega) (fun e => by have := hr k e.symm; omega)) hg.size
theorem PB.set {w W : World} {v2 v3 v4 vo va : Value} (h : PB w W v2 v3 v4 vo va) {b : Nat} (hb : w.heap.size + 4 < b) (k : Nat) (u : Value) : PB w (W.setCell ⟨b, k, none⟩ u) v2 v3 v4 vo va :=
  h.of (fun j hj => heap_setCell_other W ⟨b, k, none⟩ j u (fun e => by have : j = b := e; omega)) (by simp)
theorem oneC {W : World} {b : Nat} {t : TypeId} {v : Value} (h : W.heap[b]? = some (.cells #[v] t (0, 0))) : W.cell? ⟨b, 0, none⟩ = some v ∧ W.frozen? ⟨b, 0, none⟩ = false := by
  constructor <;> simp [World.cell?, World.frozen?, h]
theorem oneC_set {W : World} {b : Nat} {t : TypeId} {v : Value} (h : W.heap[b]? = some (.cells #[v] t (0, 0))) (u : Value) : (W.setCell ⟨b, 0, none⟩ u).heap[b]? = some (.cells #[u] t (0, 0)) := by
  rw [setCell_eq]
  simp [mapBlock, onCells, Array.getElem?_modify, h]
theorem oneC_other {W : World} {b c : Nat} (hbc : b ≠ c) (u : Value) : (W.setCell ⟨b, 0, none⟩ u).heap[c]? = W.heap[c]? := heap_setCell_other W ⟨b, 0, none⟩ c u (fun e => hbc e.symm)
theorem PB.setA {w W : World} {v2 v3 v4 vo va : Value} (h : PB w W v2 v3 v4 vo va) (u : Value) : PB w (W.setCell ⟨w.heap.size + 4, 0, none⟩ u) v2 v3 v4 vo u :=
  ⟨(oneC_other (by omega) u).trans h.r2, (oneC_other (by omega) u).trans h.r3, (oneC_other (by omega) u).trans h.r4, (oneC_other (by omega) u).trans h.ob, oneC_set h.ab u, by simpa using h.sz⟩
theorem PB.setO {w W : World} {v2 v3 v4 vo va : Value} (h : PB w W v2 v3 v4 vo va) (u : Value) : PB w (W.setCell ⟨w.heap.size + 3, 0, none⟩ u) v2 v3 v4 u va :=
  ⟨(oneC_other (by omega) u).trans h.r2, (oneC_other (by omega) u).trans h.r3, (oneC_other (by omega) u).trans h.r4, oneC_set h.ob u, (oneC_other (by omega) u).trans h.ab, by simpa using h.sz⟩
/-- the three results are stored -/
theorem PB.setR {w W : World} {v2 v3 v4 vo va : Value} (h : PB w W v2 v3 v4 vo va) (u2 u3 u4 : Value) : PB w (((W.setCell ⟨w.heap.size, 0, none⟩ u2).setCell ⟨w.heap.size + 1, 0, none⟩ u3).setCell ⟨w.heap.size + 2, 0, none⟩ u4) u2 u3 u4 vo va := by
  refine ⟨?_, ?_, ?_, ?_, ?_, by simpa using h.sz⟩
  · rw [oneC_other (by omega), oneC_other (by omega)]; exact oneC_set h.r2 u2
  · rw [oneC_other (by omega)]; exact oneC_set ((oneC_other (by omega) u2).trans h.r3) u3
  · refine oneC_set (v := v4) ?_ u4
    rw [oneC_other (by omega), oneC_other (by omega)]; exact h.r4
  · rw [oneC_other (by omega), oneC_other (by omega), oneC_other (by omega)]; exact h.ob
  · rw [oneC_other (by omega), oneC_other (by omega), oneC_other (by omega)]; exact h.ab
/-- a block of cells is not one that a range turns -/
theorem keep_block {W W' : World} {row : Option Nat} (hg : W.grownBy W' row) (hr : ∀ r, row = some r → ∃ o : Obj, W.heap[r]? = some o ∧ o.isCells = false) {b : Nat} {cs : Array Value} {t : TypeId} {fr : Nat × Nat} (h : W.heap[b]? = some (.cells cs t fr)) : W'.heap[b]? = some (.cells cs t fr) := by
  rw [hg.block b (Array.getElem?_eq_some_iff.1 h).1 ?_]
  · exact h
  · intro e
    obtain ⟨o, h1, h2⟩ := hr b e.symm
    rw [h] at h1
    injection h1 with h1
    rw [← h1] at h2
    cases h2
theorem keep_own {W W' : World} {row : Option Nat} (hg : W.grownBy W' row) (hr : ∀ r, row = some r → ∃ o : Obj, W.heap[r]? = some o ∧ o.isCells = false) {base e n : Nat} {v : Value} {xs : List Value} (h : W.ownsRow base e 3 v n xs) : W'.ownsRow base e 3 v n xs := by
  rcases h.2 with ⟨hv, hn⟩ | ⟨g, cap, cur, hv, hb, hh, h1⟩
  · exact ⟨h.1, .inl ⟨hv, hn⟩⟩
  · exact ⟨h.1, .inr ⟨g, cap, cur, hv, hb, keep_block hg hr hh, h1⟩⟩
theorem own_cap {W : World} {base e n c : Nat} {p : Option Addr} {xs : List Value} (h : W.ownsRow base e 3 (.slice p n c) n xs) : n ≤ c := by
  rcases h.2 with ⟨hv, hn⟩ | ⟨g, cap, cur, hv, hb, hh, h1⟩
  · omega
  · injection hv with e1 e2 e3
    omega
theorem own_cells {W : World} {base e n : Nat} {v : Value} {xs : List Value} (h : W.ownsRow base e 3 v n xs) : ∀ (j : Nat) (o : Obj), v.ownBlock = some j → W.heap[j]? = some o → o.isCells = true := by
  intro j o hj ho
  rcases h.2 with ⟨hv, hn⟩ | ⟨g, cap, cur, hv, hb, hh, h1⟩
  · rw [hv] at hj; cases hj
  · rw [hv] at hj
    injection hj with hj
    subst hj
    rw [hh] at ho
    injection ho with ho
    rw [← ho]
    rfl
theorem below_keeps {B : Nat} {W W' : World} (h : Below W.heap.size W W') : KeepsFrom B W W' :=
  ⟨h.size, fun k _ _ hk _ => (h.block k (Array.getElem?_eq_some_iff.1 hk).1).trans hk⟩
/-- between two rounds -/
def PInvL (w : World) (pre : List LnB) (W : World) : Prop :=
  (∃ vo, PB w W (.slice none 0 0) (.int .i64 0) (.int .i64 0) vo (.int .i64 (pre.length : Nat)) ∧ W.ownsRow (w.heap.size + 6) 73 3 vo pre.length (cells3 (outL pre))) ∧
    ((lgS pre).2.2 = 0 ∧ pre.length ≤ 200 ∧ ∀ x ∈ outL pre, stWf x) ∧ Below w.heap.size w W
/-- a round has returned -/
def PEndL (w : World) (pre : List LnB) (W : World) : Prop :=
  (∃ (n : Nat) (E : Int) (vo va : Value), E ≠ 0 ∧ lgS pre = ([], n, E) ∧ PB w W (.slice none 0 0) (.int .i64 n) (.int .i64 E) vo va) ∧ Below w.heap.size w W
theorem pinv_own (w : World) {B : Nat} (hB : w.heap.size ≤ B) : OwnFrom B (PInvL w) := by
  intro pre W W' row h hg hr
  have hr2 : ∀ r, row = some r → ∃ o : Obj, W.heap[r]? = some o ∧ o.isCells = false := fun r e => (hr r e).2
  obtain ⟨⟨vo, h1, h2⟩, h3, h4⟩ := h
  exact ⟨⟨vo, ⟨keep_block hg hr2 h1.r2, keep_block hg hr2 h1.r3, keep_block hg hr2 h1.r4, keep_block hg hr2 h1.ob, keep_block hg hr2 h1.ab, Nat.le_trans h1.sz hg.size⟩, keep_own hg hr2 h2⟩, h3, h4.grown hg h4.size (fun k e => Nat.le_trans hB (hr k e).1)⟩
theorem pend_own (w : World) {B : Nat} (hB : w.heap.size ≤ B) : OwnFrom B (PEndL w) := by
  intro pre W W' row h hg hr
  have hr2 : ∀ r, row = some r → ∃ o : Obj, W.heap[r]? = some o ∧ o.isCells = false := fun r e => (hr r e).2
  obtain ⟨⟨n, E, vo, va, h0, h0', h1⟩, h4⟩ := h
  exact ⟨⟨n, E, vo, va, h0, h0', ⟨keep_block hg hr2 h1.r2, keep_block hg hr2 h1.r3, keep_block hg hr2 h1.r4, keep_block hg hr2 h1.ob, keep_block hg hr2 h1.ab, Nat.le_trans h1.sz hg.size⟩⟩, h4.grown hg h4.size (fun k e => Nat.le_trans hB (hr k e).1)⟩
theorem pinv_set (w : World) : ∀ pre V v, PInvL w pre V → PInvL w pre (V.setCell ⟨w.heap.size + 5, 0, none⟩ v) := by
  rintro pre V v ⟨⟨vo, h1, h2⟩, h3, h4⟩
  refine ⟨⟨vo, h1.set (by omega) 0 v, h2.kept (grown_setL V _ v) (.inr fun e => ?_)⟩, h3, h4.setCell (p := ⟨w.heap.size + 5, 0, none⟩) (by show _ ≤ w.heap.size + 5; omega) v⟩
  have := (h2.lt (w.heap.size + 5) e).1
  omega
theorem pend_mk {w W W7 : World} {vo va : Value} {pre : List LnB} {n : Nat} {z E : Int} (hP : PB w W7 (.slice none 0 0) (.int .i64 0) (.int .i64 0) vo va) (hB : Below w.heap.size w W7) (hK : KeepsFrom (w.heap.size + 6) W W7) (hz : z = n) (hE : E ≠ 0) (h : lgS pre = ([], n, E)) :
    KeepsFrom (w.heap.size + 6) W ((((W7.setCell ⟨w.heap.size, 0, none⟩ (.slice none 0 0)).setCell ⟨w.heap.size + 1, 0, none⟩ (.int .i64 z)).setCell ⟨w.heap.size + 2, 0, none⟩ (.int .i64 E)).drew) ∧
      PEndL w pre ((((W7.setCell ⟨w.heap.size, 0, none⟩ (.slice none 0 0)).setCell ⟨w.heap.size + 1, 0, none⟩ (.int .i64 z)).setCell ⟨w.heap.size + 2, 0, none⟩ (.int .i64 E)).drew) := by
  subst hz
  refine ⟨((((hK.trans ((KeepsOthers.setCell _ _ _).from _)).trans ((KeepsOthers.setCell _ _ _).from _)).trans ((KeepsOthers.setCell _ _ _).from _)).trans ((KeepsOthers.drew _).from _)), ⟨n, E, vo, va, hE, h, (hP.setR _ _ _).of (fun _ _ => rfl) (Nat.le_refl _)⟩, ?_⟩
  have h1 := ((hB.setCell (p := ⟨w.heap.size, 0, none⟩) (Nat.le_refl _) (.slice none 0 0)).setCell (p := ⟨w.heap.size + 1, 0, none⟩) (by show _ ≤ w.heap.size + 1; omega) (.int .i64 n)).setCell (p := ⟨w.heap.size + 2, 0, none⟩) (by show _ ≤ w.heap.size + 2; omega) (.int .i64 E)
  exact ⟨h1.os, h1.tape, h1.output, h1.size, h1.block⟩
theorem linB_data (s : ByteArray) : (linB s).map (fun b => b.data.toList) = linS s.data.toList := by
  unfold linB
  rw [List.map_map]
  have : ((fun b : ByteArray => b.data.toList) ∘ fun l : List UInt8 => (⟨l.toArray⟩ : ByteArray)) = id := by funext l; simp
  rw [this, List.map_id]
theorem parL_le {s : ByteArray} (hs : s.size ≤ 20000) : parL rdS chkN 200 s.data.toList = lgo rdS chkN 200 (linS s.data.toList) 0 [] := by
  unfold parL
  rw [if_neg]
  show ¬ 20000 < s.data.toList.length
  have : s.data.toList.length = s.size := rfl
  omega
theorem parL_all {s : ByteArray} (hs : s.size ≤ 20000) {ys : List LnB} (h : ys.map (·.1) = linB s) : parL rdS chkN 200 s.data.toList = lgS ys := by
  rw [parL_le hs, ← linB_data, ← h, List.map_map]
  rfl
theorem parL_pre {s : ByteArray} (hs : s.size ≤ 20000) {pre : List LnB} (h : pre.map (·.1) <+: linB s) (hb : (lgS pre).2.2 ≠ 0) : parL rdS chkN 200 s.data.toList = lgS pre := by
  obtain ⟨m, hm⟩ := h
  rw [parL_le hs, ← linB_data, ← hm, List.map_append, List.map_map]
  exact lgo_bad_app rdS chkN 200 _ _ 0 [] hb
theorem own_shape {W : World} {base e n : Nat} {v : Value} {xs : List Value} (h : W.ownsRow base e 3 v n xs) : ∃ (p : Option Addr) (c : Nat), v = .slice p n c := by
  rcases h.2 with ⟨hv, hn⟩ | ⟨g, cap, cur, hv, hb, hh, h1⟩
  · exact ⟨none, 0, by rw [hv, hn]⟩
  · exact ⟨_, _, hv⟩
theorem grown_put (W : World) (D : Nat) (o : Obj) : W.grownBy (W.putObj D o) (some D) :=
  ⟨rfl, rfl, rfl, by simp [World.putObj], fun k _ hk => World.putObj_heap_other (fun e => hk (by rw [e]))⟩
/-- the mark among the deferred calls is taken -/
theorem PB.mark {w W : World} {v2 v3 v4 vo va : Value} (h : PB w W v2 v3 v4 vo va) {D : Nat} (hD : w.heap.size + 6 ≤ D) (o : Obj) : PB w (W.putObj D o) v2 v3 v4 vo va :=
  h.of (fun k hk => World.putObj_heap_other (by omega)) (by simp [World.putObj])
/-- what Parse answers -/
def ParsePostL (s : ByteArray) (w : World) (e : Ending) (w' : World) : Prop :=
  (∃ (p : Option Addr) (c n : Nat) (E : Int) (l : List StP), e = .returned (.tuple #[.slice p l.length c, .int .i64 n, .int .i64 E]) ∧ parL rdS chkN 200 s.data.toList = (l, n, E) ∧ StAt w' p l.length c l ∧ ∀ x ∈ l, stWf x) ∧ Below w.heap.size w w'
set_option maxHeartbeats 8000000 in
set_option maxRecDepth 100000 in
theorem LogParse_ok (s : ByteArray) (hs : s.size ≤ 20000) (w : World) (hE : EVs w) (hT : Tab w) (hP : PowT w) (hM : MLL w) :
    Calls Tryd.prog 47 #[.string s] w (ParsePostL s w) := by
  refine (callsIn_wide (n := 6)).1 ?_
  refine callsIn_of_wp_marks Tryd.func47 rfl trivial ?_ rfl
  simp only [Tryd.ntmps47, List.size_toArray, List.length_cons, List.length_nil, Nat.reduceAdd, Nat.reduceSub, Array.replicate_succ, Array.replicate_zero, List.push_toArray, List.append_toArray, List.nil_append, List.cons_append]
  have hsi : ¬ (20000 : Int) < (s.size : Int) := by omega
  gi_wp2_with (refine ⟨trivial, ?_⟩; gi_at_call 92; refine (callsIn_wide.2 (lines_fn s _)).mono ?_; rintro e w' ⟨rfl, rfl⟩)
  simp only [Nat.add_assoc, Nat.reduceAdd]
  obtain ⟨W0, hW0⟩ : ∃ W0, W0 = (((((w.alloc (.cells #[.slice none 0 0] 69)).alloc (.cells #[.int .i64 0] 3)).alloc (.cells #[.int .i64 0] 28)).alloc (.cells #[.slice none 0 0] 69)).alloc (.cells #[.int .i64 0] 3)).alloc (.cells #[.string s] 9) := ⟨_, rfl⟩
  have hsz : W0.heap.size = w.heap.size + 6 := by rw [hW0]; simp
  have hB0 : Below w.heap.size w W0 := by rw [hW0]; exact ((((((Below.refl _ w).alloc (Nat.le_refl _) _).alloc (by simp) _).alloc (by simp; omega) _).alloc (by simp; omega) _).alloc (by simp; omega) _).alloc (by simp; omega) _
  have hget : ∀ k, k < 6 → W0.heap[w.heap.size + k]? = (#[Obj.cells #[.slice none 0 0] 69, Obj.cells #[.int .i64 0] 3, Obj.cells #[.int .i64 0] 28, Obj.cells #[.slice none 0 0] 69, Obj.cells #[.int .i64 0] 3, Obj.cells #[.string s] 9] : Array Obj)[k]? := by
    intro k hk
    rw [hW0]
    show ((((((w.heap.push _).push _).push _).push _).push _).push _)[w.heap.size + k]? = _
    simp only [Array.getElem?_push, Array.size_push]
    match k, hk with
    | 0, _ => rw [if_neg (by omega), if_neg (by omega), if_neg (by omega), if_neg (by omega), if_neg (by omega), if_pos (by omega)]; rfl
    | 1, _ => rw [if_neg (by omega), if_neg (by omega), if_neg (by omega), if_neg (by omega), if_pos (by omega)]; rfl
    | 2, _ => rw [if_neg (by omega), if_neg (by omega), if_neg (by omega), if_pos (by omega)]; rfl
    | 3, _ => rw [if_neg (by omega), if_neg (by omega), if_pos (by omega)]; rfl
    | 4, _ => rw [if_neg (by omega), if_pos (by omega)]; rfl
    | 5, _ => rw [if_pos (by omega)]; rfl
  have hPB : PB w W0 (.slice none 0 0) (.int .i64 0) (.int .i64 0) (.slice none 0 0) (.int .i64 0) := ⟨hget 0 (by omega), hget 1 (by omega), hget 2 (by omega), hget 3 (by omega), hget 4 (by omega), by omega⟩
  have hI0 : PInvL w [] W0 := ⟨⟨_, hPB, World.ownsRow_nil _ _ _ _⟩, ⟨rfl, Nat.zero_le _, by simp [outL]⟩, hB0⟩
  have hbs := hget 5 (by omega)
  rw [← hW0]
  clear hW0 hget hPB
  have HTT : Hid (∀ u, Below w.heap.size w u → EVs u ∧ Tab u ∧ PowT u ∧ MLL u) := by show ∀ u, _; exact fun u hu => ⟨hE.below hu, hT.below hu, hP.below hu, hM.below hu⟩
  clear hE hT hP hM
  refine wpIn_range_box rfl (by omega) (gf := 132) (lb := #[.pointer (some ⟨w.heap.size + 5, 0, none⟩)]) rfl trivial (enters_of Tryd.func132 (by kernel_rfl) rfl)
    (Bs := w.heap.size + 5) (by omega) (lines_seq 5 (by omega) (w.heap.size + 5) s (by omega) W0 hbs) (Below.refl _ _) (fun _ => rfl) (PInvL w) (PEndL w) (pinv_own w (by omega)) (pend_own w (by omega)) (pinv_set w) hI0
    (fun x : LnB => { tmps := #[.string s, undef, .pointer (some ⟨w.heap.size, 0, none⟩), .pointer (some ⟨w.heap.size + 1, 0, none⟩), .pointer (some ⟨w.heap.size + 2, 0, none⟩), .pointer (some ⟨w.heap.size + 3, 0, none⟩), .pointer (some ⟨w.heap.size + 4, 0, none⟩), .string x.1, undef, undef, undef, .string s, .int .i64 s.size, .bool false, .string s, .func (.func 132) #[] #[.pointer (some ⟨w.heap.size + 5, 0, none⟩)], .string x.1, undef, undef, undef, undef, undef, undef, undef, undef, undef, undef, undef, undef, undef, undef, undef, undef, undef, undef, undef, undef, undef, undef, undef, undef, undef, undef, undef, undef], defers := [] }) ?assign ?body ?done ?stop
  case assign =>
    intro l x W K hK
    gi_wp2
    exact hK
  case body =>
    rintro l pre x W ⟨⟨vo, hPB, hown⟩, ⟨hlg, hlen, hwf⟩, hB⟩ hN
    clear hI0 hN
    have hh1 : 1 ≤ 6 - 1 - 1 := by omega
    obtain ⟨K, hK⟩ : ∃ K, K = pre.length := ⟨_, rfl⟩
    rw [← hK] at hPB hown hlen
    obtain ⟨W1, hW1⟩ : ∃ W1 : World, W1 = W.setCell ⟨w.heap.size + 4, 0, none⟩ (.int .i64 ((K : Int) + 1)) := ⟨_, rfl⟩
    have hPB1 : PB w W1 (.slice none 0 0) (.int .i64 0) (.int .i64 0) vo (.int .i64 ((K : Int) + 1)) := by rw [hW1]; exact hPB.setA _
    have hB1 : Below w.heap.size w W1 := by rw [hW1]; exact hB.setCell (p := ⟨w.heap.size + 4, 0, none⟩) (by show _ ≤ w.heap.size + 4; omega) _
    have hown1 : W1.ownsRow (w.heap.size + 6) 73 3 vo K (cells3 (outL pre)) := by
      rw [hW1]
      refine hown.kept (grown_setL W _ _) (.inr fun e => ?_)
      have := (hown.lt (w.heap.size + 4) e).1
      omega
    have HKO1 : Hid (KeepsOthers W W1) := by show KeepsOthers _ _; rw [hW1]; exact KeepsOthers.setCell _ _ _
    have HBs1 : Hid (W1.heap[w.heap.size + 5]? = W.heap[w.heap.size + 5]?) := by show _ = _; rw [hW1]; exact oneC_other (by omega) _
    obtain ⟨q1, q2, q3, q4⟩ := HTT.out W1 hB1
    have HR := Lib.hid (LogRead_ok x.1 x.2 W1 q1 q2 q3 q4)
    obtain ⟨cA, fA⟩ := oneC hPB.ab
    have HLG := Lib.hid (And.intro hlg (And.intro hK hwf))
    have HP1 := Lib.hid (And.intro hPB1 (And.intro hB1 hown1))
    clear hPB hPB1 hB1 hown hown1 hlg hwf hK q1 q2 q3 q4
    gi_wp2_with fail
    rw [← hW1]
    clear hW1 cA fA
    refine ⟨trivial, ?_⟩
    refine (CallsIn.inRound l (callsIn_wide.2 HR.out)).mono ?_
    rintro e w2 ⟨⟨y, b, rfl, hy, hyT, hyU⟩, hb2⟩
    obtain ⟨X, hX⟩ : ∃ X : World, X = w2.alloc (.cells #[.string y.1, .int .i64 y.2.1, .float .f64 y.2.2] 73) := ⟨_, rfl⟩
    have hb3 : Below W1.heap.size W1 X := by rw [hX]; exact hb2.alloc hb2.size _
    have hPBX : PB w X (.slice none 0 0) (.int .i64 0) (.int .i64 0) vo (.int .i64 ((K : Int) + 1)) := HP1.out.1.below hb3
    have hownX : X.ownsRow (w.heap.size + 6) 73 3 vo K (cells3 (outL pre)) := by
      refine HP1.out.2.2.kept (row := none) ⟨hb3.os, hb3.tape, hb3.output, hb3.size, fun k hk _ => hb3.block k hk⟩ ?_
      cases hq : vo.ownBlock with
      | none => exact .inl rfl
      | some k => exact .inr (fun e => by cases e)
    have hBX : Below w.heap.size w X := HP1.out.2.1.trans (hb3.mono HP1.out.2.1.size)
    have d0 : X.cell? ⟨w2.heap.size, 0, none⟩ = some (.string y.1) := by rw [hX, World.cell?_alloc_at _ _ _ _ rfl]; rfl
    have d1 : X.cell? ⟨w2.heap.size, 1, none⟩ = some (.int .i64 y.2.1) := by rw [hX, World.cell?_alloc_at _ _ _ _ rfl]; rfl
    have d2 : X.cell? ⟨w2.heap.size, 2, none⟩ = some (.float .f64 y.2.2) := by rw [hX, World.cell?_alloc_at _ _ _ _ rfl]; rfl
    obtain ⟨cO, fO⟩ := oneC hPBX.ob
    have HKO2 : Hid (KeepsFrom (w.heap.size + 6) W X) := by show KeepsFrom _ _ _; exact (HKO1.out.from _).trans (below_keeps hb3)
    have HBs2 : Hid (X.heap[w.heap.size + 5]? = W.heap[w.heap.size + 5]?) := by
      show _ = _
      rw [hb3.block _ (by have := HP1.out.1.sz; omega)]
      exact HBs1.out
    have HPX := Lib.hid (And.intro hPBX (And.intro hownX hBX))
    have hyw : stWf y := ⟨by have := x.2; omega, hy.2⟩
    have HY : Hid (ReadOf x.1 y b) := ⟨hyw, hyT, hyU⟩
    obtain ⟨y1, y2, y3⟩ := y
    simp only at d0 d1 d2
    clear hb3 hb2 hPBX hownX hBX hy hyT hyU HKO1 HBs1 hyw HR HP1
    rw [hX] at d0 d1 d2 cO fO
    gi_wp2_with (gi_at_builtin; rw [← hX]; rw [← hX] at d0 d1 d2 cO fO; refine app_stampI _ rfl _ _ rfl (w.heap.size + 6) vo K (outL pre) rfl (HPX.out.2.1.alloc _) (w2.heap.size + 1) (y1, y2, y3) (by simp [Act.eval]) (by rw [World.cell?_alloc_at _ _ _ _ (by simp [hX])]; rfl) (by rw [World.cell?_alloc_at _ _ _ _ (by simp [hX])]; rfl) (by rw [World.cell?_alloc_at _ _ _ _ (by simp [hX])]; rfl) (by omega) (by have := HPX.out.1.sz; simp; omega) ?_; intro v' w5 hown5 hgr5; refine Hid.out ?_)
    show wpListIn _ _ _ _ _ _ _ _
    obtain ⟨g, cap, hv5, -, -⟩ := hown5.form (by omega)
    subst hv5
    have hlo : ∀ k, vo.ownBlock = some k → w.heap.size + 6 ≤ k := fun k e => (HPX.out.2.1.lt k e).1
    have hPB5 : PB w w5 (.slice none 0 0) (.int .i64 0) (.int .i64 0) vo (.int .i64 ((K : Int) + 1)) := (HPX.out.1.below ((Below.refl _ X).alloc (Nat.le_refl _) _)).grown hgr5 (fun k e => by have := hlo k e; omega)
    have hB5 : Below w.heap.size w w5 := (HPX.out.2.2.alloc HPX.out.2.2.size _).grown hgr5 (by have := HPX.out.2.2.size; simp; omega) (fun k e => by have := hlo k e; omega)
    have HKO5 : Hid (KeepsFrom (w.heap.size + 6) W w5) := by show KeepsFrom _ _ _; exact (HKO2.out.trans ((KeepsOthers.alloc X _).from _)).trans ((KeepsOthers.of_grownBy hgr5 (own_cells (HPX.out.2.1.alloc _))).from _)
    have HBs5 : Hid (w5.heap[w.heap.size + 5]? = W.heap[w.heap.size + 5]?) := by
      show _ = _
      have hl : w.heap.size + 5 < X.heap.size := by have := HPX.out.1.sz; omega
      rw [hgr5.block _ (by simp; omega) (fun e => by have := hlo _ e.symm; omega)]
      exact (((Below.refl _ X).alloc (Nat.le_refl _) _).block _ hl).trans HBs2.out
    have HL6 : Hid ((.slice (some ⟨g, 0, none⟩) (K + 1) cap : Value).ownBlock = some g) := by show _ = _; rfl
    have hg6 := hown5.lt g rfl
    have hcap : K + 1 ≤ cap := own_cap hown5
    have hmx : max ((K : Int) + 1 - 2) 0 = ((K - 1 : Nat) : Int) := by omega
    have hcl : K - 1 < cap := by omega
    have hcl2 : K - 1 ≤ K + 1 := by omega
    obtain ⟨W6, hW6⟩ : ∃ W6 : World, W6 = w5.setCell ⟨w.heap.size + 3, 0, none⟩ (.slice (some ⟨g, 0, none⟩) (K + 1) cap) := ⟨_, rfl⟩
    have hPB6 : PB w W6 (.slice none 0 0) (.int .i64 0) (.int .i64 0) (.slice (some ⟨g, 0, none⟩) (K + 1) cap) (.int .i64 ((K : Int) + 1)) := by rw [hW6]; exact hPB5.setO _
    have hB6 : Below w.heap.size w W6 := by rw [hW6]; exact hB5.setCell (p := ⟨w.heap.size + 3, 0, none⟩) (by show _ ≤ w.heap.size + 3; omega) _
    have hown6 : W6.ownsRow (w.heap.size + 6) 73 3 (.slice (some ⟨g, 0, none⟩) (K + 1) cap) (K + 1) (cells3 (outL pre ++ [(y1, y2, y3)])) := by
      rw [hW6]
      exact hown5.kept (grown_setL w5 _ _) (.inr fun e => by have e2 : g = w.heap.size + 3 := Option.some.inj e; have := hg6.1; omega)
    have HKO6 : Hid (KeepsFrom (w.heap.size + 6) W W6) := by show KeepsFrom _ _ _; rw [hW6]; exact HKO5.out.trans ((KeepsOthers.setCell _ _ _).from _)
    have HBs6 : Hid (W6.heap[w.heap.size + 5]? = W.heap[w.heap.size + 5]?) := by show _ = _; rw [hW6, oneC_other (by omega)]; exact HBs5.out
    obtain ⟨cA6, fA6⟩ := oneC hPB6.ab
    obtain ⟨cO6, fO6⟩ := oneC hPB6.ob
    obtain ⟨cO5, fO5⟩ := oneC hPB5.ob
    have HP6 := Lib.hid (And.intro hPB6 (And.intro hown6 hB6))
    rw [hW6] at cA6 fA6 cO6 fO6
    clear hPB5 hB5 hPB6 hB6 hown6 hown5 hgr5 HKO5 HBs5 HKO2 HBs2 hlo hX cO fO d0 d1 d2 HPX
    gi_wp2_with fail
    rw [← hW6]
    rw [← hW6] at cA6 fA6 cO6 fO6
    have hst : StAt W6 (some ⟨g, (K - 1) * 3, none⟩) (K + 1 - (K - 1)) (cap - (K - 1)) ((outL pre ++ [(y1, y2, y3)]).drop (K - 1)) := by
      have := (StAt.own HP6.out.2.1 (by omega)).drop (c' := cap - (K - 1)) hcl2
      simpa using this
    have hwf6 : ∀ z ∈ outL pre ++ [(y1, y2, y3)], stWf z := by
      intro z hz
      rcases List.mem_append.1 hz with hz | hz
      · exact HLG.out.2.2 z hz
      · simp at hz; rw [hz]; exact HY.out.1
    have HCK := Lib.hid (LogCheck_ok _ _ _ _ W6 hst fun z hz => hwf6 z (List.mem_of_mem_drop hz))
    have HWF6 := Lib.hid hwf6
    clear hst hwf6 hmx hcl hcl2 hW6
    refine ⟨trivial, ?_⟩
    refine (CallsIn.inRound l (callsIn_wide.2 HCK.out)).mono ?_
    rintro e W7 ⟨⟨E, rfl, hE⟩, hb7⟩
    have hPB7 : PB w W7 (.slice none 0 0) (.int .i64 0) (.int .i64 0) (.slice (some ⟨g, 0, none⟩) (K + 1) cap) (.int .i64 ((K : Int) + 1)) := HP6.out.1.below hb7
    have hown7 : W7.ownsRow (w.heap.size + 6) 73 3 (.slice (some ⟨g, 0, none⟩) (K + 1) cap) (K + 1) (cells3 (outL pre ++ [(y1, y2, y3)])) :=
      HP6.out.2.1.kept (row := none) ⟨hb7.os, hb7.tape, hb7.output, hb7.size, fun k hk _ => hb7.block k hk⟩ (.inr fun e => by cases e)
    have hB7 : Below w.heap.size w W7 := HP6.out.2.2.trans (hb7.mono HP6.out.2.2.size)
    have HKO7 : Hid (KeepsFrom (w.heap.size + 6) W W7) := by show KeepsFrom _ _ _; exact HKO6.out.trans (below_keeps hb7)
    have HBs7 : Hid (W7.heap[w.heap.size + 5]? = W.heap[w.heap.size + 5]?) := by show _ = _; rw [hb7.block _ (by have := HP6.out.1.sz; omega)]; exact HBs6.out
    obtain ⟨cA, fA⟩ := oneC hPB7.ab
    have HP7 := Lib.hid (And.intro hPB7 (And.intro hown7 hB7))
    have HE := Lib.hid hE
    clear hPB7 hown7 hB7 hb7 hE cA6 fA6 cO6 fO6 cO5 fO5 HP6 HCK HKO6 HBs6
    have mixed : Tryd.prog.follows .mixedOrders = true := by kernel_rfl
    have HN := Lib.hid (lgS_next (l := pre) (x := x) HLG.out.1)
    by_cases hmost : 200 < K + 1
    · have hmI : (200 : Int) < (K : Int) + 1 := by omega
      obtain ⟨c2, f2⟩ := oneC HP7.out.1.r2
      obtain ⟨c3, f3⟩ := oneC HP7.out.1.r3
      obtain ⟨c4, f4⟩ := oneC HP7.out.1.r4
      gi_wp2_with fail
      gi_region_o <;>
      · gi_wp2
        rw [hsz]
        refine pend_mk HP7.out.1 HP7.out.2.2 HKO7.out (n := K + 1) (by simp) (by decide) ?_
        rw [HN.out, ← HLG.out.2.1, if_pos hmost]
    · have hmI : ¬ (200 : Int) < (K : Int) + 1 := by omega
      by_cases hgo : b = true ∧ E = 0
      · obtain ⟨rfl, rfl⟩ := hgo
        gi_wp2_with fail
        rw [hsz]
        have hgood := round_good (l := outL pre) (k := pre.length - 1) HY.out rfl (by rw [outL_len]; omega) (by
          rcases HE.out with ⟨_, h⟩ | ⟨h, _⟩
          · rw [← HLG.out.2.1]; exact h
          · exact absurd rfl h)
        refine ⟨HKO7.out, HBs7.out, ⟨.slice (some ⟨g, 0, none⟩) (K + 1) cap, ?_, ?_⟩, ⟨?_, ?_, ?_⟩, HP7.out.2.2⟩
        · have := HP7.out.1
          rw [List.length_append, ← HLG.out.2.1]
          simpa using this
        · rw [List.length_append, ← HLG.out.2.1, outL_snoc, hgood]
          exact HP7.out.2.1
        · rw [HN.out, ← HLG.out.2.1, if_neg hmost, hgood, if_neg]
          rintro (h | h)
          · cases h
          · apply h
            rw [chkN_zero]
            rcases HE.out with ⟨_, h⟩ | ⟨h, _⟩
            · exact h
            · exact absurd rfl h
        · rw [List.length_append, ← HLG.out.2.1]
          show K + 1 ≤ 200
          omega
        · rw [outL_snoc, hgood]
          exact HWF6.out
      · have HBD := Lib.hid (round_bad (l := outL pre) (k := pre.length - 1) HY.out (by
          rcases HE.out with ⟨h, _⟩ | ⟨_, h⟩
          · left
            cases hb : b with
            | false => rfl
            | true => exact absurd ⟨hb, h⟩ hgo
          · rw [← HLG.out.2.1]; exact .inr h))
        obtain ⟨c2, f2⟩ := oneC HP7.out.1.r2
        obtain ⟨c3, f3⟩ := oneC HP7.out.1.r3
        obtain ⟨c4, f4⟩ := oneC HP7.out.1.r4
        have HEND : ∀ (z : Int), z = (K : Int) + 1 → Hid (boxPost (w.heap.size + 6) (w.heap.size + 5) (PInvL w) (PEndL w) (pre ++ [x]) W .ret { tmps := #[], defers := [] } ((((W7.setCell ⟨w.heap.size, 0, none⟩ (.slice none 0 0)).setCell ⟨w.heap.size + 1, 0, none⟩ (.int .i64 z)).setCell ⟨w.heap.size + 2, 0, none⟩ (.int .i64 3)).drew)) := by
          intro z hz
          refine pend_mk HP7.out.1 HP7.out.2.2 HKO7.out (n := K + 1) (by rw [hz]; simp) (by decide) ?_
          rw [HN.out, ← HLG.out.2.1, if_neg hmost, if_pos]
          have := HBD.out
          rw [← HLG.out.2.1] at this
          exact this
        cases b with
        | false =>
          gi_wp2_with fail
          gi_region_o <;>
          · gi_wp2
            rw [hsz]
            exact (HEND _ rfl).out
        | true =>
          have hE0 : ¬ E = 0 := fun h => hgo ⟨rfl, h⟩
          gi_wp2_with fail
          gi_region_o <;>
          · gi_wp2
            rw [hsz]
            exact (HEND _ rfl).out
  case done =>
    rintro D ys W hD hS ⟨⟨vo, hPB, hown⟩, ⟨hlg, hlen, hwf⟩, hB⟩ hK
    obtain ⟨p, c, rfl⟩ := own_shape hown
    have hD6 : w.heap.size + 6 ≤ D := by omega
    obtain ⟨V, hV⟩ : ∃ V : World, V = ((W.setCell ⟨w.heap.size, 0, none⟩ (.slice p ys.length c)).setCell ⟨w.heap.size + 1, 0, none⟩ (.int .i64 0)).setCell ⟨w.heap.size + 2, 0, none⟩ (.int .i64 0) := ⟨_, rfl⟩
    have hPV : PB w V (.slice p ys.length c) (.int .i64 0) (.int .i64 0) (.slice p ys.length c) (.int .i64 (ys.length : Nat)) := by rw [hV]; exact hPB.setR _ _ _
    have hBV : Below w.heap.size w V := by
      rw [hV]
      exact ((hB.setCell (p := ⟨w.heap.size, 0, none⟩) (Nat.le_refl _) _).setCell (p := ⟨w.heap.size + 1, 0, none⟩) (by show _ ≤ w.heap.size + 1; omega) _).setCell (p := ⟨w.heap.size + 2, 0, none⟩) (by show _ ≤ w.heap.size + 2; omega) _
    have hVD : V.heap[D]? = some (.deferred (some [])) := by
      rw [hV, oneC_other (by omega), oneC_other (by omega), oneC_other (by omega)]; exact hK
    have hownV : V.ownsRow (w.heap.size + 6) 73 3 (.slice p ys.length c) ys.length (cells3 (outL ys)) := by
      have hlo : ∀ k, (Value.slice p ys.length c).ownBlock = some k → w.heap.size + 6 ≤ k := fun k e => (hown.lt k e).1
      rw [hV]
      refine ((hown.kept (grown_setL W _ _) (.inr fun e => ?_)).kept (grown_setL _ _ _) (.inr fun e => ?_)).kept (grown_setL _ _ _) (.inr fun e => ?_)
      · have := hlo w.heap.size e; omega
      · have := hlo (w.heap.size + 1) e; omega
      · have := hlo (w.heap.size + 2) e; omega
    have hPU := hPV.mark hD6 (.deferred none)
    have hBU : Below w.heap.size w (V.putObj D (.deferred none)) := hBV.grown (grown_put _ _ _) hBV.size (fun k e => by cases e; omega)
    have hownU : (V.putObj D (.deferred none)).ownsRow (w.heap.size + 6) 73 3 (.slice p ys.length c) ys.length (cells3 (outL ys)) :=
      hownV.kept (grown_put _ _ _) (.inr fun e => by have := own_cells hownV D _ e hVD; cases this)
    have HU := Lib.hid (And.intro hPU (And.intro hBU (And.intro hownU (run_takeDeferred (P := Tryd.prog) hVD))))
    obtain ⟨c2, f2⟩ := oneC hPB.r2
    obtain ⟨c3, f3⟩ := oneC hPB.r3
    obtain ⟨c4, f4⟩ := oneC hPB.r4
    obtain ⟨cO, fO⟩ := oneC hPB.ob
    have HX := Lib.hid (And.intro hlg (And.intro hlen (And.intro hwf hS)))
    clear hPB hPV hBV hVD hownV hPU hBU hownU hlg hlen hwf hS hown hB hK hI0
    gi_wp2_with fail
    rw [← hV]
    refine ⟨by simp, .inl ⟨_, _, rfl, HU.out.2.2.2, ?_⟩⟩
    obtain ⟨c5, f5⟩ := oneC HU.out.1.r2
    obtain ⟨c6, f6⟩ := oneC HU.out.1.r3
    obtain ⟨c7, f7⟩ := oneC HU.out.1.r4
    refine ⟨.tuple #[.slice p ys.length c, .int .i64 0, .int .i64 0], ?_, ⟨p, c, 0, 0, outL ys, ?_, ?_, ?_, HX.out.2.2.1⟩, HU.out.2.1⟩
    · simp [results, Tryd.f47, go_sem, c5, c6, c7]
    · rw [outL_len]; rfl
    · rw [parL_all hs HX.out.2.2.2]
      have h1 := lgS_out HX.out.1
      have h2 := (lgo_ok rdS chkN 200 _ 0 [] HX.out.1).1
      exact Prod.ext h1 (Prod.ext h2 HX.out.1)
    · have := StAt.own HU.out.2.2.1 (by have := HX.out.2.1; omega)
      rw [outL_len]
      exact this
  case stop =>
    rintro D pre W hD hpre ⟨⟨n, E, vo, va, hE0, hlg, hPB⟩, hB⟩ hK
    have hD6 : w.heap.size + 6 ≤ D := by omega
    have hPU := hPB.mark hD6 (.deferred none)
    have hBU : Below w.heap.size w (W.putObj D (.deferred none)) := hB.grown (grown_put _ _ _) hB.size (fun k e => by cases e; omega)
    obtain ⟨c5, f5⟩ := oneC hPU.r2
    obtain ⟨c6, f6⟩ := oneC hPU.r3
    obtain ⟨c7, f7⟩ := oneC hPU.r4
    gi_wp2_with fail
    refine ⟨by simp, .inl ⟨_, _, rfl, run_takeDeferred (P := Tryd.prog) hK, ?_⟩⟩
    refine ⟨.tuple #[.slice none 0 0, .int .i64 n, .int .i64 E], ?_, ⟨none, 0, n, E, [], rfl, ?_, StAt.nil_ _ _ _, fun _ h => absurd h (List.not_mem_nil)⟩, hBU⟩
    · simp [results, Tryd.f47, go_sem, c5, c6, c7]
    · rw [parL_pre hs hpre (by rw [hlg]; exact hE0), hlg]
set_option maxHeartbeats 2000000 in
set_option maxRecDepth 100000 in
theorem LogParse_big (s : ByteArray) (hs : 20000 < s.size) (w : World) :
    Calls Tryd.prog 47 #[.string s] w (ParsePostL s w) := by
  refine (callsIn_wide (n := 6)).1 ?_
  refine callsIn_of_wp_marks Tryd.func47 rfl trivial ?_ rfl
  simp only [Tryd.ntmps47, List.size_toArray, List.length_cons, List.length_nil, Nat.reduceAdd, Nat.reduceSub, Array.replicate_succ, Array.replicate_zero, List.push_toArray, List.append_toArray, List.nil_append, List.cons_append]
  have hsi : (20000 : Int) < (s.size : Int) := by omega
  have mixed : Tryd.prog.follows .mixedOrders = true := by kernel_rfl
  gi_wp2_with fail
  obtain ⟨U, hU⟩ : ∃ U, U = ((w.alloc (.cells #[.slice none 0 0] 69)).alloc (.cells #[.int .i64 0] 3)).alloc (.cells #[.int .i64 2] 28) := ⟨_, rfl⟩
  have hB : Below w.heap.size w U := by rw [hU]; exact (((Below.refl _ w).alloc (Nat.le_refl _) _).alloc (by simp) _).alloc (by simp; omega) _
  have h5 : U.heap[w.heap.size]? = some (.cells #[.slice none 0 0] 69 (0, 0)) := by
    rw [hU]
    show (((w.heap.push _).push _).push _)[w.heap.size]? = _
    simp only [Array.getElem?_push, Array.size_push]
    rw [if_neg (by omega), if_neg (by omega), if_pos trivial]
  have h6 : U.heap[w.heap.size + 1]? = some (.cells #[.int .i64 0] 3 (0, 0)) := by
    rw [hU]
    show (((w.heap.push _).push _).push _)[w.heap.size + 1]? = _
    simp only [Array.getElem?_push, Array.size_push]
    rw [if_neg (by omega), if_pos trivial]
  have h7 : U.heap[w.heap.size + 2]? = some (.cells #[.int .i64 2] 28 (0, 0)) := by
    rw [hU]
    show (((w.heap.push _).push _).push _)[w.heap.size + 2]? = _
    simp only [Array.getElem?_push, Array.size_push]
    rw [if_pos trivial]
  obtain ⟨c5, f5⟩ := oneC h5
  obtain ⟨c6, f6⟩ := oneC h6
  obtain ⟨c7, f7⟩ := oneC h7
  rw [← hU]
  refine ⟨.tuple #[.slice none 0 0, .int .i64 0, .int .i64 2], ?_, ⟨none, 0, 0, 2, [], rfl, ?_, StAt.nil_ _ _ _, fun _ h => absurd h (List.not_mem_nil)⟩, hB⟩
  · simp [results, Tryd.f47, go_sem, c5, c6, c7]
  · unfold parL
    rw [if_pos]
    have : s.data.toList.length = s.size := rfl
    omega
end Go.Proofs.YtlhhcgiifgkngaaDoor
