/- Texts joined: LinesTP, LinesTW, FileParseW, MapS, RuleJP, KeysLay. Conditions: theirs. -/
import Derived.Test.YtoiolepengcagaaDoorFileCycleWM10
import Derived.StillTailTactics
import Derived.Maps.OwnSet
import Derived.Maps.AppendAt
import Derived.Sort.KeysCollected
import Derived.Test.YtoiolepengcagaaDoorFileCycleWM4
import Derived.Shelf.SlIter.Sorted
import Derived.Shelf.SlIter.Keys
import Derived.Test.YtoiolepengcagaaDoorProg
import Derived.Test.YtoiolepengcagaaDoorShelf
namespace Go.Proofs.YtoiolepengcagaaDoor
open Go.RowKit Go.Shelf Go.Maps
def updT (T : Bl → Option Bl) (n t : Bl) : Bl → Option Bl := fun x => if x = n then some t else T x
/-- the texts, laid one by one; an error where a name is none, or there already -/
def putsT : (Bl → Option Bl) → List (Bl × Bl) → (Bl → Option Bl) × Int
  | T, [] => (T, 0)
  | T, x :: l => if nameE (txt x.1) ≠ 0 then (T, 3) else if (T x.1).isSome = true then (T, 6) else putsT (updT T x.1 x.2) l
def noT : Bl → Option Bl := fun _ => none
def linesT (s : Bl) (l : List (Bl × Bl)) : Nat × List Bl × Int :=
  if 20 < l.length then (0, [], 2) else if (putsT noT l).2 ≠ 0 then (0, [], (putsT noT l).2) else readR (putsT noT l).1 l.length [] 0 [] s
theorem putsT_mem : ∀ (l : List (Bl × Bl)) (T : Bl → Option Bl) (n t : Bl), (putsT T l).1 n = some t → T n = some t ∨ (n, t) ∈ l := by
  intro l
  induction l with
  | nil => intro T n t h; exact .inl h
  | cons x l ih =>
    intro T n t h
    unfold putsT at h
    split at h
    · exact .inl h
    · split at h
      · exact .inl h
      · rcases ih _ n t h with h2 | h2
        · unfold updT at h2
          by_cases e : n = x.1
          · rw [if_pos e] at h2
            have h3 : x.2 = t := Option.some.inj h2
            rw [e, ← h3]
            exact .inr List.mem_cons_self
          · rw [if_neg e] at h2
            exact .inl h2
        · exact .inr (List.mem_cons_of_mem _ h2)
theorem putsT_cons {T : Bl → Option Bl} {x : Bl × Bl} {l : List (Bl × Bl)} : putsT T (x :: l) = if nameE (txt x.1) ≠ 0 then (T, 3) else if (T x.1).isSome = true then (T, 6) else putsT (updT T x.1 x.2) l := by rw [putsT]
end Go.Proofs.YtoiolepengcagaaDoor
namespace Go.Proofs.YtoiolepengcagaaDoor
open Go.RowKit Go.Shelf Go.Maps Go.WideMaps
/-- a text is laid into the map -/
theorem store_t (w : World) {ops : Array Oper} {rest : List Oper} {o : Oper} {a : Act} {Q : Exit → Act → World → Prop}
    (hg : o.guard = none) (m x v : Operand) (hop : o.op = Op.mapUpdate 53 m x v) {B n : Nat} {T : Bl → Option Bl}
    (hm : a.eval m = .map (some B)) (hH : MapT w B n T) (hn : n < maxLen) (s t : Bl) (hx : a.eval x = .string (txt s)) (hs : s.length ≤ 4611686018427387904) (hv : a.eval v = .string (txt t))
    (hK : ∀ w', MapT w' B (n + 1) (updT T s t) → w.grownBy w' (some B) → wpList Tryd.prog ops Q rest (a.put o.dst undef) w') : wpList Tryd.prog ops Q (o :: rest) a w := by
  obtain ⟨D, h1, h2, h3⟩ := hH
  have hT := (h1.tidy lawT).isMap
  have hk := keyOf_string_mk Tryd.underlying9 (s := txt s) (by rw [txt_size]; unfold maxLen; omega)
  rw [txt_list] at hk
  refine wpList_mapUpdate_own w hg m x v _ hop 9 9 lawT Tryd.underlying53 rawT B n D hm h1 hn _ _ _ hx hv hk (.held (.string (txt t))) [] rfl (fun w' r1 r2 => hK w' ⟨_, r1, fun y => ?_, fun y => ?_⟩ r2)
  · unfold updT
    by_cases hy : y = s
    · subst hy
      rw [if_pos rfl]
      exact atKey_put_same hT (show WideAt.IsKeyLit (.string y) from trivial) _ _
    · rw [if_neg hy, ← h2]
      exact atKey_put_other (fun e => hy (by injection e)) _ _
  · unfold updT
    by_cases hy : y = s
    · subst hy
      rw [if_pos rfl]
      exact has_put_same hT (show WideAt.IsKeyLit (.string y) from trivial) _
    · rw [if_neg hy, has_put_other (fun e => hy (by injection e)), h3]
set_option maxHeartbeats 8000000 in
set_option maxRecDepth 100000 in
theorem LinesT_ok (s : ByteArray) (hs : s.size ≤ 4611686018427387904) (q : Option Addr) (n c : Nat) (l : List Mac) (w : World) (hM : ML w) (hP : P2At mF mG w q n c l) (hl : ∀ x ∈ l, x.1.length ≤ 4611686018427387904 ∧ x.2.length ≤ 4611686018427387904) :
    Calls Tryd.prog 7 #[.string s, .slice q n c] w (LinesPost w (linesT s.data.toList l)) := by
  have hlen := hP.len
  subst hlen
  by_cases h20 : 20 < l.length
  · have hE : linesT s.data.toList l = (0, [], 2) := by unfold linesT; rw [if_pos h20]
    rw [hE]
    have hd : decide ((20 : Int) < (l.length : Int)) = true := decide_eq_true (by omega)
    clear hE hP hM hl
    go_enter Tryd.func7, Tryd.ntmps7
    go_wp2
    go_ret2
    exact ⟨.inl ⟨by decide, rfl⟩, Below.refl _ _⟩
  have hd : decide ((20 : Int) < (l.length : Int)) = false := decide_eq_false (by omega)
  have hl20 : l.length ≤ 20 := by omega
  have hmm := @run_makeMap Tryd.prog
  obtain ⟨W1, hW1⟩ : ∃ W1, W1 = w.alloc (.map #[] 0) := ⟨_, rfl⟩
  have hB1 : Below w.heap.size w W1 := by rw [hW1]; exact rb1w _ _
  have hs1 : W1.heap.size = w.heap.size + 1 := by rw [hW1]; simp
  have hm1 : MapT W1 w.heap.size 0 noT := by rw [hW1]; exact MapT.made w
  obtain ⟨W, hW⟩ : ∃ W, W = W1.alloc (.cells #[.map (some w.heap.size), .slice none 0 0, .int .i64 0, .slice none 0 0] 55) := ⟨_, rfl⟩
  have hB2 : Below W1.heap.size W1 W := by rw [hW]; exact rb1w _ _
  have hs2 : W.heap.size = W1.heap.size + 1 := by rw [hW]; simp
  have hz : W.heap[w.heap.size + 1]? = some (.cells #[.map (some w.heap.size), .slice none 0 0, .int .i64 0, .slice none 0 0] 55 (0, 0)) := by rw [hW, ← hs1]; exact rb_new W1 _
  have HBW : Hid (Below w.heap.size w W) := hB1.trans (hB2.mono hB1.size)
  have HMT := Lib.hid (hm1.below hB2)
  have HZ := Lib.hid hz
  have HP := Lib.hid hP
  have HM := Lib.hid hM
  have HL := Lib.hid hl
  have HS : Hid (W.heap.size = w.heap.size + 2) := by show _ = _; omega
  have HLE : Hid (linesT s.data.toList l = if (putsT noT l).2 ≠ 0 then (0, [], (putsT noT l).2) else readR (putsT noT l).1 l.length [] 0 [] s.data.toList) := by
    show _ = _
    unfold linesT
    rw [if_neg h20]
  have HGL : Hid (0 < w.heap.size + 1) := by show _ < _; have := hM.lt; omega
  clear hB1 hm1 hB2 hz hs1 hs2 hP hM hl h20
  go_enter Tryd.func7, Tryd.ntmps7
  go_upto_region 4 with fail
  rw [← hW1, ← hW]
  clear hW hW1
  go_wp2_with fail
  go_loopw [20] (fun i wr => ∃ (j nm : Nat) (T : Bl → Option Bl), j ≤ l.length ∧ nm ≤ j ∧ i = .int .i64 j ∧ w.heap.size + 2 ≤ wr.heap.size ∧ Hid (MapT wr w.heap.size nm T) ∧ Hid (wr.heap[w.heap.size + 1]? = some (.cells #[.map (some w.heap.size), .slice none 0 0, .int .i64 0, .slice none 0 0] 55 (0, 0))) ∧
    Hid (Below w.heap.size w wr) ∧ Hid (putsT noT l = putsT T (l.drop j))) (fun i _ => l.length - (intOf i).toNat)
  case atStart => exact ⟨0, 0, noT, Nat.zero_le _, Nat.le_refl _, rfl, Nat.le_of_eq HS.out.symm, HMT.out, HZ.out, HBW.out, rfl⟩
  case round =>
    obtain ⟨j, nm, T, hj, hnm, rfl, hsz, HT, HB, HW, HPU⟩ := hrel
    by_cases hlt : j < l.length
    · obtain ⟨x, hx⟩ : ∃ x, l[j]? = some x := ⟨l[j], List.getElem?_eq_getElem hlt⟩
      have hxm := HL.out x (List.mem_of_getElem? hx)
      obtain ⟨bb, ob, rfl, hbb, hca, hcb⟩ := (HP.out.below HW.out).cell hx
      have hcb2 : wr.cell? ⟨bb, ob + j * 2 + 1, none⟩ = some (mG x) := hcb
      have HTD : Hid (l.drop j = x :: l.drop (j + 1)) := by
        show _ = _
        rw [List.drop_eq_getElem_cons hlt]
        congr 1
        have := List.getElem?_eq_getElem hlt
        rw [hx] at this
        exact (Option.some.inj this).symm
      clear hcb hx
      obtain ⟨nn, tt⟩ := x
      simp only [mF, mG] at hca hcb2
      obtain ⟨hn1, hn2⟩ := hxm
      simp only at hn1 hn2
      have hj1 : (j : Int) < (l.length : Int) := by omega
      obtain ⟨X, hX⟩ : ∃ X, X = wr.alloc (.cells #[.string (txt nn), .string (txt tt)] 27) := ⟨_, rfl⟩
      have hbX : Below wr.heap.size wr X := by rw [hX]; exact rb1w _ _
      have hXs : X.heap.size = wr.heap.size + 1 := by rw [hX]; simp
      have hx1 : X.heap[wr.heap.size]? = some (.cells #[.string (txt nn), .string (txt tt)] 27 (0, 0)) := by rw [hX]; exact rb_new _ _
      have HTX := Lib.hid (HT.out.below hbX)
      have HBX : Hid (X.heap[w.heap.size + 1]? = some (.cells #[.map (some w.heap.size), .slice none 0 0, .int .i64 0, .slice none 0 0] 55 (0, 0))) := by
        show _ = _
        rw [hbX.block _ (by omega)]
        exact HB.out
      have HWX := Lib.hid (HW.out.trans (hbX.mono HW.out.size))
      have HX1 := Lib.hid hx1
      have HXS := Lib.hid hXs
      go_upto_region 7 with fail
      rw [← hX]
      clear hX hca hcb2 hx1 hXs
      obtain ⟨⟨c0, _, _, _⟩, _⟩ := boxF HBX.out
      obtain ⟨y0, y1, y2⟩ := rb_cells HX1.out
      have hsn : (txt nn).size ≤ maxLen := by rw [txt_size]; unfold maxLen; omega
      have hlk : ∀ q, Sem.run Tryd.prog (Instr.lookup 53 (.map (some w.heap.size)) (.string (txt nn)) true) (X.drewN q) = .ok (.tuple #[.string (txt ((T nn).getD [])), .bool (T nn).isSome]) (X.drewN q) := by
        intro q
        have := (HTX.out.below (below_drawsP (Below.refl _ _) q)).look _ hsn
        rw [txt_list] at this
        exact this
      have hlk0 := hlk 0
      have hlk1 := hlk 1
      clear hsn
      go_quiet (fail)
      obtain ⟨V, hV⟩ : ∃ V, V = X.drewN nq := ⟨_, rfl⟩
      have hBV : Below X.heap.size X V := by rw [hV]; exact below_drawsP (Below.refl _ _) nq
      have HTV := Lib.hid (HTX.out.below hBV)
      have HVS : Hid (V.heap.size = wr.heap.size + 1) := by show _ = _; rw [hV]; exact HXS.out
      have HBV : Hid (V.heap[w.heap.size + 1]? = some (.cells #[.map (some w.heap.size), .slice none 0 0, .int .i64 0, .slice none 0 0] 55 (0, 0))) := by
        show _ = _
        rw [hBV.block _ (by rw [HXS.out]; omega)]
        exact HBX.out
      have HXV : Hid (V.heap[wr.heap.size]? = some (.cells #[.string (txt nn), .string (txt tt)] 27 (0, 0))) := by
        show _ = _
        rw [hBV.block _ (by rw [HXS.out]; omega)]
        exact HX1.out
      have HWV := Lib.hid (HWX.out.trans (hBV.mono HWX.out.size))
      rw [← hV]
      clear hV hlk hlk0 hlk1 c0 y0 y1 y2 hBV
      obtain ⟨⟨c0, _, _, _⟩, _⟩ := boxF HBV.out
      obtain ⟨y0, y1, y2⟩ := rb_cells HXV.out
      have hcn := CheckN_ok (txt nn) (by rw [txt_size]; omega) V
      by_cases hE : nameE (txt nn) = 0
      · rw [hE] at hcn
        have HCN := Lib.hid hcn
        have HE0 := Lib.hid hE
        clear hcn hE
        cases hT : (T nn).isSome with
        | true =>
          have HRES : Hid (linesT s.data.toList l = (0, [], 6)) := by
            show _ = _
            have hp : putsT noT l = (T, 6) := by rw [HPU.out, HTD.out, putsT_cons, if_neg (fun e => e HE0.out), if_pos hT]
            rw [HLE.out, hp, if_pos (show (6 : Int) ≠ 0 by decide)]
          clear hT
          go_wp2_with (go_at_call 6; refine HCN.out.mono ?_; rintro e w6 ⟨rfl, rfl⟩)
          go_ret2
          rw [HRES.out]
          exact ⟨.inl ⟨by decide, rfl⟩, HWV.out⟩
        | false =>
          have HPN : Hid (putsT noT l = putsT (updT T nn tt) (l.drop (j + 1))) := by
            show _ = _
            rw [HPU.out, HTD.out, putsT_cons, if_neg (fun e => e HE0.out), if_neg (by rw [hT]; decide)]
          clear hT
          go_upto_region 12 with (go_at_call 6; refine HCN.out.mono ?_; rintro e w6 ⟨rfl, rfl⟩)
          go_still_tail 8, (by kernel_rfl)
          change wpList _ _ _ _ _ V.drew
          have HTD2 := Lib.hid (HTV.out.below ((Below.refl V.heap.size V).drew))
          clear c0 y0 y1 y2
          go_wp2_with (at_mapUpdate; refine store_t _ rfl _ _ _ rfl rfl HTD2.out (by unfold maxLen; omega) nn tt rfl hn1 rfl ?_; intro w5 h1 h2; have HM5 := Lib.hid h1; have HG5 := Lib.hid h2; clear h1 h2)
          go_roundw
          case rel =>
            have hV5 : V.grownBy w5 (some w.heap.size) := ⟨HG5.out.os, HG5.out.tape, HG5.out.output, HG5.out.size, HG5.out.block⟩
            refine ⟨j + 1, nm + 1, updT T nn tt, by omega, by omega, by go_num, by have := hV5.size; have := HVS.out; omega, HM5.out, ?_, ?_, HPN.out⟩
            · show _ = _
              rw [hV5.block _ (by have := HVS.out; omega) (fun e => by injection e; omega)]
              exact HBV.out
            · show Below _ _ _
              exact HWV.out.grown hV5 HWV.out.size (fun k hk => by injection hk with hk; omega)
          case measure => simp [intOf]; omega
      · obtain ⟨i1, i2⟩ := int_ne' hE
        have h3 : nameE (txt nn) = 3 := (nameE_cases (txt nn)).resolve_left hE
        have HRES : Hid (linesT s.data.toList l = (0, [], 3)) := by
          show _ = _
          have hp : putsT noT l = (T, 3) := by rw [HPU.out, HTD.out, putsT_cons, if_pos hE]
          rw [HLE.out, hp, if_pos (show (3 : Int) ≠ 0 by decide)]
        rw [h3] at hcn
        have HCN := Lib.hid hcn
        clear hcn hE h3 i1 i2
        go_wp2_with (go_at_call 6; refine HCN.out.mono ?_; rintro e w6 ⟨rfl, rfl⟩)
        go_ret2
        rw [HRES.out]
        exact ⟨.inl ⟨by decide, rfl⟩, HWV.out⟩
    · obtain rfl : j = l.length := by omega
      have hpt : putsT noT l = (T, 0) := by
        rw [HPU.out, List.drop_length]
        rfl
      have h20 : l.length ≤ 20 := by have := of_decide_eq_false hd; omega
      have HRES : Hid (linesT s.data.toList l = readR T l.length [] 0 [] s.data.toList) := by
        show _ = _
        rw [HLE.out, hpt, if_neg (fun e => e rfl)]
      have hmem : ∀ n t, T n = some t → (n, t) ∈ l := fun n t h => (putsT_mem l noT n t (by rw [hpt]; exact h)).resolve_left (fun e => by cases e)
      have hrs : RSt wr.heap.size (w.heap.size + 1) T [] 0 [] ⟨w.heap.size, nm, none, 0, none, 0⟩ wr := RSt.start HB.out (by omega) HT.out (by omega)
      have hrd := read_ok wr.heap.size (w.heap.size + 1) T l.length [] 0 [] _ s wr hrs (Nat.le_refl _) (HM.out.below HW.out) hs (by omega) HGL.out (fun h0 x hx _ =>
        inc_ok wr.heap.size (w.heap.size + 1) T (l.map (·.1)) (fun n hn => by
          obtain ⟨t, ht⟩ := Option.isSome_iff_exists.1 hn
          exact List.mem_map.2 ⟨(n, t), hmem n t ht, rfl⟩) (fun n t ht => (HL.out _ (hmem n t ht)).2) (by rw [List.length_map]; omega) HGL.out l.length [] x List.nodup_nil (fun y hy => by cases hy) (by rw [List.length_map]; omega) (by
          obtain ⟨y, hy, rfl⟩ := List.mem_map.1 hx
          have h1 := joinL_size hy
          have h2 := joinE_size h0
          rw [ba_len] at h1
          omega))
      unfold ReadPost at hrd
      obtain ⟨R, hR⟩ : ∃ R, R = readR T l.length [] 0 [] s.data.toList := ⟨_, rfl⟩
      rw [← hR] at hrd HRES
      obtain ⟨m6, o6, E⟩ := R
      simp only at hrd
      have HRD : Hid (Calls Tryd.prog 19 #[.pointer (some ⟨w.heap.size + 1, 0, none⟩), .string s] wr fun e w' => e = .returned (.int .i64 E) ∧ (∃ r', RSt wr.heap.size (w.heap.size + 1) T [] m6 o6 r' w') ∧ Below w.heap.size w w') := by
        show Calls _ _ _ _ _
        refine hrd.mono ?_
        rintro e w' ⟨h1, ⟨r', h2, _, _⟩, h3, _⟩
        exact ⟨h1, ⟨r', h2⟩, HW.out.trans (h3.belowOf (by omega) (by omega) (fun k hk => by cases hk) (fun k hk => by cases hk))⟩
      clear hrd hR hrs hmem hpt
      by_cases hE : E = 0
      · subst hE
        go_upto_region 17 with (go_at_call 19; refine HRD.out.mono ?_; rintro e w6 ⟨rfl, ⟨r6, hr6⟩, hb6⟩; have HR6 := Lib.hid hr6; have HB6 := Lib.hid hb6; obtain ⟨⟨c0, c1, c2, c3⟩, c4⟩ := hr6.cells; clear hr6 hb6)
        go_wp2
        go_ret2
        rw [HRES.out]
        exact ⟨.inr ⟨rfl, (by have := HR6.out.lq; have := HR6.out.lm; show o6.length ≤ _; omega), r6.pq, r6.cq, rfl, HR6.out.outNL⟩, HB6.out⟩
      · obtain ⟨i1, i2⟩ := int_ne' hE
        have HNE := Lib.hid hE
        clear hE
        go_wp2_with (go_at_call 19; refine HRD.out.mono ?_; rintro e w6 ⟨rfl, _, hb6⟩; have HB6 := Lib.hid hb6; clear hb6)
        go_ret2
        rw [HRES.out]
        exact ⟨.inl ⟨HNE.out, rfl⟩, HB6.out⟩
end Go.Proofs.YtoiolepengcagaaDoor
namespace Go.Proofs.YtoiolepengcagaaDoor
open Go.RowKit Go.Shelf
set_option maxHeartbeats 16000000 in
set_option maxRecDepth 100000 in
theorem ParseF_ok (p : Option Addr) (n c : Nat) (zs : List ByteArray) (w : World) (h : NLw w p n c zs) (hM : MLm w) (hs : ∀ z ∈ zs, z.size ≤ 1048600) :
    Calls Tryd.prog 17 #[.slice p n c] w (ParsePF w (lsB zs)) := by
  have hl := h.at_.len
  subst hl
  have hbig := h.at_.big
  obtain ⟨W0, hW0⟩ : ∃ W0, W0 = w.alloc (.cells #[.slice none 0 0, .slice none 0 0, .slice none 0 0, .slice none 0 0] 48) := ⟨_, rfl⟩
  have hB0 : Below w.heap.size w W0 := by rw [hW0]; exact (Below.refl _ _).alloc (Nat.le_refl _) _
  have hs0 : W0.heap.size = w.heap.size + 1 := by rw [hW0]; simp
  have hz0 : W0.heap[w.heap.size]? = some (.cells #[.slice none 0 0, .slice none 0 0, .slice none 0 0, .slice none 0 0] 48 (0, 0)) := by rw [hW0]; exact rb_new w _
  have hlt0 : w.heap.size < W0.heap.size := by omega
  have HB0 := Lib.hid hB0
  have HS0 := Lib.hid hs0
  have HZ0 := Lib.hid hz0
  by_cases h200 : 200 < zs.length
  · have HE := Lib.hid (parseF_l (l := lsB zs) (by rw [lsB_len]; exact h200))
    have hd : decide ((200 : Int) < (zs.length : Int)) = true := decide_eq_true (by omega)
    obtain ⟨⟨b0, b1, b2, b3⟩, b4⟩ := boxF hz0
    clear h hM hs hB0 hs0 hz0
    go_enter Tryd.func17, Tryd.ntmps17
    go_upto_region 1 with fail
    rw [← hW0]
    clear hW0
    go_wp2
    refine bodyPost_ret (v := .tuple #[nilFile, .int .i64 0, .int .i64 2]) (results_ctt Tryd.results17 _ _ w.heap.size 48 _ (0, 0) _ _ _ rfl rfl rfl (boxF_all HZ0.out _ _ _ _) Tryd.underlying48 rfl (by kernel_rfl)) rfl ⟨⟨nilFile, by rw [HE.out]; rfl, .inl ⟨by rw [HE.out]; decide, rfl⟩⟩, below_setF HB0.out (Nat.le_refl _) _ _ _ _⟩
  · have H200 := Lib.hid h200
    have hd : decide ((200 : Int) < (zs.length : Int)) = false := decide_eq_false (by omega)
    have hn200 : zs.length ≤ 200 := by omega
    obtain ⟨W, hW⟩ : ∃ W, W = W0.alloc (.cells #[.slice none 0 0, .slice none 0 0, .slice none 0 0, .slice none 0 0] 48) := ⟨_, rfl⟩
    have hB1 : Below W0.heap.size W0 W := by rw [hW]; exact (Below.refl _ _).alloc (Nat.le_refl _) _
    have hs1 : W.heap.size = W0.heap.size + 1 := by rw [hW]; simp
    have hz1 : W.heap[W0.heap.size]? = some (.cells #[.slice none 0 0, .slice none 0 0, .slice none 0 0, .slice none 0 0] 48 (0, 0)) := by rw [hW]; exact rb_new W0 _
    have HS1 := Lib.hid hs1
    have HBW : Hid (Below w.heap.size w W) := hB0.trans (hB1.mono hB0.size)
    have HNW := Lib.hid (h.below HBW.out)
    have HMW := Lib.hid (hM.below HBW.out)
    have HZW : Hid (∀ u : World, Below W0.heap.size W u → u.heap[w.heap.size]? = some (.cells #[.slice none 0 0, .slice none 0 0, .slice none 0 0, .slice none 0 0] 48 (0, 0)) ∧ Below w.heap.size w u ∧ NLw u p zs.length c zs ∧ MLm u) := by
      show ∀ u : World, _
      intro u hu
      have h1 := HS0.out
      refine ⟨?_, HBW.out.trans (hu.mono (by omega)), h.below (HBW.out.trans (hu.mono (by omega))), hM.below (HBW.out.trans (hu.mono (by omega)))⟩
      rw [hu.block _ (by omega), hB1.block _ (by omega)]
      exact hz0
    have HSZ := Lib.hid hs
    have HF0 : Hid (FSt W.heap.size W0.heap.size { file0 with ms := macsF ((lsB zs).take 0) } ⟨none, 0, none, 0, none, 0, none, 0⟩ [] [] W) := FSt.start hz1 (by omega)
    clear h hM hs hB0 hs0 hz0 hB1 hs1 hz1 h200 HNW HMW HZ0
    go_enter Tryd.func17, Tryd.ntmps17
    go_upto_region 1 with fail
    rw [← hW0]
    clear hW0
    go_upto_region 4 with fail
    rw [← hW]
    clear hW
    go_wp2_with fail
    go_loopw [25] (fun i wr => ∃ (k : Nat) (s : FV), k ≤ zs.length ∧ i = .int .i64 k ∧ Hid (FSt W.heap.size W0.heap.size { file0 with ms := macsF ((lsB zs).take k) } s [] [] wr) ∧ Hid (Below W0.heap.size W wr)) (fun i _ => zs.length - (intOf i).toNat)
    case atStart => exact ⟨0, _, Nat.zero_le _, rfl, HF0.out, Below.refl _ _⟩
    case round =>
      obtain ⟨k, s, hk, rfl, HF, HB⟩ := hrel
      by_cases hlt : k < zs.length
      · obtain ⟨hz, hbw, hnl, hml⟩ := HZW.out wr HB.out
        obtain ⟨ad, rfl, _, hc⟩ := str_at hnl.at_.reads hlt
        have hzs : (zs.getD k ByteArray.empty).size ≤ 1048600 := HSZ.out _ (by rw [List.getD_eq_getElem?_getD, List.getElem?_eq_getElem hlt]; exact List.getElem_mem hlt)
        have HMN := Lib.hid (macsF_next (lst_at hlt))
        have hml1 : (macsF ((lsB zs).take k)).length ≤ k := by have := macsF_len ((lsB zs).take k); rw [List.length_take] at this; omega
        have HDS := Lib.hid (defM_size (zs.getD k ByteArray.empty).data.toList)
        have HZS : Hid ((zs.getD k ByteArray.empty).data.toList.length ≤ 1048600) := by show _ ≤ _; rw [ba_len]; exact hzs
        have HD := Lib.hid (fun u => defines_ok (zs.getD k ByteArray.empty) hzs u)
        have hsz0 : W0.heap.size < wr.heap.size := HF.out.blt
        clear hz hbw hnl hml hzs
        generalize macsF ((lsB zs).take k) = ms at *
        generalize zs.getD k ByteArray.empty = z at *
        cases hdf : defB z.data.toList with
        | true =>
          have hdv : defV z.data.toList = .agg #[.string (txt (defM z.data.toList).1), .string (txt (defM z.data.toList).2)] := by unfold defV; rw [hdf]; rfl
          rw [hdf, hdv] at HD
          have HMN2 : Hid (macsF ((lsB zs).take (k + 1)) = ms ++ [defM z.data.toList]) := by show _ = _; rw [HMN.out, if_pos hdf]
          clear hdf hdv HMN
          generalize defM z.data.toList = m at *
          obtain ⟨m1, m2⟩ := m
          go_upto_region 8 with (go_at_call 25; refine (HD.out _).mono ?_; rintro e w1 ⟨rfl, hb⟩; have HB1 := Lib.hid hb; clear hb)
          obtain ⟨X, hX⟩ : ∃ X, X = w1.alloc (.cells #[.string (txt m1), .string (txt m2)] 67) := ⟨_, rfl⟩
          have hbX : Below wr.heap.size wr X := by rw [hX]; exact HB1.out.alloc HB1.out.size _
          have hx1 : X.heap[w1.heap.size]? = some (.cells #[.string (txt m1), .string (txt m2)] 67 (0, 0)) := by rw [hX]; exact rb_new _ _
          obtain ⟨x1, x2, x3⟩ := rb_cells hx1
          rw [← hX]
          clear hX hx1
          have HFX := Lib.hid (HF.out.below hbX)
          have e0 : X.cell? ⟨W0.heap.size, 0, none⟩ = some (.slice s.pm ms.length s.cm) := (boxF HFX.out.box).1.1
          have HBX := Lib.hid (HB.out.trans (hbX.mono (Nat.le_of_lt hsz0)))
          have HFA : Hid (FSt W.heap.size W0.heap.size { file0 with ms := ms } s [] [] (X.alloc (.cells #[.string (txt m1), .string (txt m2)] 67))) := HFX.out.below (rb1w X _)
          have HXS : Hid (W.heap.size ≤ (X.alloc (.cells #[.string (txt m1), .string (txt m2)] 67)).heap.size) := by show _ ≤ _; have := HBX.out.size; have := HS1.out; have := hbX.size; simp; omega
          clear hbX
          go_wp2_with (at_builtin; refine app_macL _ rfl _ _ rfl W.heap.size _ ms.length ms rfl HFA.out.ms X.heap.size (m1, m2) rfl ?c1 ?c2 (by omega) HXS.out ?_; rotate_right; intro v' w5 hown5 hgrow5; obtain ⟨p5, c5, rfl⟩ := slice_form hown5; have h5 := HFA.out.macro ⟨Nat.le_trans HDS.out.1 HZS.out, Nat.le_trans HDS.out.2 HZS.out⟩ hgrow5 hown5; have H5 := Lib.hid h5.2; have HG5 := Lib.hid hgrow5; obtain ⟨⟨b0, b1, b2, b3⟩, b4⟩ := boxF h5.1; have hblt := (Array.getElem?_eq_some_iff.1 h5.1).1; clear h5 hown5 hgrow5)
          case c1 => rfl
          case c2 => rfl
          go_roundw
          case rel => exact ⟨k + 1, _, by omega, by go_num, by rw [HMN2.out]; exact H5, below_app (HBX.out.alloc (by have := HBX.out.size; have := HS1.out; omega) _) HG5.out (by have := HXS.out; have := HS1.out; omega) (fun j hj => by have := (HFA.out.ms.lt j hj).1; have := HS1.out; omega) (Nat.le_refl _)⟩
          case measure => simp [intOf]; omega
        | false =>
          have hdv : defV z.data.toList = .agg #[.string ⟨#[]⟩, .string ⟨#[]⟩] := by unfold defV; rw [hdf]; rfl
          rw [hdf, hdv] at HD
          have HMN2 : Hid (macsF ((lsB zs).take (k + 1)) = ms) := by show _ = _; rw [HMN.out, if_neg (by rw [hdf]; decide), List.append_nil]
          clear hdf hdv HMN
          go_wp2_with (go_at_call 25; refine (HD.out _).mono ?_; rintro e w1 ⟨rfl, hb⟩; have HB1 := Lib.hid hb; clear hb)
          have hbX : Hid (∀ o, Below wr.heap.size wr (w1.alloc o)) := by show ∀ o, _; exact fun o => HB1.out.alloc HB1.out.size o
          go_roundw
          case rel => exact ⟨k + 1, s, by omega, by go_num, by rw [HMN2.out]; exact HF.out.below (hbX.out _), HB.out.trans ((hbX.out _).mono (Nat.le_of_lt hsz0))⟩
          case measure => simp [intOf]; omega
      · obtain rfl : k = zs.length := by omega
        rw [List.take_of_length_le (by rw [lsB_len]; exact Nat.le_refl _)] at HF
        have hml1 : (macsF (lsB zs)).length ≤ 200 := by have := macsF_len (lsB zs); rw [lsB_len] at this; omega
        have e0 : wr.cell? ⟨W0.heap.size, 0, none⟩ = some (.slice s.pm (macsF (lsB zs)).length s.cm) := (boxF HF.out.box).1.1
        have HFl : Hid (Calls Tryd.prog 26 #[.slice s.pm (macsF (lsB zs)).length s.cm] wr fun e w' => (∃ v, e = .returned (.tuple #[v, .int .i64 (flatsE okM (macsF (lsB zs)))])) ∧ Below wr.heap.size wr w') :=
          (Flat_ok s.pm (macsF (lsB zs)).length s.cm (macsF (lsB zs)) wr (HF.out.macs (by show (macsF (lsB zs)).length ≤ _; omega)) (HZW.out wr HB.out).2.2.2).mono (fun e w' hh => ⟨hh.1.elim fun v hv => ⟨v, hv.1⟩, hh.2⟩)
        obtain ⟨ms, hms⟩ : ∃ ms, ms = macsF (lsB zs) := ⟨_, rfl⟩
        rw [← hms] at HF hml1 e0 HFl
        have HMS := Lib.hid hms
        clear hms
        have hsz0 : W0.heap.size < wr.heap.size := HF.out.blt
        by_cases hE : flatsE okM ms = 0
        · have HR0 := Lib.hid (parseF_g (l := lsB zs) (by rw [lsB_len]; exact H200.out) (by rw [← HMS.out]; exact hE))
          rw [hE] at HFl
          clear hE
          go_upto_region 12 with (go_at_call 26; refine HFl.out.mono ?_; rintro e w2 ⟨⟨v, rfl⟩, hb⟩; have HB2 := Lib.hid (HB.out.trans (hb.mono (Nat.le_of_lt hsz0))); have HF2 := Lib.hid (HF.out.below hb); clear hb)
          obtain ⟨F0, hF0⟩ : ∃ F0 : FileV, F0 = { file0 with ms := ms } := ⟨_, rfl⟩
          have HBD0 : Hid (FBd F0 0) := by show FBd F0 0; rw [hF0]; exact ⟨Nat.zero_le _, Nat.zero_le _, Nat.zero_le _⟩
          have HMS0 : Hid (F0.ms = ms) := by show _ = _; rw [hF0]
          rw [← HMS.out, ← hF0] at HR0
          rw [← hF0] at HF2
          clear hF0 e0
          go_wp2_with fail
          go_loopw [54] (fun i wr => ∃ (k : Nat) (Fk : FileV) (s : FV) (rl : List RV), k ≤ zs.length ∧ i = .int .i64 k ∧ Hid (FSt W.heap.size W0.heap.size Fk s rl [] wr) ∧ Hid (FBd Fk k) ∧ Hid (Fk.ms = ms) ∧ Hid (parseF (lsB zs) = parseGo ms ((lsB zs).drop k) k Fk) ∧ Hid (Below W0.heap.size W wr)) (fun i _ => zs.length - (intOf i).toNat)
          case atStart => exact ⟨0, F0, s, [], Nat.zero_le _, rfl, HF2.out, HBD0.out, HMS0.out, by rw [List.drop_zero]; exact HR0.out, HB2.out⟩
          case round =>
            clear hk HF HB hml1 HFl hsz0 HF2 HB2 HBD0 HMS0 HR0 hlt
            obtain ⟨k, Fk, s, rl, hk, rfl, HF, HBD, HMK, HGO, HB⟩ := hrel
            by_cases hlt : k < zs.length
            · obtain ⟨hz, hbw, hnl, hml⟩ := HZW.out wr HB.out
              obtain ⟨ad, rfl, _, hc⟩ := str_at hnl.at_.reads hlt
              have hzs : (zs.getD k ByteArray.empty).size ≤ 1048600 := HSZ.out _ (by rw [List.getD_eq_getElem?_getD, List.getElem?_eq_getElem hlt]; exact List.getElem_mem hlt)
              have HLA := Lib.hid (lst_at hlt)
              have HD := Lib.hid (fun u => defines_ok (zs.getD k ByteArray.empty) hzs u)
              have hsz0 : W0.heap.size < wr.heap.size := HF.out.blt
              have hml1 : Fk.ms.length ≤ 200 := by rw [HMK.out, HMS.out]; have := macsF_len (lsB zs); rw [lsB_len] at this; omega
              have HZS : Hid ((zs.getD k ByteArray.empty).data.toList.length ≤ 1048600) := by show _ ≤ _; rw [ba_len]; exact hzs
              clear hz hbw hnl hml hzs
              generalize zs.getD k ByteArray.empty = z at *
              cases hdf : defB z.data.toList with
              | true =>
                have hdv : defV z.data.toList = .agg #[.string (txt (defM z.data.toList).1), .string (txt (defM z.data.toList).2)] := by unfold defV; rw [hdf]; rfl
                rw [hdf, hdv] at HD
                have HGN := Lib.hid (parseGo_def (ms := ms) (F := Fk) HLA.out hdf)
                clear hdf hdv
                generalize defM z.data.toList = m at *
                obtain ⟨m1, m2⟩ := m
                go_wp2_with (go_at_call 25; refine (HD.out _).mono ?_; rintro e w1 ⟨rfl, hb⟩; have HB1 := Lib.hid hb; clear hb)
                have hbX : Hid (∀ o, Below wr.heap.size wr (w1.alloc o)) := by show ∀ o, _; exact fun o => HB1.out.alloc HB1.out.size o
                go_roundw
                case rel => exact ⟨k + 1, Fk, s, rl, by omega, by go_num, HF.out.below (hbX.out _), ⟨HBD.out.p, Nat.le_succ_of_le HBD.out.i, HBD.out.r⟩, HMK.out, by rw [← HGN.out]; exact HGO.out, HB.out.trans ((hbX.out _).mono (Nat.le_of_lt hsz0))⟩
                case measure => simp [intOf]; omega
              | false =>
                have hdv : defV z.data.toList = .agg #[.string ⟨#[]⟩, .string ⟨#[]⟩] := by unfold defV; rw [hdf]; rfl
                rw [hdf, hdv] at HD
                have HDF := Lib.hid hdf
                clear hdf hdv
                go_upto_region 18 with (go_at_call 25; refine (HD.out _).mono ?_; rintro e w1 ⟨rfl, hb⟩; have HB1 := Lib.hid hb; clear hb)
                obtain ⟨X, hX⟩ : ∃ X, X = w1.alloc (.cells #[.string ⟨#[]⟩, .string ⟨#[]⟩] 67) := ⟨_, rfl⟩
                have hbX : Below wr.heap.size wr X := by rw [hX]; exact HB1.out.alloc HB1.out.size _
                rw [← hX]
                clear hX
                have HFX := Lib.hid (HF.out.below hbX)
                have HBX := Lib.hid (HB.out.trans (hbX.mono (Nat.le_of_lt hsz0)))
                have e0 : X.cell? ⟨W0.heap.size, 0, none⟩ = some (.slice s.pm Fk.ms.length s.cm) := (boxF HFX.out.box).1.1
                have hex := Expand_ok s.pm Fk.ms.length s.cm Fk.ms z.data.toList X (HFX.out.macs (by omega)) (HZW.out X HBX.out).2.2.2 HZS.out
                rw [list_txt, HMK.out] at hex
                rw [HMK.out] at e0
                have HEX := Lib.hid hex
                clear hex hbX hc
                by_cases hE1 : (expandE okM ms z.data.toList).1 = 0
                · have HSH := Lib.hid (expand_short hE1)
                  rw [hE1] at HEX
                  have HE1 := Lib.hid hE1
                  clear hE1
                  have hpr := fun u => ParseRO_ok (txt (expandE okM ms z.data.toList).2) u (by rw [txt_size]; have := HSH.out; omega)
                  rw [txt_list] at hpr
                  have HPR := Lib.hid hpr
                  clear hpr
                  obtain ⟨t, ht⟩ : ∃ t, t = (expandE okM ms z.data.toList).2 := ⟨_, rfl⟩
                  rw [← ht] at HEX HSH HPR
                  have HT := Lib.hid ht
                  clear ht
                  by_cases hE2 : parseE t = 0
                  · have HE2 := Lib.hid hE2
                    have HRO := Lib.hid (parse_rule hE2)
                    have HLF : Hid (lineF ms z.data.toList Fk = addF Fk (parseT t) (parseN t)) := by
                      show _ = _
                      rw [lineF_a HE1.out (by rw [← HT.out]; exact hE2), ← HT.out]
                    have HPRY : Hid (∀ u : World, Calls Tryd.prog 20 #[.string (txt t)] u fun e w' => (∃ g1 g2, e = .returned (.tuple #[.agg #[.slice (some ⟨g1, 0, none⟩) (parseT t).length (parseT t).length, .slice (some ⟨g2, 0, none⟩) (parseN t).length (parseN t).length], .int .i64 0]) ∧ RowS w' u.heap.size g1 (parseT t) ∧ RowS w' u.heap.size g2 (parseN t)) ∧ Below u.heap.size u w') := by
                      show ∀ u : World, _
                      intro u
                      refine (HPR.out u).mono ?_
                      rintro e w' ⟨⟨v, rfl, hv⟩, hb⟩
                      rcases hv with ⟨hv, _⟩ | ⟨_, g1, g2, rfl, h1, h2, _⟩
                      · exact absurd hE2 hv
                      · exact ⟨⟨g1, g2, by rw [hE2], h1, h2⟩, hb⟩
                    clear hE2 HPR
                    generalize parseT t = RT at *
                    generalize parseN t = RN at *
                    go_upto_region 23 with (first
                      | (go_at_call 27; refine HEX.out.mono ?_; rintro e w2 ⟨rfl, hb⟩; have HX2 := Lib.hid hb; clear hb)
                      | (go_at_call 20; refine (HPRY.out _).mono ?_; rintro e w3 ⟨⟨g1, g2, rfl, hr1, hr2⟩, hb⟩; have HX3 := Lib.hid hb; have HR1 := Lib.hid hr1; have HR2 := Lib.hid hr2; clear hb hr1 hr2))
                    have HBX2 := Lib.hid (HBX.out.trans (HX2.out.mono (by have := HBX.out.size; have := HS1.out; omega)))
                    have HBX3 := Lib.hid (HBX2.out.trans (HX3.out.mono (by have := HBX2.out.size; have := HS1.out; omega)))
                    have HFY := Lib.hid (HFX.out.below HX2.out)
                    have HFZ := Lib.hid (HFY.out.below HX3.out)
                    obtain ⟨V, hV⟩ : ∃ V, V = w3.alloc (.cells #[.slice (some ⟨g1, 0, none⟩) RT.length RT.length, .slice (some ⟨g2, 0, none⟩) RN.length RN.length] 34) := ⟨_, rfl⟩
                    have hbV : Below w3.heap.size w3 V := by rw [hV]; exact rb1w _ _
                    obtain ⟨x1, x2, x3⟩ := rb_cells (show V.heap[w3.heap.size]? = some (.cells #[.slice (some ⟨g1, 0, none⟩) RT.length RT.length, .slice (some ⟨g2, 0, none⟩) RN.length RN.length] 34 (0, 0)) from by rw [hV]; exact rb_new _ _)
                    rw [← hV]
                    clear hV
                    have HBV := Lib.hid (HBX3.out.trans (hbV.mono (by have := HBX3.out.size; have := HS1.out; omega)))
                    have hWY : W.heap.size ≤ w2.heap.size := HBX2.out.size
                    have HFV : Hid (FSt W.heap.size W0.heap.size Fk s rl [⟨g1, g2, RT, RN⟩] V) := (HFZ.out.below hbV).with ((HR1.out.below hbV).weaken hWY) ((HR2.out.below hbV).weaken hWY) (HFY.out.pbl HR1.out.lt.1) (HFY.out.pbl HR2.out.lt.1)
                    have HAD := Lib.hid (add_ok W.heap.size W0.heap.size Fk s rl ⟨g1, g2, RT, RN⟩ V HFV.out (HZW.out V HBV.out).2.2.2 HBV.out.size HRO.out HBD.out.p (by have := HBD.out.i; omega) (by have := HBD.out.r; omega))
                    have HBD2 := Lib.hid (fun hE => addF_bd (T := RT) (N := RN) HBD.out hE)
                    have HGB := Lib.hid (fun hE => (HGO.out).trans (parseGo_bad (ms := ms) (F := Fk) HLA.out HDF.out hE))
                    have HGG := Lib.hid (fun hE => (HGO.out).trans (parseGo_good (ms := ms) (F := Fk) HLA.out HDF.out hE))
                    rw [HLF.out] at HGB HGG
                    unfold AddPost at HAD
                    obtain ⟨af, haf⟩ : ∃ af, af = addF Fk RT RN := ⟨_, rfl⟩
                    simp only [← haf] at HAD HBD2 HGB HGG
                    clear haf hbV hWY
                    obtain ⟨F3, E⟩ := af
                    simp only at HAD HBD2 HGB HGG
                    have HADC : Hid (Calls Tryd.prog 28 #[.pointer (some ⟨W0.heap.size, 0, none⟩), .agg #[.slice (some ⟨g1, 0, none⟩) RT.length RT.length, .slice (some ⟨g2, 0, none⟩) RN.length RN.length]] V fun e w' => e = .returned (.int .i64 E) ∧ (∃ s rl, FSt W.heap.size W0.heap.size F3 s rl [] w') ∧ Below W0.heap.size V w' ∧ V.heap.size ≤ w'.heap.size) := HAD.out
                    clear HAD
                    by_cases hE3 : E = 0
                    · subst hE3
                      obtain ⟨hbd, hmk⟩ := HBD2.out rfl
                      have HBDN := Lib.hid hbd
                      have HMKN := Lib.hid (hmk.trans HMK.out)
                      have HGN := Lib.hid (HGG.out rfl)
                      clear hbd hmk
                      go_wp2_with (go_at_call 28; refine HADC.out.mono ?_; rintro e w5 ⟨rfl, ⟨s5, rl5, hf5⟩, hb5, hs5⟩; have HF5 := Lib.hid hf5; have HB5 := Lib.hid hb5; clear hf5 hb5 hs5)
                      go_roundw
                      case rel => exact ⟨k + 1, F3, s5, rl5, by omega, by go_num, HF5.out, HBDN.out, HMKN.out, HGN.out, HBV.out.trans HB5.out⟩
                      case measure => simp [intOf]; omega
                    · obtain ⟨i1, i2⟩ := int_ne' hE3
                      have HNE := Lib.hid hE3
                      have HR := Lib.hid (HGB.out hE3)
                      clear hE3
                      go_upto_region 26 with (go_at_call 28; refine HADC.out.mono ?_; rintro e w5 ⟨rfl, _, hb5, _⟩; have HB5 := Lib.hid (HBV.out.trans hb5); clear hb5)
                      obtain ⟨hz, hbw, _, _⟩ := HZW.out w5 HB5.out
                      obtain ⟨⟨b0, b1, b2, b3⟩, b4⟩ := boxF hz
                      have hlt2 : w.heap.size < w5.heap.size := (Array.getElem?_eq_some_iff.1 hz).1
                      have HZ := Lib.hid hz
                      have HBF := Lib.hid hbw
                      clear hz hbw
                      go_wp2
                      refine bodyPost_ret (v := .tuple #[nilFile, .int .i64 ((k : Int) + 1), .int .i64 E]) (results_ctt Tryd.results17 _ _ w.heap.size 48 _ (0, 0) _ _ _ rfl rfl rfl (boxF_all HZ.out _ _ _ _) Tryd.underlying48 rfl (by kernel_rfl)) rfl ⟨⟨nilFile, by rw [HR.out]; rfl, .inl ⟨by rw [HR.out]; exact HNE.out, rfl⟩⟩, below_setF HBF.out (Nat.le_refl _) _ _ _ _⟩
                  · obtain ⟨E, hE⟩ : ∃ E, E = parseE t := ⟨_, rfl⟩
                    have HLF : Hid (lineF ms z.data.toList Fk = (Fk, E)) := by
                      show _ = _
                      rw [lineF_p HE1.out (by rw [← HT.out]; exact hE2), ← HT.out, ← hE]
                    have HGB := Lib.hid (fun hE => (HGO.out).trans (parseGo_bad (ms := ms) (F := Fk) HLA.out HDF.out hE))
                    rw [HLF.out] at HGB
                    unfold ParsePostO at HPR
                    rw [← hE] at HPR hE2
                    obtain ⟨i1, i2⟩ := int_ne' hE2
                    have HNE := Lib.hid hE2
                    have HR := Lib.hid (HGB.out hE2)
                    have HPRN : Hid (∀ u : World, Calls Tryd.prog 20 #[.string (txt t)] u fun e w' => e = .returned (.tuple #[.agg #[.slice none 0 0, .slice none 0 0], .int .i64 E]) ∧ Below u.heap.size u w') := by
                      show ∀ u : World, _
                      intro u
                      refine (HPR.out u).mono ?_
                      rintro e w' ⟨⟨v, rfl, hv⟩, hb⟩
                      rcases hv with ⟨_, rfl⟩ | ⟨hv, _⟩
                      · exact ⟨rfl, hb⟩
                      · exact absurd hv HNE.out
                    clear hE2 hE HPR HGB
                    go_upto_region 26 with (first
                      | (go_at_call 27; refine HEX.out.mono ?_; rintro e w2 ⟨rfl, hb⟩; have HX2 := Lib.hid hb; clear hb)
                      | (go_at_call 20; refine (HPRN.out _).mono ?_; rintro e w3 ⟨rfl, hb⟩; have HX3 := Lib.hid hb; clear hb))
                    have HBX2 := Lib.hid (HBX.out.trans (HX2.out.mono (by have := HBX.out.size; have := HS1.out; omega)))
                    have HBX3 := Lib.hid (HBX2.out.trans (HX3.out.mono (by have := HBX2.out.size; have := HS1.out; omega)))
                    obtain ⟨V, hV⟩ : ∃ V, V = w3.alloc (.cells #[.slice none 0 0, .slice none 0 0] 34) := ⟨_, rfl⟩
                    have HBV : Hid (Below W0.heap.size W V) := by show Below _ _ _; rw [hV]; exact HBX3.out.alloc (by have := HBX3.out.size; have := HS1.out; omega) _
                    rw [← hV]
                    clear hV
                    obtain ⟨hz, hbw, _, _⟩ := HZW.out V HBV.out
                    obtain ⟨⟨b0, b1, b2, b3⟩, b4⟩ := boxF hz
                    have hlt2 : w.heap.size < V.heap.size := (Array.getElem?_eq_some_iff.1 hz).1
                    have HZ := Lib.hid hz
                    have HBF := Lib.hid hbw
                    clear hz hbw
                    go_wp2
                    refine bodyPost_ret (v := .tuple #[nilFile, .int .i64 ((k : Int) + 1), .int .i64 E]) (results_ctt Tryd.results17 _ _ w.heap.size 48 _ (0, 0) _ _ _ rfl rfl rfl (boxF_all HZ.out _ _ _ _) Tryd.underlying48 rfl (by kernel_rfl)) rfl ⟨⟨nilFile, by rw [HR.out]; rfl, .inl ⟨by rw [HR.out]; exact HNE.out, rfl⟩⟩, below_setF HBF.out (Nat.le_refl _) _ _ _ _⟩
                · obtain ⟨E, hE⟩ : ∃ E, E = (expandE okM ms z.data.toList).1 := ⟨_, rfl⟩
                  have HLF : Hid (lineF ms z.data.toList Fk = (Fk, E)) := by
                    show _ = _
                    rw [lineF_e hE1, ← hE]
                  have HGB := Lib.hid (fun hE => (HGO.out).trans (parseGo_bad (ms := ms) (F := Fk) HLA.out HDF.out hE))
                  rw [HLF.out] at HGB
                  rw [← hE] at HEX hE1
                  obtain ⟨i1, i2⟩ := int_ne' hE1
                  have HNE := Lib.hid hE1
                  have HR := Lib.hid (HGB.out hE1)
                  clear hE1 hE HGB
                  go_upto_region 21 with (go_at_call 27; refine HEX.out.mono ?_; rintro e w2 ⟨rfl, hb⟩; have HX2 := Lib.hid hb; clear hb)
                  have HBX2 := Lib.hid (HBX.out.trans (HX2.out.mono (by have := HBX.out.size; have := HS1.out; omega)))
                  obtain ⟨hz, hbw, _, _⟩ := HZW.out w2 HBX2.out
                  obtain ⟨⟨b0, b1, b2, b3⟩, b4⟩ := boxF hz
                  have hlt2 : w.heap.size < w2.heap.size := (Array.getElem?_eq_some_iff.1 hz).1
                  have HZ := Lib.hid hz
                  have HBF := Lib.hid hbw
                  clear hz hbw
                  go_wp2
                  refine bodyPost_ret (v := .tuple #[nilFile, .int .i64 ((k : Int) + 1), .int .i64 E]) (results_ctt Tryd.results17 _ _ w.heap.size 48 _ (0, 0) _ _ _ rfl rfl rfl (boxF_all HZ.out _ _ _ _) Tryd.underlying48 rfl (by kernel_rfl)) rfl ⟨⟨nilFile, by rw [HR.out]; rfl, .inl ⟨by rw [HR.out]; exact HNE.out, rfl⟩⟩, below_setF HBF.out (Nat.le_refl _) _ _ _ _⟩
            · obtain rfl : k = zs.length := by omega
              have HR : Hid (parseF (lsB zs) = (Fk, 0, 0)) := by
                show _ = _
                rw [HGO.out, List.drop_of_length_le (by rw [lsB_len]; exact Nat.le_refl _)]
                rfl
              have e0 : wr.cell? ⟨W0.heap.size, 0, none⟩ = some (.slice s.pm Fk.ms.length s.cm) := (boxF HF.out.box).1.1
              have e1 : wr.cell? ⟨W0.heap.size, 1, none⟩ = some (.slice s.pp Fk.ph.length s.cp) := (boxF HF.out.box).1.2.1
              have e2 : wr.cell? ⟨W0.heap.size, 2, none⟩ = some (.slice s.pi Fk.inf.length s.ci) := (boxF HF.out.box).1.2.2.1
              have e3 : wr.cell? ⟨W0.heap.size, 3, none⟩ = some (.slice s.pr Fk.rs.length s.cr) := (boxF HF.out.box).1.2.2.2
              obtain ⟨hz, hbw, _, _⟩ := HZW.out wr HB.out
              obtain ⟨⟨b0, b1, b2, b3⟩, b4⟩ := boxF hz
              have hlt2 : w.heap.size < wr.heap.size := (Array.getElem?_eq_some_iff.1 hz).1
              have HZ := Lib.hid hz
              have HBF := Lib.hid hbw
              clear hz hbw
              go_wp2
              have hlw : w.heap.size < W.heap.size := by have := HS0.out; have := HS1.out; omega
              have hnw : w.heap.size ≠ W0.heap.size := by have := HS0.out; omega
              refine bodyPost_ret (v := .tuple #[.agg #[.slice s.pm Fk.ms.length s.cm, .slice s.pp Fk.ph.length s.cp, .slice s.pi Fk.inf.length s.ci, .slice s.pr Fk.rs.length s.cr], .int .i64 0, .int .i64 0]) (results_ctt Tryd.results17 _ _ w.heap.size 48 _ (0, 0) _ _ _ rfl rfl rfl (boxF_all HZ.out _ _ _ _) Tryd.underlying48 rfl (by kernel_rfl)) rfl ⟨⟨_, by rw [HR.out]; rfl, .inr ⟨by rw [HR.out], ?_⟩⟩, below_setF HBF.out (Nat.le_refl _) _ _ _ _⟩
              rw [HR.out]
              exact ⟨W.heap.size, W0.heap.size, s, rl, by have := HS0.out; omega, (((HF.out.other hlw hnw).other hlw hnw).other hlw hnw).other hlw hnw, rfl⟩
        · obtain ⟨i1, i2⟩ := int_ne' hE
          have HE0 := Lib.hid hE
          have HE := Lib.hid (parseF_m (l := lsB zs) (by rw [lsB_len]; exact H200.out) (by rw [← HMS.out]; exact hE))
          rw [← HMS.out] at HE
          clear hE
          generalize flatsE okM ms = E at *
          go_upto_region 13 with (go_at_call 26; refine HFl.out.mono ?_; rintro e w2 ⟨⟨v, rfl⟩, hb⟩; have HB2 := Lib.hid (HB.out.trans (hb.mono (Nat.le_of_lt hsz0))); clear hb)
          obtain ⟨hz, hbw, _, _⟩ := HZW.out w2 HB2.out
          obtain ⟨⟨b0, b1, b2, b3⟩, b4⟩ := boxF hz
          have hlt2 : w.heap.size < w2.heap.size := (Array.getElem?_eq_some_iff.1 hz).1
          have HZ := Lib.hid hz
          have HBF := Lib.hid hbw
          clear hz hbw
          go_wp2
          refine bodyPost_ret (v := .tuple #[nilFile, .int .i64 0, .int .i64 E]) (results_ctt Tryd.results17 _ _ w.heap.size 48 _ (0, 0) _ _ _ rfl rfl rfl (boxF_all HZ.out _ _ _ _) Tryd.underlying48 rfl (by kernel_rfl)) rfl ⟨⟨nilFile, by rw [HE.out]; rfl, .inl ⟨by rw [HE.out]; exact HE0.out, rfl⟩⟩, below_setF HBF.out (Nat.le_refl _) _ _ _ _⟩
end Go.Proofs.YtoiolepengcagaaDoor
namespace Go.Proofs.YtoiolepengcagaaDoor
open Go.RowKit Go.Shelf Go.Maps Go.WideMaps
theorem lawS : Keyed Tryd.prog 9 := string_keyed Tryd.underlying9
theorem info_strM : (Tryd.prog.info? 9).map (fun i => (i.zero, i.size, i.bytes)) = some (some (.string ⟨#[]⟩), 1, 16) := by kernel_rfl
def rawE (v : Value) : Option (DataW Value × List MemPlace) := some (.held v, [])
def nilS : Value := .slice none 0 0
/-- block B is a map of at most n entries: its keys, and the header at each key -/
def MapH (w : World) (B n : Nat) (ks : List Bs) (h : Bs → Value) : Prop :=
  ∃ D : DataW Value, w.ownsMap Tryd.prog 9 rawE B n D ∧ (∀ s, D.atKey (.string s) (.held nilS) = .held (h s)) ∧ (∀ s, has D (.string s) = true ↔ s ∈ ks)
theorem MapH.made (w : World) : MapH (w.alloc (.map #[] 0)) w.heap.size 0 [] (fun _ => nilS) :=
  ⟨.map [], World.ownsMap_made _ _ _ _, fun _ => rfl, fun s => by simp [has]⟩
theorem MapH.kept {w w' : World} {B n : Nat} {ks : List Bs} {h : Bs → Value} (hm : MapH w B n ks h) {row : Option Nat} (hg : w.grownBy w' row) (hne : some B ≠ row) : MapH w' B n ks h := by
  obtain ⟨D, h1, h2, h3⟩ := hm
  exact ⟨D, h1.kept hg hne, h2, h3⟩
theorem MapH.mono {w : World} {B n n' : Nat} {ks : List Bs} {h : Bs → Value} (hm : MapH w B n ks h) (hn : n ≤ n') : MapH w B n' ks h := by
  obtain ⟨D, h1, h2, h3⟩ := hm
  exact ⟨D, h1.mono hn, h2, h3⟩
theorem MapH.lt {w : World} {B n : Nat} {ks : List Bs} {h : Bs → Value} (hm : MapH w B n ks h) : B < w.heap.size := by
  obtain ⟨D, h1, _⟩ := hm
  exact h1.lt
theorem zeroS (w : World) : (zeroValue 28).run Tryd.prog w = .ok (.slice none 0 0) w := Tryd.zeroValue28 w
/-- the look-up at the operation -/
theorem look_h (w : World) {ops : Array Oper} {rest : List Oper} {o : Oper} {a : Act} {Q : Exit → Act → World → Prop}
    (hg : o.guard = none) (m x : Operand) (hop : o.op = Op.lookup 60 m x false) {B n : Nat} {ks : List Bs} {h : Bs → Value}
    (hm : a.eval m = .map (some B)) (hH : MapH w B n ks h) (s : ByteArray) (hx : a.eval x = .string s) (hs : s.size ≤ maxLen)
    (hK : wpList Tryd.prog ops Q rest (a.put o.dst (h s.data.toList)) w) : wpList Tryd.prog ops Q (o :: rest) a w := by
  refine wpList_plain hg fun K' hK' => ?_
  obtain ⟨D, h1, h2, _⟩ := hH
  obtain ⟨v, ps, hrun, hat⟩ := h1.lookup lawS Tryd.underlying60 (zeroS w) (zd := .held nilS) (zp := []) rfl (keyOf_string_mk Tryd.underlying9 hs)
  rw [h2] at hat
  have hv : v = h s.data.toList := by
    have h3 : (DataW.held v : DataW Value) = .held (h s.data.toList) := congrArg Prod.fst (Option.some.inj hat)
    exact DataW.held.inj h3
  subst hv
  unfold Oper.wp
  simp [execOp, hop, hm, hx, hrun, Result.andThen]
  exact hK' _ _ hK
def upd {α : Type} (f : Bs → α) (s : Bs) (v : α) : Bs → α := fun t => if t = s then v else f t
theorem upd_same {α : Type} (f : Bs → α) (s : Bs) (v : α) : upd f s v s = v := by unfold upd; rw [if_pos rfl]
theorem upd_other {α : Type} (f : Bs → α) {s t : Bs} (v : α) (h : t ≠ s) : upd f s v t = f t := by unfold upd; rw [if_neg h]
/-- the store at the operation -/
theorem store_h (w : World) {ops : Array Oper} {rest : List Oper} {o : Oper} {a : Act} {Q : Exit → Act → World → Prop}
    (hg : o.guard = none) (m x v : Operand) (hop : o.op = Op.mapUpdate 60 m x v) {B n : Nat} {ks : List Bs} {h : Bs → Value}
    (hm : a.eval m = .map (some B)) (hH : MapH w B n ks h) (hn : n < maxLen) (s : ByteArray) (hx : a.eval x = .string s) (hs : s.size ≤ maxLen) (u : Value) (hv : a.eval v = u)
    (hK : ∀ w', MapH w' B (n + 1) (s.data.toList :: ks) (upd h s.data.toList u) → w.grownBy w' (some B) → wpList Tryd.prog ops Q rest (a.put o.dst undef) w') : wpList Tryd.prog ops Q (o :: rest) a w := by
  obtain ⟨D, h1, h2, h3⟩ := hH
  have hT := (h1.tidy lawS).isMap
  refine wpList_mapUpdate_own w hg m x v _ hop 9 28 lawS Tryd.underlying60 rawE B n D hm h1 hn _ u _ hx hv (keyOf_string_mk Tryd.underlying9 hs) (.held u) [] rfl (fun w' r1 r2 => hK w' ⟨_, r1, fun t => ?_, fun t => ?_⟩ r2)
  · by_cases ht : t = s.data.toList
    · subst ht
      rw [upd_same]
      exact atKey_put_same hT (show WideAt.IsKeyLit (.string s.data.toList) from trivial) _ _
    · rw [upd_other _ _ ht, ← h2]
      exact atKey_put_other (fun e => ht (by injection e)) _ _
  · by_cases ht : t = s.data.toList
    · subst ht
      exact ⟨fun _ => List.mem_cons_self, fun _ => has_put_same hT (show WideAt.IsKeyLit (.string s.data.toList) from trivial) _⟩
    · rw [has_put_other (fun e => ht (by injection e)), h3, List.mem_cons]
      exact ⟨.inr, fun g => g.resolve_left ht⟩
/-- the map and all that its headers own; the header at t is being turned: it owns zs -/
structure GrpX (w : World) (B lo n : Nat) (ks : List Bs) (g : Bs → List ByteArray) (t : Bs) (v : Value) (zs : List ByteArray) : Prop where
  h : ∃ h, MapH w B n ks h ∧ (∀ s, s ≠ t → w.ownsRow lo 9 1 (h s) (g s).length (strsV (g s))) ∧ (∀ s s', s ≠ t → s' ≠ t → s ≠ s' → ∀ k, (h s).ownBlock = some k → (h s').ownBlock ≠ some k) ∧
    (∀ s, s ≠ t → ∀ k, (h s).ownBlock = some k → v.ownBlock ≠ some k)
  own : w.ownsRow lo 9 1 v zs.length (strsV zs)
  lo : B < lo
def Grp (w : World) (B lo n : Nat) (ks : List Bs) (g : Bs → List ByteArray) : Prop :=
  ∃ h, MapH w B n ks h ∧ (∀ s, w.ownsRow lo 9 1 (h s) (g s).length (strsV (g s))) ∧ (∀ s s', s ≠ s' → ∀ k, (h s).ownBlock = some k → (h s').ownBlock ≠ some k) ∧ B < lo
theorem Grp.made (w : World) : Grp (w.alloc (.map #[] 0)) w.heap.size (w.heap.size + 1) 0 [] (fun _ => []) :=
  ⟨_, MapH.made w, fun _ => World.ownsRow_nil _ _ _ _, fun _ _ _ k e => by simp [nilS, Value.ownBlock] at e, Nat.lt_succ_self _⟩
theorem Grp.kept {w w' : World} {B lo n : Nat} {ks : List Bs} {g : Bs → List ByteArray} (hG : Grp w B lo n ks g) (hg : w.grownBy w' none) : Grp w' B lo n ks g := by
  obtain ⟨h, h1, h2, h3, h4⟩ := hG
  refine ⟨h, h1.kept hg (by simp), fun s => (h2 s).kept hg ?_, h3, h4⟩
  cases hq : (h s).ownBlock with
  | none => exact .inl rfl
  | some k => exact .inr (by simp)
theorem GrpX.kept {w w' : World} {B lo n : Nat} {ks : List Bs} {g : Bs → List ByteArray} {t : Bs} {v : Value} {zs : List ByteArray} (hG : GrpX w B lo n ks g t v zs) (hg : w.grownBy w' none) : GrpX w' B lo n ks g t v zs := by
  obtain ⟨⟨h, h1, h2, h3, h4⟩, h5, h6⟩ := hG
  refine ⟨⟨h, h1.kept hg (by simp), fun s hs => (h2 s hs).kept hg ?_, h3, h4⟩, h5.kept hg ?_, h6⟩
  · cases hq : (h s).ownBlock with
    | none => exact .inl rfl
    | some k => exact .inr (by simp)
  · cases hq : v.ownBlock with
    | none => exact .inl rfl
    | some k => exact .inr (by simp)
/-- the append at the header in hand -/
theorem GrpX.appended {w w' : World} {B lo n : Nat} {ks : List Bs} {g : Bs → List ByteArray} {t : Bs} {v v' : Value} {zs zs' : List ByteArray} (hG : GrpX w B lo n ks g t v zs)
    (hown : w'.ownsRow lo 9 1 v' zs'.length (strsV zs')) (hg : w.grownBy w' v.ownBlock) (hloc : v'.ownBlock = v.ownBlock ∨ v'.ownBlock = some w.heap.size) : GrpX w' B lo n ks g t v' zs' := by
  obtain ⟨⟨h, h1, h2, h3, h4⟩, h5, h6⟩ := hG
  refine ⟨⟨h, h1.kept hg ?_, fun s hs => (h2 s hs).kept hg ?_, h3, fun s hs k hk => ?_⟩, hown, h6⟩
  · intro e
    have := (h5.lt B e.symm).1
    omega
  · cases hq : (h s).ownBlock with
    | none => exact .inl rfl
    | some k => exact .inr (fun e => h4 s hs k hq e.symm)
  · rcases hloc with e | e
    · rw [e]; exact h4 s hs k hk
    · rw [e]
      intro e2
      injection e2 with e2
      have := ((h2 s hs).lt k hk).2
      omega
theorem Grp.look {w : World} {B lo n : Nat} {ks : List Bs} {g : Bs → List ByteArray} (hG : Grp w B lo n ks g) (t : Bs) : ∃ h, MapH w B n ks h ∧ GrpX w B lo n ks g t (h t) (g t) := by
  obtain ⟨h, h1, h2, h3, h4⟩ := hG
  exact ⟨h, h1, ⟨⟨h, h1, fun s _ => h2 s, fun s s' _ _ e => h3 s s' e, fun s hs k hk => h3 s t hs k hk⟩, h2 t, h4⟩⟩
/-- the store at the operation, of the header in hand -/
theorem store_g (w : World) {ops : Array Oper} {rest : List Oper} {o : Oper} {a : Act} {Q : Exit → Act → World → Prop}
    (hg : o.guard = none) (m x v : Operand) (hop : o.op = Op.mapUpdate 60 m x v) {B lo n : Nat} {ks : List Bs} {g : Bs → List ByteArray} {zs : List ByteArray} {u : Value} (s : ByteArray)
    (hm : a.eval m = .map (some B)) (hG : GrpX w B lo n ks g s.data.toList u zs) (hn : n < maxLen) (hx : a.eval x = .string s) (hs : s.size ≤ maxLen) (hv : a.eval v = u)
    (hK : ∀ w', Grp w' B lo (n + 1) (s.data.toList :: ks) (upd g s.data.toList zs) → w.grownBy w' (some B) → wpList Tryd.prog ops Q rest (a.put o.dst undef) w') : wpList Tryd.prog ops Q (o :: rest) a w := by
  obtain ⟨⟨h, h1, h2, h3, h4⟩, h5, h6⟩ := hG
  refine store_h w hg m x v hop hm h1 hn s hx hs u hv fun w' r1 r2 => hK w' ⟨_, r1, fun t => ?_, fun t t' hne k hk => ?_, h6⟩ r2
  · by_cases ht : t = s.data.toList
    · subst ht
      rw [upd_same, upd_same]
      refine h5.kept r2 ?_
      cases hq : u.ownBlock with
      | none => exact .inl rfl
      | some k => exact .inr (fun e => by injection e with e; have := (h5.lt k hq).1; omega)
    · rw [upd_other _ _ ht, upd_other _ _ ht]
      refine (h2 t ht).kept r2 ?_
      cases hq : (h t).ownBlock with
      | none => exact .inl rfl
      | some k => exact .inr (fun e => by injection e with e; have := ((h2 t ht).lt k hq).1; omega)
  · by_cases ht : t = s.data.toList
    · subst ht
      rw [upd_same] at hk
      rw [upd_other _ _ (Ne.symm hne)]
      exact fun e => h4 t' (Ne.symm hne) k e hk
    · rw [upd_other _ _ ht] at hk
      by_cases ht' : t' = s.data.toList
      · subst ht'
        rw [upd_same]
        exact h4 t ht k hk
      · rw [upd_other _ _ ht']
        exact h3 t t' ht ht' hne k hk
end Go.Proofs.YtoiolepengcagaaDoor
namespace Go.Proofs.YtoiolepengcagaaDoor
abbrev Rl := List ByteArray × List ByteArray
def rulesE : List Rl → Int
  | [] => 0
  | r :: l => if ruleE r.1 r.2 ≠ 0 then ruleE r.1 r.2 else rulesE l
def addN (zs : List ByteArray) (n : ByteArray) : List ByteArray := if Lib.containsS zs n = true then zs else zs ++ [n]
def addAll (zs N : List ByteArray) : List ByteArray := N.foldl addN zs
def grpT (g : Bs → List ByteArray) (T N : List ByteArray) : Bs → List ByteArray := T.foldl (fun g t => upd g t.data.toList (addAll (g t.data.toList) N)) g
def grpR (l : List Rl) (g : Bs → List ByteArray) : Bs → List ByteArray := l.foldl (fun g r => grpT g r.1 r.2) g
theorem addN_mem {zs : List ByteArray} {n x : ByteArray} : x ∈ addN zs n ↔ x ∈ zs ∨ x = n := by
  unfold addN
  split
  · rename_i h
    rw [Lib.containsS_iff] at h
    exact ⟨.inl, fun g => g.elim id (fun e => e ▸ h)⟩
  · simp
theorem addAll_mem {N : List ByteArray} : ∀ {zs : List ByteArray} {x : ByteArray}, x ∈ addAll zs N ↔ x ∈ zs ∨ x ∈ N := by
  induction N with
  | nil => intro zs x; simp [addAll]
  | cons n N ih =>
    intro zs x
    show x ∈ addAll (addN zs n) N ↔ _
    rw [ih, addN_mem, List.mem_cons, or_assoc]
theorem addN_len (zs : List ByteArray) (n : ByteArray) : (addN zs n).length ≤ zs.length + 1 := by
  unfold addN
  split <;> simp
theorem addAll_len (N : List ByteArray) : ∀ zs : List ByteArray, (addAll zs N).length ≤ zs.length + N.length := by
  induction N with
  | nil => intro zs; simp [addAll]
  | cons n N ih =>
    intro zs
    show (addAll (addN zs n) N).length ≤ _
    have := ih (addN zs n)
    have := addN_len zs n
    rw [List.length_cons]
    omega
theorem addAll_take {N : List ByteArray} {k : Nat} {x : ByteArray} (zs : List ByteArray) (h : N[k]? = some x) : addAll zs (N.take (k + 1)) = addN (addAll zs (N.take k)) x := by
  unfold addAll
  rw [List.take_add_one, h, List.foldl_append]
  rfl
theorem grpT_take {T N : List ByteArray} {k : Nat} {x : ByteArray} (g : Bs → List ByteArray) (h : T[k]? = some x) : grpT g (T.take (k + 1)) N = upd (grpT g (T.take k) N) x.data.toList (addAll (grpT g (T.take k) N x.data.toList) N) := by
  unfold grpT
  rw [List.take_add_one, h, List.foldl_append]
  rfl
theorem grpR_take {l : List Rl} {k : Nat} {r : Rl} (g : Bs → List ByteArray) (h : l[k]? = some r) : grpR (l.take (k + 1)) g = grpT (grpR (l.take k) g) r.1 r.2 := by
  unfold grpR
  rw [List.take_add_one, h, List.foldl_append]
  rfl
theorem ba_inj {x y : ByteArray} (h : x.data.toList = y.data.toList) : x = y := by
  cases x; cases y
  exact congrArg ByteArray.mk (Array.toList_inj.1 h)
theorem grpT_mem {N : List ByteArray} {n : ByteArray} : ∀ (T : List ByteArray) (g : Bs → List ByteArray) (t : Bs), n ∈ grpT g T N t ↔ n ∈ g t ∨ (t ∈ T.map (·.data.toList) ∧ n ∈ N) := by
  intro T
  induction T with
  | nil => intro g t; simp [grpT]
  | cons u T ih =>
    intro g t
    show n ∈ grpT (upd g u.data.toList (addAll (g u.data.toList) N)) T N t ↔ _
    rw [ih]
    by_cases h : t = u.data.toList
    · subst h
      rw [upd_same, addAll_mem]
      simp only [List.map_cons, List.mem_cons, true_or, true_and]
      constructor
      · rintro ((h | h) | ⟨_, h⟩)
        · exact .inl h
        · exact .inr h
        · exact .inr h
      · rintro (h | h)
        · exact .inl (.inl h)
        · exact .inl (.inr h)
    · rw [upd_other _ _ h]
      simp [h]
theorem grpR_mem {n : ByteArray} : ∀ (l : List Rl) (g : Bs → List ByteArray) (t : Bs), n ∈ grpR l g t ↔ n ∈ g t ∨ ∃ r ∈ l, t ∈ r.1.map (·.data.toList) ∧ n ∈ r.2 := by
  intro l
  induction l with
  | nil => intro g t; simp [grpR]
  | cons r l ih =>
    intro g t
    show n ∈ grpR l (grpT g r.1 r.2) t ↔ _
    rw [ih, grpT_mem, or_assoc]
    simp only [List.mem_cons, exists_eq_or_imp]
theorem grpT_len {N : List ByteArray} : ∀ (T : List ByteArray) (g : Bs → List ByteArray) (t : Bs), (grpT g T N t).length ≤ (g t).length + T.length * N.length := by
  intro T
  induction T with
  | nil => intro g t; simp [grpT]
  | cons u T ih =>
    intro g t
    have h := ih (upd g u.data.toList (addAll (g u.data.toList) N)) t
    show (grpT (upd g u.data.toList (addAll (g u.data.toList) N)) T N t).length ≤ _
    rw [List.length_cons, Nat.succ_mul]
    by_cases e : t = u.data.toList
    · subst e
      rw [upd_same] at h
      have := addAll_len N (g u.data.toList)
      omega
    · rw [upd_other _ _ e] at h
      omega
theorem grpR_len : ∀ (l : List Rl) (g : Bs → List ByteArray) (t : Bs), (∀ r ∈ l, r.1.length ≤ 20 ∧ r.2.length ≤ 20) → (grpR l g t).length ≤ (g t).length + l.length * 400 := by
  intro l
  induction l with
  | nil => intro g t _; simp [grpR]
  | cons r l ih =>
    intro g t h
    have h1 := ih (grpT g r.1 r.2) t (fun x hx => h x (List.mem_cons_of_mem _ hx))
    have h2 := grpT_len (N := r.2) r.1 g t
    obtain ⟨a, b⟩ := h r List.mem_cons_self
    have h3 : r.1.length * r.2.length ≤ 20 * 20 := Nat.mul_le_mul a b
    show (grpR l (grpT g r.1 r.2) t).length ≤ _
    rw [List.length_cons, Nat.succ_mul]
    omega
/-- a rule that is joined passes the check -/
theorem rulesE_take : ∀ (l : List Rl) (k : Nat) (r : Rl), rulesE (l.take k) = 0 → l[k]? = some r → rulesE (l.take (k + 1)) = ruleE r.1 r.2 := by
  intro l
  induction l with
  | nil => intro k r _ h; simp at h
  | cons x l ih =>
    intro k r h0 h
    cases k with
    | zero =>
      simp at h
      subst h
      show (if ruleE x.1 x.2 ≠ 0 then ruleE x.1 x.2 else rulesE (l.take 0)) = _
      split
      · rfl
      · rename_i h1
        have : ruleE x.1 x.2 = 0 := by simpa using h1
        rw [this]
        rfl
    | succ k =>
      rw [List.take_succ_cons] at h0 ⊢
      unfold rulesE at h0 ⊢
      split at h0
      · rename_i h1; exact absurd h0 h1
      · rename_i h1
        rw [if_neg h1]
        exact ih k r h0 (by simpa using h)
theorem rulesE_all {l : List Rl} (h : rulesE l = 0) : ∀ r ∈ l, ruleE r.1 r.2 = 0 := by
  induction l with
  | nil => intro r hr; cases hr
  | cons x l ih =>
    unfold rulesE at h
    split at h
    · rename_i h1; exact absurd h h1
    · rename_i h1
      intro r hr
      rcases List.mem_cons.1 hr with rfl | hr
      · simpa using h1
      · exact ih h r hr
theorem rulesE_more : ∀ (l m : List Rl), rulesE l ≠ 0 → rulesE (l ++ m) = rulesE l := by
  intro l
  induction l with
  | nil => intro m h; exact absurd rfl h
  | cons x l ih =>
    intro m h
    unfold rulesE at h
    show (if ruleE x.1 x.2 ≠ 0 then ruleE x.1 x.2 else rulesE (l ++ m)) = (if ruleE x.1 x.2 ≠ 0 then ruleE x.1 x.2 else rulesE l)
    split
    · rfl
    · rename_i h1
      rw [if_neg h1] at h
      exact ih m h
theorem ruleE_few {T N : List ByteArray} (h : ruleE T N = 0) : T.length ≤ 20 ∧ N.length ≤ 20 := by
  unfold ruleE at h
  split at h
  · cases h
  · rename_i h1; omega
end Go.Proofs.YtoiolepengcagaaDoor
namespace Go.Proofs
open Go.RowKit Go.Maps Go.Sort Go.Shelf
def Tryd.keysS_ren : Go.Shelf.Ren := ⟨fun | 6 => 23 | 8 => 37 | 9 => 38 | 11 => 54 | n => n, fun | 0 => 0 | 24 => 28 | 26 => 9 | 28 => 64 | 33 => 89 | n => n, fun | n => n⟩
theorem Tryd.keysS : Go.Proofs.SlLaysZ.n6 Tryd.prog Tryd.keysS_ren := {
  mixed := by kernel_rfl
  f6 := ⟨Tryd.f23.name, by kernel_rfl, Tryd.func23.trans (congrArg some (by kernel_rfl))⟩
  f8 := ⟨Tryd.f37.name, by kernel_rfl, Tryd.func37.trans (congrArg some (by kernel_rfl))⟩
  f11 := ⟨Tryd.f54.name, by kernel_rfl, Tryd.func54.trans (congrArg some (by kernel_rfl))⟩
  t0 := Tryd.underlying0
  a0 := Tryd.isAgg0
  z0 := Tryd.sizeOf0
  v0 := Tryd.zeroValue0
  t24 := Tryd.underlying28
  a24 := Tryd.isAgg28
  z24 := Tryd.sizeOf28
  v24 := Tryd.zeroValue28
  t26 := Tryd.underlying9
  a26 := Tryd.isAgg9
  z26 := Tryd.sizeOf9
  v26 := Tryd.zeroValue9
  t28 := Tryd.underlying64
  a28 := Tryd.isAgg64
  z28 := Tryd.sizeOf64
  v28 := Tryd.zeroValue64
  i26 := by kernel_rfl }
def Tryd.keysK_ren : Go.Shelf.Ren := ⟨fun | 7 => 24 | 10 => 39 | n => n, fun | 0 => 0 | 4 => 4 | 23 => 60 | 26 => 9 | 3 => 28 | 27 => 63 | 28 => 64 | 33 => 89 | n => n, fun | n => n⟩
theorem Tryd.keysK : Go.Proofs.SlLaysZ.n7 Tryd.prog Tryd.keysK_ren := {
  mixed := by kernel_rfl
  f7 := ⟨Tryd.f24.name, by kernel_rfl, Tryd.func24.trans (congrArg some (by kernel_rfl))⟩
  f10 := ⟨Tryd.f39.name, by kernel_rfl, Tryd.func39.trans (congrArg some (by kernel_rfl))⟩
  t0 := Tryd.underlying0
  a0 := Tryd.isAgg0
  z0 := Tryd.sizeOf0
  v0 := Tryd.zeroValue0
  t4 := Tryd.underlying4
  a4 := Tryd.isAgg4
  z4 := Tryd.sizeOf4
  v4 := Tryd.zeroValue4
  t23 := Tryd.underlying60
  a23 := Tryd.isAgg60
  z23 := Tryd.sizeOf60
  v23 := Tryd.zeroValue60
  t26 := Tryd.underlying9
  a26 := Tryd.isAgg9
  z26 := Tryd.sizeOf9
  v26 := Tryd.zeroValue9
  t27 := Tryd.underlying63
  a27 := Tryd.isAgg63
  z27 := Tryd.sizeOf63
  v27 := Tryd.zeroValue63
  t28 := Tryd.underlying64
  a28 := Tryd.isAgg64
  z28 := Tryd.sizeOf64
  v28 := Tryd.zeroValue64
  t33 := Tryd.underlying89
  a33 := Tryd.isAgg89
  z33 := Tryd.sizeOf89
  v33 := Tryd.zeroValue89 }
theorem Tryd.sortsK (m : Nat) : AnyZ.SortsIn Tryd.prog Tryd.keysS_ren Fence.wide m :=
  ⟨fun blk off cap ss W hH hblk hsz => callsIn_wide.2 (Tryd.slices_Sort_string blk off cap ss W hH hblk hsz),
   fun p cap W => callsIn_wide.2 (Tryd.slices_Sort_string_none p cap W)⟩
/-- maps.Keys at whatever map: a function value over one new block, which holds the map. -/
theorem Tryd.maps_Keys_k (mb : Option Nat) (W : World) : CallsIn Fence.wide 5 Tryd.prog 24 #[.map mb] W fun e w' => e = .returned (.func (.func 39) #[] #[.pointer (some ⟨W.heap.size, 0, none⟩)]) ∧ w' = W.alloc (.cells #[.map mb] 60) :=
  AnyZ.keys_in Tryd.keysK Fence.wide 5 trivial rfl mb W
set_option maxHeartbeats 1000000 in
/-- slices.Sorted at what maps.Keys handed back for a map that is not nil: a new slice of its keys, sorted; nothing that lay before has turned. -/
theorem Tryd.sorted_keys {H : Type} (b nn : Nat) (D0 : DataW H) (R : Value → Option (DataW H × List MemPlace)) (w : World) (hown : w.ownsMap Tryd.prog 9 R b nn D0) (hmax : Maps.size D0 ≤ maxLen) (hbytes : Maps.size D0 * 16 ≤ 140737488355328) :
    CallsIn Fence.wide 5 Tryd.prog 23 #[.func (.func 39) #[] #[.pointer (some ⟨w.heap.size, 0, none⟩)]] (w.alloc (.cells #[.map (some b)] 60)) fun e w' => ∃ (v : Value) (ss : List (List UInt8)), e = .returned v ∧ ss.Perm (strKeys D0) ∧
      w'.ownsRow (w.alloc (.cells #[.map (some b)] 60)).heap.size 9 1 v ss.length ((ss.mergeSort (fun x y => decide (x ≤ y))).map encStr) ∧ (v = .slice none 0 0 ↔ ss = []) ∧ Below (w.alloc (.cells #[.map (some b)] 60)).heap.size (w.alloc (.cells #[.map (some b)] 60)) w' := by
  have hbl := hown.lt
  have hseq : SeqGives Fence.wide 2 Tryd.prog 39 #[.pointer (some ⟨w.heap.size, 0, none⟩)] encStr (fun ss => ss.Perm (strKeys D0)) (Maps.size D0) (w.alloc (.cells #[.map (some b)] 60)) :=
    AnyZ.keys_gives (ρ := Tryd.keysK_ren) { Tryd.keysK with } Fence.wide _ trivial rfl (by omega) w.heap.size b nn D0 _ (by simp) (by simp) (by
      obtain ⟨es, clock, hb, Ft, hs, hD⟩ := hown
      exact ⟨es, clock, (Below.heap_alloc _ _ b hbl).trans hb, Ft, hs, hD⟩)
  exact AnyZ.sorted_in Tryd.keysS Fence.wide 5 trivial trivial trivial trivial rfl (by omega) (Tryd.sortsK _) (enters_of Tryd.func38 (by kernel_rfl) rfl) 39 #[.pointer (some ⟨w.heap.size, 0, none⟩)] trivial (enters_of Tryd.func39 (by kernel_rfl) rfl) _ _ hmax hbytes _ hseq
end Go.Proofs
