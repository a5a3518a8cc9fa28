/- Texts joined: LinesTP, LinesTW, FileIncW, FileOrderLW. Conditions: theirs. -/
import Derived.Test.YtoiolepengcagaaGreatDoorFileOrderLWM12
import Derived.StillTailTactics
import Derived.Test.YtoiolepengcagaaGreatDoorFileOrderLWM10
import Derived.Test.YtoiolepengcagaaGreatDoorFileOrderLWM11
import Derived.Test.YtoiolepengcagaaGreatDoorFileOrderLWM8
namespace Go.Proofs.YtoiolepengcagaaGreatDoor
open Go.RowKit Go.Shelf Go.Maps
def updT (T : Bl → Option Bl) (n t : Bl) : Bl → Option Bl := fun x => if x = n then some t else T x
/-- the texts, laid one by one; an error where a name is none, or there already -/
def putsT : (Bl → Option Bl) → List (Bl × Bl) → (Bl → Option Bl) × Int
  | T, [] => (T, 0)
  | T, x :: l => if nameE (txt x.1) ≠ 0 then (T, 3) else if (T x.1).isSome = true then (T, 6) else putsT (updT T x.1 x.2) l
def noT : Bl → Option Bl := fun _ => none
def linesT (s : Bl) (l : List (Bl × Bl)) : Nat × List Bl × Int :=
  if 20 < l.length then (0, [], 2) else if (putsT noT l).2 ≠ 0 then (0, [], (putsT noT l).2) else readR (putsT noT l).1 l.length [] 0 [] s
theorem putsT_mem : ∀ (l : List (Bl × Bl)) (T : Bl → Option Bl) (n t : Bl), (putsT T l).1 n = some t → T n = some t ∨ (n, t) ∈ l := by
  intro l
  induction l with
  | nil => intro T n t h; exact .inl h
  | cons x l ih =>
    intro T n t h
    unfold putsT at h
    split at h
    · exact .inl h
    · split at h
      · exact .inl h
      · rcases ih _ n t h with h2 | h2
        · unfold updT at h2
          by_cases e : n = x.1
          · rw [if_pos e] at h2
            have h3 : x.2 = t := Option.some.inj h2
            rw [e, ← h3]
            exact .inr List.mem_cons_self
          · rw [if_neg e] at h2
            exact .inl h2
        · exact .inr (List.mem_cons_of_mem _ h2)
theorem putsT_cons {T : Bl → Option Bl} {x : Bl × Bl} {l : List (Bl × Bl)} : putsT T (x :: l) = if nameE (txt x.1) ≠ 0 then (T, 3) else if (T x.1).isSome = true then (T, 6) else putsT (updT T x.1 x.2) l := by rw [putsT]
end Go.Proofs.YtoiolepengcagaaGreatDoor
namespace Go.Proofs.YtoiolepengcagaaGreatDoor
open Go.RowKit Go.Shelf Go.Maps Go.WideMaps
/-- a text is laid into the map -/
theorem store_t (w : World) {ops : Array Oper} {rest : List Oper} {o : Oper} {a : Act} {Q : Exit → Act → World → Prop}
    (hg : o.guard = none) (m x v : Operand) (hop : o.op = Op.mapUpdate 67 m x v) {B n : Nat} {T : Bl → Option Bl}
    (hm : a.eval m = .map (some B)) (hH : MapT w B n T) (hn : n < maxLen) (s t : Bl) (hx : a.eval x = .string (txt s)) (hs : s.length ≤ 4611686018427387904) (hv : a.eval v = .string (txt t))
    (hK : ∀ w', MapT w' B (n + 1) (updT T s t) → w.grownBy w' (some B) → wpList Tryz.prog ops Q rest (a.put o.dst undef) w') : wpList Tryz.prog ops Q (o :: rest) a w := by
  obtain ⟨D, h1, h2, h3⟩ := hH
  have hT := (h1.tidy lawT).isMap
  have hk := keyOf_string_mk Tryz.underlying9 (s := txt s) (by rw [txt_size]; unfold maxLen; omega)
  rw [txt_list] at hk
  refine wpList_mapUpdate_own w hg m x v _ hop 9 9 lawT Tryz.underlying67 rawT B n D hm h1 hn _ _ _ hx hv hk (.held (.string (txt t))) [] rfl (fun w' r1 r2 => hK w' ⟨_, r1, fun y => ?_, fun y => ?_⟩ r2)
  · unfold updT
    by_cases hy : y = s
    · subst hy
      rw [if_pos rfl]
      exact atKey_put_same hT (show WideAt.IsKeyLit (.string y) from trivial) _ _
    · rw [if_neg hy, ← h2]
      exact atKey_put_other (fun e => hy (by injection e)) _ _
  · unfold updT
    by_cases hy : y = s
    · subst hy
      rw [if_pos rfl]
      exact has_put_same hT (show WideAt.IsKeyLit (.string y) from trivial) _
    · rw [if_neg hy, has_put_other (fun e => hy (by injection e)), h3]
set_option maxHeartbeats 8000000 in
set_option maxRecDepth 100000 in
theorem LinesT_ok (s : ByteArray) (hs : s.size ≤ 4611686018427387904) (q : Option Addr) (n c : Nat) (l : List Mac) (w : World) (hM : ML w) (hP : P2At mF mG w q n c l) (hl : ∀ x ∈ l, x.1.length ≤ 4611686018427387904 ∧ x.2.length ≤ 4611686018427387904) :
    Calls Tryz.prog 8 #[.string s, .slice q n c] w (LinesPost w (linesT s.data.toList l)) := by
  have hlen := hP.len
  subst hlen
  by_cases h20 : 20 < l.length
  · have hE : linesT s.data.toList l = (0, [], 2) := by unfold linesT; rw [if_pos h20]
    rw [hE]
    have hd : decide ((20 : Int) < (l.length : Int)) = true := decide_eq_true (by omega)
    clear hE hP hM hl
    go_enter Tryz.func8, Tryz.ntmps8
    go_wp2
    go_ret2
    exact ⟨.inl ⟨by decide, rfl⟩, Below.refl _ _⟩
  have hd : decide ((20 : Int) < (l.length : Int)) = false := decide_eq_false (by omega)
  have hl20 : l.length ≤ 20 := by omega
  have hmm := @run_makeMap Tryz.prog
  obtain ⟨W1, hW1⟩ : ∃ W1, W1 = w.alloc (.map #[] 0) := ⟨_, rfl⟩
  have hB1 : Below w.heap.size w W1 := by rw [hW1]; exact rb1w _ _
  have hs1 : W1.heap.size = w.heap.size + 1 := by rw [hW1]; simp
  have hm1 : MapT W1 w.heap.size 0 noT := by rw [hW1]; exact MapT.made w
  obtain ⟨W, hW⟩ : ∃ W, W = W1.alloc (.cells #[.map (some w.heap.size), .slice none 0 0, .int .i64 0, .slice none 0 0] 69) := ⟨_, rfl⟩
  have hB2 : Below W1.heap.size W1 W := by rw [hW]; exact rb1w _ _
  have hs2 : W.heap.size = W1.heap.size + 1 := by rw [hW]; simp
  have hz : W.heap[w.heap.size + 1]? = some (.cells #[.map (some w.heap.size), .slice none 0 0, .int .i64 0, .slice none 0 0] 69 (0, 0)) := by rw [hW, ← hs1]; exact rb_new W1 _
  have HBW : Hid (Below w.heap.size w W) := hB1.trans (hB2.mono hB1.size)
  have HMT := Lib.hid (hm1.below hB2)
  have HZ := Lib.hid hz
  have HP := Lib.hid hP
  have HM := Lib.hid hM
  have HL := Lib.hid hl
  have HS : Hid (W.heap.size = w.heap.size + 2) := by show _ = _; omega
  have HLE : Hid (linesT s.data.toList l = if (putsT noT l).2 ≠ 0 then (0, [], (putsT noT l).2) else readR (putsT noT l).1 l.length [] 0 [] s.data.toList) := by
    show _ = _
    unfold linesT
    rw [if_neg h20]
  have HGL : Hid (0 < w.heap.size + 1) := by show _ < _; have := hM.lt; omega
  clear hB1 hm1 hB2 hz hs1 hs2 hP hM hl h20
  go_enter Tryz.func8, Tryz.ntmps8
  go_upto_region 4 with fail
  rw [← hW1, ← hW]
  clear hW hW1
  go_wp2_with fail
  go_loopw [20] (fun i wr => ∃ (j nm : Nat) (T : Bl → Option Bl), j ≤ l.length ∧ nm ≤ j ∧ i = .int .i64 j ∧ w.heap.size + 2 ≤ wr.heap.size ∧ Hid (MapT wr w.heap.size nm T) ∧ Hid (wr.heap[w.heap.size + 1]? = some (.cells #[.map (some w.heap.size), .slice none 0 0, .int .i64 0, .slice none 0 0] 69 (0, 0))) ∧
    Hid (Below w.heap.size w wr) ∧ Hid (putsT noT l = putsT T (l.drop j))) (fun i _ => l.length - (intOf i).toNat)
  case atStart => exact ⟨0, 0, noT, Nat.zero_le _, Nat.le_refl _, rfl, Nat.le_of_eq HS.out.symm, HMT.out, HZ.out, HBW.out, rfl⟩
  case round =>
    obtain ⟨j, nm, T, hj, hnm, rfl, hsz, HT, HB, HW, HPU⟩ := hrel
    by_cases hlt : j < l.length
    · obtain ⟨x, hx⟩ : ∃ x, l[j]? = some x := ⟨l[j], List.getElem?_eq_getElem hlt⟩
      have hxm := HL.out x (List.mem_of_getElem? hx)
      obtain ⟨bb, ob, rfl, hbb, hca, hcb⟩ := (HP.out.below HW.out).cell hx
      have hcb2 : wr.cell? ⟨bb, ob + j * 2 + 1, none⟩ = some (mG x) := hcb
      have HTD : Hid (l.drop j = x :: l.drop (j + 1)) := by
        show _ = _
        rw [List.drop_eq_getElem_cons hlt]
        congr 1
        have := List.getElem?_eq_getElem hlt
        rw [hx] at this
        exact (Option.some.inj this).symm
      clear hcb hx
      obtain ⟨nn, tt⟩ := x
      simp only [mF, mG] at hca hcb2
      obtain ⟨hn1, hn2⟩ := hxm
      simp only at hn1 hn2
      have hj1 : (j : Int) < (l.length : Int) := by omega
      obtain ⟨X, hX⟩ : ∃ X, X = wr.alloc (.cells #[.string (txt nn), .string (txt tt)] 28) := ⟨_, rfl⟩
      have hbX : Below wr.heap.size wr X := by rw [hX]; exact rb1w _ _
      have hXs : X.heap.size = wr.heap.size + 1 := by rw [hX]; simp
      have hx1 : X.heap[wr.heap.size]? = some (.cells #[.string (txt nn), .string (txt tt)] 28 (0, 0)) := by rw [hX]; exact rb_new _ _
      have HTX := Lib.hid (HT.out.below hbX)
      have HBX : Hid (X.heap[w.heap.size + 1]? = some (.cells #[.map (some w.heap.size), .slice none 0 0, .int .i64 0, .slice none 0 0] 69 (0, 0))) := by
        show _ = _
        rw [hbX.block _ (by omega)]
        exact HB.out
      have HWX := Lib.hid (HW.out.trans (hbX.mono HW.out.size))
      have HX1 := Lib.hid hx1
      have HXS := Lib.hid hXs
      go_upto_region 7 with fail
      rw [← hX]
      clear hX hca hcb2 hx1 hXs
      obtain ⟨⟨c0, _, _, _⟩, _⟩ := boxF HBX.out
      obtain ⟨y0, y1, y2⟩ := rb_cells HX1.out
      have hsn : (txt nn).size ≤ maxLen := by rw [txt_size]; unfold maxLen; omega
      have hlk : ∀ q, Sem.run Tryz.prog (Instr.lookup 67 (.map (some w.heap.size)) (.string (txt nn)) true) (X.drewN q) = .ok (.tuple #[.string (txt ((T nn).getD [])), .bool (T nn).isSome]) (X.drewN q) := by
        intro q
        have := (HTX.out.below (below_drawsP (Below.refl _ _) q)).look _ hsn
        rw [txt_list] at this
        exact this
      have hlk0 := hlk 0
      have hlk1 := hlk 1
      clear hsn
      go_quiet (fail)
      obtain ⟨V, hV⟩ : ∃ V, V = X.drewN nq := ⟨_, rfl⟩
      have hBV : Below X.heap.size X V := by rw [hV]; exact below_drawsP (Below.refl _ _) nq
      have HTV := Lib.hid (HTX.out.below hBV)
      have HVS : Hid (V.heap.size = wr.heap.size + 1) := by show _ = _; rw [hV]; exact HXS.out
      have HBV : Hid (V.heap[w.heap.size + 1]? = some (.cells #[.map (some w.heap.size), .slice none 0 0, .int .i64 0, .slice none 0 0] 69 (0, 0))) := by
        show _ = _
        rw [hBV.block _ (by rw [HXS.out]; omega)]
        exact HBX.out
      have HXV : Hid (V.heap[wr.heap.size]? = some (.cells #[.string (txt nn), .string (txt tt)] 28 (0, 0))) := by
        show _ = _
        rw [hBV.block _ (by rw [HXS.out]; omega)]
        exact HX1.out
      have HWV := Lib.hid (HWX.out.trans (hBV.mono HWX.out.size))
      rw [← hV]
      clear hV hlk hlk0 hlk1 c0 y0 y1 y2 hBV
      obtain ⟨⟨c0, _, _, _⟩, _⟩ := boxF HBV.out
      obtain ⟨y0, y1, y2⟩ := rb_cells HXV.out
      have hcn := CheckN_ok (txt nn) (by rw [txt_size]; omega) V
      by_cases hE : nameE (txt nn) = 0
      · rw [hE] at hcn
        have HCN := Lib.hid hcn
        have HE0 := Lib.hid hE
        clear hcn hE
        cases hT : (T nn).isSome with
        | true =>
          have HRES : Hid (linesT s.data.toList l = (0, [], 6)) := by
            show _ = _
            have hp : putsT noT l = (T, 6) := by rw [HPU.out, HTD.out, putsT_cons, if_neg (fun e => e HE0.out), if_pos hT]
            rw [HLE.out, hp, if_pos (show (6 : Int) ≠ 0 by decide)]
          clear hT
          go_wp2_with (go_at_call 28; refine HCN.out.mono ?_; rintro e w6 ⟨rfl, rfl⟩)
          go_ret2
          rw [HRES.out]
          exact ⟨.inl ⟨by decide, rfl⟩, HWV.out⟩
        | false =>
          have HPN : Hid (putsT noT l = putsT (updT T nn tt) (l.drop (j + 1))) := by
            show _ = _
            rw [HPU.out, HTD.out, putsT_cons, if_neg (fun e => e HE0.out), if_neg (by rw [hT]; decide)]
          clear hT
          go_upto_region 12 with (go_at_call 28; refine HCN.out.mono ?_; rintro e w6 ⟨rfl, rfl⟩)
          go_still_tail 8, (by kernel_rfl)
          change wpList _ _ _ _ _ V.drew
          have HTD2 := Lib.hid (HTV.out.below ((Below.refl V.heap.size V).drew))
          clear c0 y0 y1 y2
          go_wp2_with (at_mapUpdate; refine store_t _ rfl _ _ _ rfl rfl HTD2.out (by unfold maxLen; omega) nn tt rfl hn1 rfl ?_; intro w5 h1 h2; have HM5 := Lib.hid h1; have HG5 := Lib.hid h2; clear h1 h2)
          go_roundw
          case rel =>
            have hV5 : V.grownBy w5 (some w.heap.size) := ⟨HG5.out.os, HG5.out.tape, HG5.out.output, HG5.out.size, HG5.out.block⟩
            refine ⟨j + 1, nm + 1, updT T nn tt, by omega, by omega, by go_num, by have := hV5.size; have := HVS.out; omega, HM5.out, ?_, ?_, HPN.out⟩
            · show _ = _
              rw [hV5.block _ (by have := HVS.out; omega) (fun e => by injection e; omega)]
              exact HBV.out
            · show Below _ _ _
              exact HWV.out.grown hV5 HWV.out.size (fun k hk => by injection hk with hk; omega)
          case measure => simp [intOf]; omega
      · obtain ⟨i1, i2⟩ := int_ne' hE
        have h3 : nameE (txt nn) = 3 := (nameE_cases (txt nn)).resolve_left hE
        have HRES : Hid (linesT s.data.toList l = (0, [], 3)) := by
          show _ = _
          have hp : putsT noT l = (T, 3) := by rw [HPU.out, HTD.out, putsT_cons, if_pos hE]
          rw [HLE.out, hp, if_pos (show (3 : Int) ≠ 0 by decide)]
        rw [h3] at hcn
        have HCN := Lib.hid hcn
        clear hcn hE h3 i1 i2
        go_wp2_with (go_at_call 28; refine HCN.out.mono ?_; rintro e w6 ⟨rfl, rfl⟩)
        go_ret2
        rw [HRES.out]
        exact ⟨.inl ⟨by decide, rfl⟩, HWV.out⟩
    · obtain rfl : j = l.length := by omega
      have hpt : putsT noT l = (T, 0) := by
        rw [HPU.out, List.drop_length]
        rfl
      have h20 : l.length ≤ 20 := by have := of_decide_eq_false hd; omega
      have HRES : Hid (linesT s.data.toList l = readR T l.length [] 0 [] s.data.toList) := by
        show _ = _
        rw [HLE.out, hpt, if_neg (fun e => e rfl)]
      have hmem : ∀ n t, T n = some t → (n, t) ∈ l := fun n t h => (putsT_mem l noT n t (by rw [hpt]; exact h)).resolve_left (fun e => by cases e)
      have hrs : RSt wr.heap.size (w.heap.size + 1) T [] 0 [] ⟨w.heap.size, nm, none, 0, none, 0⟩ wr := RSt.start HB.out (by omega) HT.out (by omega)
      have hrd := read_ok wr.heap.size (w.heap.size + 1) T l.length [] 0 [] _ s wr hrs (Nat.le_refl _) (HM.out.below HW.out) hs (by omega) HGL.out (fun h0 x hx _ =>
        inc_ok wr.heap.size (w.heap.size + 1) T (l.map (·.1)) (fun n hn => by
          obtain ⟨t, ht⟩ := Option.isSome_iff_exists.1 hn
          exact List.mem_map.2 ⟨(n, t), hmem n t ht, rfl⟩) (fun n t ht => (HL.out _ (hmem n t ht)).2) (by rw [List.length_map]; omega) HGL.out l.length [] x List.nodup_nil (fun y hy => by cases hy) (by rw [List.length_map]; omega) (by
          obtain ⟨y, hy, rfl⟩ := List.mem_map.1 hx
          have h1 := joinL_size hy
          have h2 := joinE_size h0
          rw [ba_len] at h1
          omega))
      unfold ReadPost at hrd
      obtain ⟨R, hR⟩ : ∃ R, R = readR T l.length [] 0 [] s.data.toList := ⟨_, rfl⟩
      rw [← hR] at hrd HRES
      obtain ⟨m6, o6, E⟩ := R
      simp only at hrd
      have HRD : Hid (Calls Tryz.prog 29 #[.pointer (some ⟨w.heap.size + 1, 0, none⟩), .string s] wr fun e w' => e = .returned (.int .i64 E) ∧ (∃ r', RSt wr.heap.size (w.heap.size + 1) T [] m6 o6 r' w') ∧ Below w.heap.size w w') := by
        show Calls _ _ _ _ _
        refine hrd.mono ?_
        rintro e w' ⟨h1, ⟨r', h2, _, _⟩, h3, _⟩
        exact ⟨h1, ⟨r', h2⟩, HW.out.trans (h3.belowOf (by omega) (by omega) (fun k hk => by cases hk) (fun k hk => by cases hk))⟩
      clear hrd hR hrs hmem hpt
      by_cases hE : E = 0
      · subst hE
        go_upto_region 17 with (go_at_call 29; refine HRD.out.mono ?_; rintro e w6 ⟨rfl, ⟨r6, hr6⟩, hb6⟩; have HR6 := Lib.hid hr6; have HB6 := Lib.hid hb6; obtain ⟨⟨c0, c1, c2, c3⟩, c4⟩ := hr6.cells; clear hr6 hb6)
        go_wp2
        go_ret2
        rw [HRES.out]
        exact ⟨.inr ⟨rfl, (by have := HR6.out.lq; have := HR6.out.lm; show o6.length ≤ _; omega), r6.pq, r6.cq, rfl, HR6.out.outNL⟩, HB6.out⟩
      · obtain ⟨i1, i2⟩ := int_ne' hE
        have HNE := Lib.hid hE
        clear hE
        go_wp2_with (go_at_call 29; refine HRD.out.mono ?_; rintro e w6 ⟨rfl, _, hb6⟩; have HB6 := Lib.hid hb6; clear hb6)
        go_ret2
        rw [HRES.out]
        exact ⟨.inl ⟨HNE.out, rfl⟩, HB6.out⟩
end Go.Proofs.YtoiolepengcagaaGreatDoor
namespace Go.Proofs.YtoiolepengcagaaGreatDoor
open Go.RowKit Go.Shelf Go.Maps
theorem ba_appI (a b : ByteArray) : (a ++ b).data.toList = a.data.toList ++ b.data.toList := by simp
theorem cat_runI {P : Program} (a b : ByteArray) (h : a.size + b.size ≤ 4611686018427387904) : ∃ A : ByteArray, A.data.toList = a.data.toList ++ b.data.toList ∧ A.size = a.size + b.size ∧ ∀ w : World, (Op.stringOp .add a b).run P w = .ok (.string A) w := by
  refine ⟨a ++ b, ba_appI a b, by simp, fun w => ?_⟩
  have hm : IntKind.i64.max = 9223372036854775807 := rfl
  have : ¬ (((a.size + b.size : Nat) : Int) > IntKind.i64.max) := by rw [hm]; omega
  simp only [Op.stringOp]
  rw [if_neg this]
  rfl
def LinesAny (w : World) (R : Nat × List Bl × Int) (e : Ending) (w' : World) : Prop :=
  (∃ p m c, e = .returned (.tuple #[.slice p m c, .int .i64 R.2.2]) ∧ (R.2.2 = 0 → m = R.2.1.length ∧ R.2.1.length ≤ 201 ∧ NL w' p m c (R.2.1.map txt))) ∧ Below w.heap.size w w'
theorem LinesPost.any {w w' : World} {R : Nat × List Bl × Int} {e : Ending} (h : LinesPost w R e w') : LinesAny w R e w' := by
  obtain ⟨h | ⟨h0, hl, p, c, h1, h2⟩, hb⟩ := h
  · exact ⟨⟨none, 0, 0, h.2, fun e => absurd e h.1⟩, hb⟩
  · refine ⟨⟨p, _, c, ?_, fun _ => ⟨rfl, hl, h2⟩⟩, hb⟩
    rw [h0]
    exact h1
/-- the three texts, plainly -/
theorem inc_plain {s n t : Bl} {A B C : Nat × List Bl × Int} (hA : A = readR (fun _ => none) 0 [] 0 [] t) (hB : B = linesT (s ++ [10, 105, 110, 99, 108, 117, 100, 101, 32] ++ n ++ [10]) [(n, t)]) (hC : C = readR (fun _ => none) 0 [] 0 [] (s ++ [10]))
    (ha : A.2.2 = 0) (hb : B.2.2 = 0) (hc : C.2.2 = 0) (hs : Lib.hasSuffix s [92] = false) : B.2.1 = C.2.1 ++ A.2.1 := by
  have hn : nameE (txt n) = 0 := by
    rcases nameE_cases (txt n) with h | h
    · exact h
    · exfalso
      have hp : putsT noT [(n, t)] = (noT, 3) := by rw [putsT_cons, if_pos (by rw [h]; decide)]
      unfold linesT at hB
      rw [if_neg (by simp), hp, if_pos (show (3 : Int) ≠ 0 by decide)] at hB
      rw [hB] at hb
      cases hb
  have hp : putsT noT [(n, t)] = (updT noT n t, 0) := by
    rw [putsT_cons, if_neg (fun e => e hn), if_neg (show ¬ (noT n).isSome = true by simp [noT])]
    rfl
  have hB2 : B = readR (fun x => if x = n then some t else none) (0 + 1) [] 0 [] (s ++ [10] ++ (incL n ++ [10])) := by
    rw [hB]
    unfold linesT
    rw [if_neg (by simp), hp, if_neg (fun e => e rfl)]
    have e1 : s ++ [10, 105, 110, 99, 108, 117, 100, 101, 32] ++ n ++ [10] = s ++ [10] ++ (incL n ++ [10]) := by
      unfold incL incW
      simp
    rw [e1]
    rfl
  obtain ⟨ma, a, ea⟩ := A
  obtain ⟨mb, b, eb⟩ := B
  obtain ⟨mc, c, ec⟩ := C
  simp only at ha hb hc ⊢
  subst ha hb hc
  exact includes_law hn hs hA.symm hB2.symm hC.symm
set_option maxHeartbeats 8000000 in
set_option maxRecDepth 100000 in
theorem fileIncludes_ok (s n t : ByteArray) (w : World) (hM : ML w) (hs : s.size ≤ 140737488351232) (hn : n.size ≤ 140737488351232) (ht : t.size ≤ 140737488351232) :
    Calls Tryz.prog 3 #[.string s, .string n, .string t] w fun e w' => e = .returned (.bool true) ∧ Below w.heap.size w w' := by
  have HF := Lib.hid (files_ok w hM)
  have HM := Lib.hid hM
  obtain ⟨A, hA⟩ : ∃ A, A = readR (fun _ => none) 0 [] 0 [] t.data.toList := ⟨_, rfl⟩
  obtain ⟨C, hC⟩ : ∃ C, C = readR (fun _ => none) 0 [] 0 [] (s.data.toList ++ [10]) := ⟨_, rfl⟩
  obtain ⟨B, hB⟩ : ∃ B, B = linesT (s.data.toList ++ [10, 105, 110, 99, 108, 117, 100, 101, 32] ++ n.data.toList ++ [10]) [(n.data.toList, t.data.toList)] := ⟨_, rfl⟩
  have HPL := Lib.hid (inc_plain hA hB hC)
  have HLA : Hid (∀ u : World, Below w.heap.size w u → Calls Tryz.prog 8 #[.string t, .slice none 0 0] u (LinesAny u A)) := by
    show ∀ u : World, _
    intro u hu
    have := LinesN_ok t (by omega) u (hM.below hu)
    rw [← hA] at this
    exact this.mono fun _ _ h => h.any
  obtain ⟨S1, a1, z1, r1⟩ := cat_runI (P := Tryz.prog) s ⟨#[10, 105, 110, 99, 108, 117, 100, 101, 32]⟩ (by show _ + 9 ≤ _; omega)
  obtain ⟨S2, a2, z2, r2⟩ := cat_runI (P := Tryz.prog) S1 n (by rw [z1]; show _ + 9 + _ ≤ _; omega)
  obtain ⟨S3, a3, z3, r3⟩ := cat_runI (P := Tryz.prog) S2 ⟨#[10]⟩ (by rw [z2, z1]; show _ + 9 + _ + 1 ≤ _; omega)
  obtain ⟨S4, a4, z4, r4⟩ := cat_runI (P := Tryz.prog) s ⟨#[10]⟩ (by show _ + 1 ≤ _; omega)
  have HLB : Hid (∀ (u : World) (b : Nat), Below w.heap.size w u → b < u.heap.size → u.cell? ⟨b, 0, none⟩ = some (.string n) → u.cell? ⟨b, 1, none⟩ = some (.string t) → Calls Tryz.prog 8 #[.string S3, .slice (some ⟨b, 0, none⟩) 1 1] u (LinesAny u B)) := by
    show ∀ (u : World) (b : Nat), _
    intro u b hu hbl c0 c1
    have hP : P2At mF mG u (some ⟨b, 0, none⟩) 1 1 [(n.data.toList, t.data.toList)] := by
      refine ⟨rfl, fun _ => ⟨b, 0, rfl, hbl, fun k x hx => ?_⟩, by decide⟩
      match k, hx with
      | 0, hx =>
        simp only [List.getElem?_cons_zero, Option.some.injEq] at hx
        subst hx
        simp only [mF, mG, list_txt]
        exact ⟨c0, c1⟩
    have h3 : S3.size ≤ 4611686018427387904 := by
      rw [z3, z2, z1]
      show _ + 9 + _ + 1 ≤ _
      omega
    have hl3 : S3.data.toList = s.data.toList ++ [10, 105, 110, 99, 108, 117, 100, 101, 32] ++ n.data.toList ++ [10] := by rw [a3, a2, a1]
    have := LinesT_ok S3 h3 (some ⟨b, 0, none⟩) 1 1 _ u (hM.below hu) hP (fun x hx => by
      rw [List.mem_singleton.1 hx]
      simp only
      rw [← Lib.size_eq, ← Lib.size_eq]
      omega)
    rw [hl3, ← hB] at this
    exact this.mono fun _ _ h => h.any
  have HLC : Hid (∀ u : World, Below w.heap.size w u → Calls Tryz.prog 8 #[.string S4, .slice none 0 0] u (LinesAny u C)) := by
    show ∀ u : World, _
    intro u hu
    have h4 : S4.size ≤ 4611686018427387904 := by
      rw [z4]
      show _ + 1 ≤ _
      omega
    have hl4 : S4.data.toList = s.data.toList ++ [10] := a4
    have := LinesN_ok S4 h4 u (hM.below hu)
    rw [hl4, ← hC] at this
    exact this.mono fun _ _ h => h.any
  unfold LinesAny at HLA HLB HLC
  obtain ⟨ma, la, ea⟩ := A
  obtain ⟨mb, lb, eb⟩ := B
  obtain ⟨mc, lc, ec⟩ := C
  simp only at HLA HLB HLC HPL
  have hss : s.size ≤ 9223372036854775807 := by omega
  have HSF := Lib.hid (fun u => Tryz.strings_HasSuffix s ⟨#[92]⟩ u hss)
  clear hA hB hC a1 a2 a3 a4 z1 z2 z3 z4 hss
  go_enter Tryz.func3, Tryz.ntmps3
  go_upto_region 3 with (go_at_call 7; refine HF.out.mono ?_; rintro e w1 ⟨rfl, hb1⟩; have HB1 := Lib.hid hb1; clear hb1)
  go_upto_region 4 with (go_at_call 8; refine (HLA.out _ HB1.out).mono ?_; rintro e w2 ⟨⟨pa, na, ca, rfl, hya⟩, hb2⟩; have HYA := Lib.hid hya; have HB2 := Lib.hid (HB1.out.trans (hb2.mono HB1.out.size)); clear hya hb2)
  obtain ⟨W4, hW4⟩ : ∃ W4, W4 = w2.alloc (.cells #[.string n, .string t] 28) := ⟨_, rfl⟩
  have hb4 : Below w2.heap.size w2 W4 := by rw [hW4]; exact rb1w _ _
  have hs4 : W4.heap.size = w2.heap.size + 1 := by rw [hW4]; simp
  have c40 : W4.cell? ⟨w2.heap.size, 0, none⟩ = some (.string n) := by rw [hW4]; simp
  have c41 : W4.cell? ⟨w2.heap.size, 1, none⟩ = some (.string t) := by rw [hW4]; simp
  have HB4 := Lib.hid (HB2.out.trans (hb4.mono HB2.out.size))
  have HLB4 := Lib.hid (HLB.out W4 w2.heap.size HB4.out (by omega) c40 c41)
  have HB42 := Lib.hid hb4
  have HC22 : Hid (ea = 0 → na = la.length ∧ la.length ≤ 201 ∧ NL W4 pa na ca (la.map txt)) := fun h => ⟨(HYA.out h).1, (HYA.out h).2.1, (HYA.out h).2.2.below hb4⟩
  clear hb4 hs4 c40 c41 hM hs hn ht
  go_upto_region 5 with (go_at_call 8; rw [← hW4]; refine HLB4.out.mono ?_; rintro e w5 ⟨⟨pb, nb, cb, rfl, hyb⟩, hb5⟩; have HYB := Lib.hid hyb; have HB5 := Lib.hid (HB4.out.trans (hb5.mono HB4.out.size)); have HB45 := Lib.hid hb5; clear hyb hb5)
  clear hW4
  go_upto_region 6 with (go_at_call 8; refine (HLC.out _ HB5.out).mono ?_; rintro e w6 ⟨⟨pc, nc, cc, rfl, hyc⟩, hb6⟩; have HYC := Lib.hid hyc; have HB6 := Lib.hid (HB5.out.trans (hb6.mono HB5.out.size)); have HB56 := Lib.hid hb6; clear hyc hb6)
  by_cases h0 : ea = 0 ∧ eb = 0 ∧ ec = 0
  · obtain ⟨rfl, rfl, rfl⟩ := h0
    obtain ⟨q1, l1, n1⟩ := HC22.out rfl
    obtain ⟨q2, l2, n2⟩ := HYB.out rfl
    obtain ⟨q3, l3, n3⟩ := HYC.out rfl
    have HPQ := Lib.hid (HPL.out rfl rfl rfl)
    subst q1 q2 q3
    have HNA := Lib.hid ((n1.below HB45.out).below HB56.out)
    have HNB := Lib.hid (n2.below HB56.out)
    have HNC := Lib.hid n3
    have HG := goodB3 0 0 0 w6
    have hal : allOk [(0 : Int), 0, 0] = true := rfl
    rw [hal] at HG
    have HGD := Lib.hid HG
    clear n1 n2 n3 HG hal
    go_upto_region 8 with (go_at_call 9; refine HGD.out.mono ?_; rintro e w7 ⟨rfl, hb7⟩; have HB7 := Lib.hid hb7; clear hb7)
    obtain ⟨W8, hW8⟩ : ∃ W8, W8 = w7.alloc (.cells #[.slice pc lc.length cc, .slice pa la.length ca] 23) := ⟨_, rfl⟩
    have hb8 : Below w7.heap.size w7 W8 := by rw [hW8]; exact rb1w _ _
    have hs8 : W8.heap.size = w7.heap.size + 1 := by rw [hW8]; simp
    have hb68 : Below w6.heap.size w6 W8 := HB7.out.trans (hb8.mono HB7.out.size)
    have hcc := concat_two (B := w7.heap.size) (HNC.out.below hb68).weak (HNA.out.below hb68).weak (by omega) (by rw [hW8]; simp) (by rw [hW8]; simp) (by omega)
    have HCC := Lib.hid hcc
    have HNB8 := Lib.hid (HNB.out.below hb68)
    have HB8 := Lib.hid (HB6.out.trans (hb68.mono HB6.out.size))
    have HSZ : Hid (∀ x ∈ lc.map txt ++ la.map txt, x.size ≤ 4611686018427387904) := by
      show ∀ x ∈ _, _
      intro x hx
      rcases List.mem_append.1 hx with hx | hx
      · exact HNC.out.at_.size x hx
      · exact HNA.out.at_.size x hx
    have HLN : Hid ((lc.map txt ++ la.map txt).length * 16 ≤ 140737488351232) := by
      show _ ≤ _
      rw [List.length_append, List.length_map, List.length_map]
      omega
    obtain ⟨K, hK⟩ : ∃ K, K = (lc.map txt ++ la.map txt).length := ⟨_, rfl⟩
    have HC2 : Hid (Calls Tryz.prog 11 #[.slice (some ⟨w7.heap.size, 0, none⟩) 2 2] W8 fun e w' => ∃ g c, e = .returned (.slice g K c) ∧ NL w' g K c (lc.map txt ++ la.map txt) ∧ Below W8.heap.size W8 w') := by
      show Calls _ _ _ _ _
      refine HCC.out.mono ?_
      intro e w9 hp
      obtain ⟨g9, c9, he, hn9, _, hb9⟩ := hp.elim HSZ.out HLN.out
      rw [← hK] at he hn9
      exact ⟨g9, c9, he, hn9, hb9⟩
    obtain ⟨Z, hZ⟩ : ∃ Z, Z = lc.map txt ++ la.map txt := ⟨_, rfl⟩
    rw [← hZ] at HC2
    have hdec : decide (lb.map txt = lc.map txt ++ la.map txt) = true ∨ Lib.hasSuffix s.data.toList [92] = true := by
      cases hh : Lib.hasSuffix s.data.toList [92] with
      | true => exact .inr rfl
      | false =>
        left
        rw [HPQ.out hh, List.map_append]
        exact decide_eq_true rfl
    have HDEC := Lib.hid hdec
    rw [← hZ] at HDEC
    clear hcc hb8 hs8 hb68 hdec l1 l2 l3 HLA HLB HLC hK HCC
    obtain ⟨X, hX⟩ : ∃ X, X = lb.map txt := ⟨_, rfl⟩
    rw [← hX] at HDEC HNB8
    clear hX hZ
    by_cases hd : decide (X = Z) = true
    · have HD := Lib.hid hd
      clear hd
      go_wp2_with (first
        | (go_at_call 11; rw [← hW8]; clear hW8; refine HC2.out.mono ?_; rintro e w9 ⟨g9, c9, rfl, hn9, hb9⟩; have HN9 := Lib.hid hn9; have HB9 := Lib.hid (HB8.out.trans (hb9.mono HB8.out.size)); have HNB9 := Lib.hid (HNB8.out.below hb9); clear hn9 hb9)
        | (go_at_call 10; refine (nlw_equalG HNB9.out.weak HN9.out.weak).mono ?_; rw [HD.out]; rintro e w10 ⟨rfl, kk, rfl⟩))
      go_ret
      exact ⟨rfl, below_drawsP HB9.out kk⟩
    · have HD : Hid (decide (X = Z) = false) := by show _ = _; simpa using hd
      have HS2 : Hid (Lib.hasSuffix s.data.toList [92] = true) := HDEC.out.resolve_left hd
      rw [HS2.out] at HSF
      clear hd
      go_wp2_with (first
        | (go_at_call 11; rw [← hW8]; clear hW8; refine HC2.out.mono ?_; rintro e w9 ⟨g9, c9, rfl, hn9, hb9⟩; have HN9 := Lib.hid hn9; have HB9 := Lib.hid (HB8.out.trans (hb9.mono HB8.out.size)); have HNB9 := Lib.hid (HNB8.out.below hb9); clear hn9 hb9)
        | (go_at_call 10; refine (nlw_equalG HNB9.out.weak HN9.out.weak).mono ?_; rw [HD.out]; rintro e w10 ⟨rfl, kk, rfl⟩)
        | (go_at_call 12; refine (HSF.out _).mono ?_; rintro e w11 ⟨rfl, rfl⟩))
      go_ret
      exact ⟨rfl, below_drawsP HB9.out kk⟩
  · have HG := goodB3 ea eb ec w6
    have hal : allOk [ea, eb, ec] = false := by
      rw [← Bool.not_eq_true]
      intro h
      unfold allOk at h
      simp at h
      exact h0 h
    rw [hal] at HG
    have HGD := Lib.hid HG
    clear HG hal h0
    go_wp2_with (go_at_call 9; refine HGD.out.mono ?_; rintro e w7 ⟨rfl, hb7⟩; have HB7 := Lib.hid (HB6.out.trans (hb7.mono HB6.out.size)); clear hb7)
    go_ret
    exact ⟨rfl, HB7.out⟩
end Go.Proofs.YtoiolepengcagaaGreatDoor
namespace Go.Proofs.YtoiolepengcagaaGreatDoor
open Go.RowKit Go.Shelf Go.Maps
theorem fileOrder_law (w : World) (v0 : Value) (hM : MLm w) (hML : ML w) (h0 : ∃ g, NLAt w v0 g) :
    Calls Tryz.prog 4 #[v0] w fun e w' => e = .returned (.bool true) ∧ Below w.heap.size w w' := by
  obtain ⟨_, p, n, c, zs, rfl, hn, _, hs⟩ := h0
  exact fileOrder_ok p n c zs w hn hM hML hs
end Go.Proofs.YtoiolepengcagaaGreatDoor
