/- Texts joined: EvalTabsW, EvalLetW, EvalKindsW. Conditions: theirs. -/
import Derived.Test.YteefncohknclcaaGreatDoorEvalAllWM16
import Derived.Test.YteefncohknclcaaGreatDoorEvalAllWM15
import Derived.Test.YteefncohknclcaaGreatDoorEvalAllWM13
import Derived.BigQuiet
import Derived.Deep.RegionHeld3
namespace Go.Proofs.YteefncohknclcaaGreatDoor
open Go.RowKit Go.Shelf Go.Lib
def laidE : List (String × DataW Unit) := Rows.evalSetsRow.laid
theorem formsMemE : (formsN, (Rows.laid_millwright_ask_forms : DataW Unit)) ∈ laidE := by
  show _ ∈ [_, _, _, _]
  repeat (first | exact List.Mem.head _ | apply List.Mem.tail)
set_option maxRecDepth 100000 in
theorem forms_ofE {w : World} (h : laidMetH Tryz.prog laidE w) : Forms w := by
  rw [MakeChecks.laidMetH_plain _ _ _ (by kernel_rfl)] at h
  obtain ⟨ps, hl, _⟩ := h
  obtain ⟨g, t, cs, fuel, p, h1, h2, h3, h4⟩ := laid_one hl _ formsMemE
  obtain rfl := Option.some.inj (formsG.symm.trans h1)
  obtain rfl := Option.some.inj (formsTy.symm.trans h2)
  obtain ⟨xs, m, _, hx, hlen, hxl, hff⟩ := DataW.trod_array Tryz.underlying129 h4
  intro k hk
  injection hx with hx _
  have hx : (Rows.laid_millwright_ask_forms : DataW Unit) = .agg (xs.map (·.1)) := hx
  rw [formsD] at hx
  injection hx with hx
  have hxk := congrArg (fun l : List (DataW Unit) => l[k]?) hx
  simp only [List.getElem?_map, List.getElem?_range hk, Option.map_some] at hxk
  obtain ⟨x, hx1, hx2⟩ := Option.map_eq_some_iff.1 hxk.symm
  have hf := hff k hk
  rw [hx1, formsC] at hf
  obtain ⟨x1, x2⟩ := x
  have hx2 : x1 = formD k := hx2
  subst hx2
  have hc := form_four hf
  have hg : ∀ j v, ((cs.toList.drop (k * 4)).take 4)[j]? = some v → w.cell? ⟨0, 4 * k + j, none⟩ = some v := by
    intro j v hv
    rw [World.var?_cell formsG h3]
    rw [List.getElem?_take] at hv
    split at hv
    · rw [List.getElem?_drop] at hv
      rw [← hv, show 4 * k + j = k * 4 + j by omega]
      simp
    · cases hv
  rw [hc] at hg
  exact ⟨hg 0 _ rfl, hg 1 _ rfl, hg 2 _ rfl, hg 3 _ rfl⟩
theorem firstMemE : ("unicode/utf8.first", firstData) ∈ laidE := by
  have e : (Rows.laid_unicode_utf8_first : DataW Unit) = firstData := by kernel_rfl
  rw [← e]
  show _ ∈ [_, _, _, _]
  repeat (first | exact List.Mem.head _ | apply List.Mem.tail)
theorem acceptMemE : ("unicode/utf8.acceptRanges", acceptData) ∈ laidE := by
  have e : (Rows.laid_unicode_utf8_acceptRanges : DataW Unit) = acceptData := by kernel_rfl
  rw [← e]
  show _ ∈ [_, _, _, _]
  repeat (first | exact List.Mem.head _ | apply List.Mem.tail)
theorem utf_ofE {w : World} (h : laidMetH Tryz.prog laidE w) : Lib.Utf8Tabs 3 4 w := by
  rw [MakeChecks.laidMetH_plain _ _ _ (by kernel_rfl)] at h
  obtain ⟨ps, hl, _⟩ := h
  exact utf8Tabs_of_readsT u8t u8x (LaidVars_reads hl _ _ firstMemE) (LaidVars_reads hl _ _ acceptMemE)
theorem laid_tabE {w : World} (h : laidMetH Tryz.prog laidE w) {name : String} {k : IntKind} {zs : List Int} {g : Nat} {t e : TypeId} {n : Nat} (hm : (name, (Lib.tabData k zs : DataW Unit)) ∈ laidE)
    (hg : Tryz.prog.globalNamed name = some g) (hty : (Tryz.prog.globals[g]?).map (·.type) = some t) (ht : Tryz.prog.underlying t = some (.array n e)) (he : Tryz.prog.underlying e = some (.int k)) (hce : Tryz.prog.cellsOf e = 1) (hct : Tryz.prog.cellsOf t = n) : Lib.TabIs Tryz.prog w name k zs := by
  rw [MakeChecks.laidMetH_plain _ _ _ (by kernel_rfl)] at h
  obtain ⟨ps, hl, _⟩ := h
  obtain ⟨g', t', cs, fuel, p, hg', ht', hvar, hd⟩ := laid_one hl _ hm
  obtain rfl := Option.some.inj (hg.symm.trans hg')
  obtain rfl := Option.some.inj (hty.symm.trans ht')
  unfold Lib.TabIs
  rw [hvar, ← Lib.cells_of_tab ht he hce hct hd]
/-- the table's cells -/
theorem tab_ofE {w : World} (h : laidMetH Tryz.prog laidE w) : Tab w := by
  have hT := laid_tabE h (name := tabName) (k := .u8) (zs := tabInts) (by show _ ∈ [_, _, _, _]; repeat (first | exact List.Mem.head _ | apply List.Mem.tail)) tabG tabT Tryz.underlying212 Tryz.underlying5 tabCE tabCT
  intro j hj
  have hc := hT.cell tabG j (by simpa [tabInts] using hj)
  rw [hc]
  have e : tabInts.getD j 0 = ((Lib.deBruijn64tab.getD j 0 : Nat) : Int) := by
    unfold tabInts
    rw [List.getD_eq_getElem?_getD, List.getD_eq_getElem?_getD, List.getElem?_map]
    cases Lib.deBruijn64tab[j]? <;> rfl
  rw [e]
theorem ev_tabs {w : World} (h : laidMetH Tryz.prog laidE w) : EvTabs w := ⟨⟨forms_ofE h, utf_ofE h⟩, tab_ofE h⟩
end Go.Proofs.YteefncohknclcaaGreatDoor
namespace Go.Proofs.YteefncohknclcaaGreatDoor
open Go.RowKit Go.Shelf
/-- the free vars as strings -/
theorem free_nl {X : QA} {w : World} {b c : Nat} {q : Option Addr} (h : w.ownsRow b 9 1 (.slice q (freeS X).length c) (freeS X).length ((freeS X).map encStr)) (hE : qE qpat X = 0) : NL w q (freeS X).length c ((freeS X).map qtx) := by
  have e : strsV ((freeS X).map qtx) = (freeS X).map encStr := by rw [← byt_enc, byt_qtx]
  rw [← e] at h
  have hsm : ∀ z ∈ (freeS X).map qtx, z.size ≤ 4611686018427387904 := fun z hz => by
    obtain ⟨t, ht, rfl⟩ := List.mem_map.1 hz
    have := free_small X (qE_chk hE).2 t (freeS_mem.1 ht)
    rw [qtx_size]
    omega
  have hln : (freeS X).length ≤ 60 := by
    have h1 := qfree_len X []
    have h2 := (qE_chk hE).1
    have h3 : (freeS X).length ≤ ((qfree X []).mergeSort fun a b => decide (a ≤ b)).length := Lib.compact_length_le _
    rw [List.length_mergeSort] at h3
    omega
  obtain ⟨g', c', hv, hnl, _⟩ := NL_ownAny h (by rw [List.length_map]) hsm (by omega)
  injection hv with e1 e2 e3
  subst e1 e3
  exact hnl
set_option maxHeartbeats 8000000 in
set_option maxRecDepth 100000 in
theorem evalLet_ok (g : GD) (v : Value) (x y : QT) (s : ByteArray) (w : World) (hG : GrAt w v g) (hX : QIn w x) (hY : QIn w y) (hs : s.size ≤ 1048576) (hT : EvTabs w) (hcx : qcnt (qabs x) ≤ 1048576) (hcy : qcnt (qabs y) ≤ 1048576) :
    Calls Tryz.prog 7 #[v, x.v, y.v, .string s] w fun e w' => e = .returned (.bool true) ∧ Below w.heap.size w w' := by
  obtain ⟨p, n, c, qe, m, d, hv, hN, hE⟩ := hG.at_
  obtain ⟨W, hW, hBW, hS, hC⟩ := argGAA w (.slice p n c) (.slice qe m d) (.int .u64 (un g.phony : Int)) (.int .u64 (un g.made : Int)) x y
  have HC := Lib.hid hC
  have HBW := Lib.hid hBW
  have HSS0 := Lib.hid hs
  have HIN : Hid (∀ u : World, Below W.heap.size W u → QIn u x ∧ QIn u y ∧ EvTabs u) := by
    show ∀ u : World, _
    exact fun u hu => ⟨hX.below (hBW.trans (hu.mono hBW.size)), hY.below (hBW.trans (hu.mono hBW.size)), hT.below (hBW.trans (hu.mono hBW.size))⟩
  have HEVS : Hid (∀ (l : List QT) (q : Option Addr) (cc : Nat) (u : World), Below W.heap.size W u → QsIn u q 0 l → (∀ t ∈ l, qcnt (qabs t) ≤ 1099511627776) → l.length ≤ 100 → Calls Tryz.prog 24 #[v, .slice q l.length cc] u (EvalsPost g l u)) := by
    show ∀ (l : List QT) (q : Option Addr) (cc : Nat) (u : World), _
    exact fun l q cc u hu hl hc h100 => evals_ok g v q cc l u (hG.below (hBW.trans (hu.mono hBW.size))) hl (HIN.out u hu).2.2 hc h100
  have HFR : Hid (∀ u : World, Below W.heap.size W u → Calls Tryz.prog 15 #[y.v] u (FreeAPost y u)) := by
    show ∀ u : World, _
    exact fun u hu => FreeA_ok y u (HIN.out u hu).2.1 (HIN.out u hu).2.2.ask (by omega)
  have HAN := Lib.hid (answers_ok W (HIN.out W (Below.refl _ _)).2.2)
  have HKx := Lib.hid hcx
  have HKy := Lib.hid hcy
  unfold FreeAPost at HFR
  rw [hv] at HEVS ⊢
  show Calls Tryz.prog 7 #[.agg #[.slice p n c, .slice qe m d, .int .u64 (un g.phony : Int), .int .u64 (un g.made : Int)], .agg #[.int .i64 x.kind, .string x.name, .int .i64 x.num, .slice x.p x.xs.length x.cap], .agg #[.int .i64 y.kind, .string y.name, .int .i64 y.num, .slice y.p y.xs.length y.cap], .string s] w _
  obtain ⟨⟨g0, g1, g2, g3⟩, ⟨k0, k1, k2, k3⟩, m0, m1, m2, m3⟩ := HC.out W (Below.refl _ _)
  clear hG hX hY hT hcx hcy hv hN hE hBW hC hs hS
  go_enter Tryz.func7, Tryz.ntmps7
  go_upto_region 1 with fail
  rw [← hW]
  clear hW
  go_upto_region 3 with (go_at_call 23; refine HAN.out.mono ?_; rintro e w1 ⟨rfl, hb⟩; have HB1 := Lib.hid hb; obtain ⟨_, _, u0, u1, u2, u3⟩ := HC.out w1 hb; clear hb)
  clear g0 g1 g2 g3 k0 k1 k2 k3 m0 m1 m2 m3
  go_upto_region 4 with (go_at_call 15; refine (HFR.out w1 HB1.out).mono ?_; rintro e w2 ⟨hF, hb⟩; obtain ⟨fv, E, rfl, hR⟩ : ∃ (fv : Value) (E : Int), e = .returned (.tuple #[fv, .int .i64 E]) ∧ (E ≠ 0 ∨ (E = 0 ∧ qE qpat (qabs y) = 0 ∧ ∃ (q : Option Addr) (cq : Nat), fv = .slice q (freeS (qabs y)).length cq ∧ w2.ownsRow w1.heap.size 9 1 (.slice q (freeS (qabs y)).length cq) (freeS (qabs y)).length ((freeS (qabs y)).map encStr))) := (hF.elim (fun h => ⟨_, _, h.2, .inl h.1⟩) (fun h => by obtain ⟨h0, q, cq, h1, h2⟩ := h; exact ⟨_, _, h1, .inr ⟨rfl, h0, q, cq, rfl, h2⟩⟩)); have HR := Lib.hid hR; have HB2 := Lib.hid (HB1.out.trans (hb.mono HB1.out.size)); clear hb hF hR)
  clear u0 u1 u2 u3
  have hfin : ∀ u : World, Below W.heap.size W u → Below w.heap.size w u := fun u hu => HBW.out.trans (hu.mono HBW.out.size)
  have HFIN := Lib.hid hfin
  clear hfin
  obtain ⟨⟨a0, a1, a2, a3⟩, ⟨b0, b1, b2, b3⟩, _⟩ := HC.out w2 HB2.out
  have HQ0 : Hid (∀ u, QIn u (.mk 3 s 0 none 0 [])) := by
    show ∀ u, _
    exact fun u => QIn.of HSS0.out (Nat.le_refl _) (by show 0 ≤ _; omega) trivial
  obtain ⟨P1, hP1⟩ : ∃ P1, P1 = w2.alloc (.cells #[.int .i64 x.kind, .string x.name, .int .i64 x.num, .slice x.p x.xs.length x.cap, .int .i64 3, .string s, .int .i64 0, .slice none 0 0] 29) := ⟨_, rfl⟩
  have hs1 : P1.heap.size = w2.heap.size + 1 := by rw [hP1]; simp
  have hb1 : Below w2.heap.size w2 P1 := by rw [hP1]; exact (Below.refl _ _).alloc (Nat.le_refl _) _
  have hin : QsIn P1 (some ⟨w2.heap.size, 0, none⟩) 0 [x, (.mk 3 s 0 none 0 [])] := by
    rw [hP1]
    exact qs_list w2 [x, (.mk 3 s 0 none 0 [])] (List.forall_mem_cons.2 ⟨(HIN.out w2 HB2.out).1, List.forall_mem_cons.2 ⟨HQ0.out _, fun _ h => nomatch h⟩⟩)
  have hlet : QIn P1 (.mk 4 s 0 (some ⟨w2.heap.size, 0, none⟩) 2 [x, (.mk 3 s 0 none 0 [])]) := QIn.of HSS0.out (by show 2 ≤ 2; omega) (by show 2 ≤ _; omega) hin
  obtain ⟨l, hl⟩ : ∃ l : List QT, l = [x, .mk 4 s 0 (some ⟨w2.heap.size, 0, none⟩) 2 [x, (.mk 3 s 0 none 0 [])]] := ⟨_, rfl⟩
  have hql := qs_list P1 l (by rw [hl]; exact List.forall_mem_cons.2 ⟨(HIN.out P1 (HB2.out.trans (hb1.mono HB2.out.size))).1, List.forall_mem_cons.2 ⟨hlet, fun _ h => nomatch h⟩⟩)
  have hcl : ∀ t ∈ l, qcnt (qabs t) ≤ 1099511627776 := by
    rw [hl]
    exact List.forall_mem_cons.2 ⟨Nat.le_trans HKx.out (by decide), List.forall_mem_cons.2 ⟨Nat.le_trans (Nat.le_of_eq (show qcnt (.mk 4 s.data.toList 0 [qabs x, .mk 3 s.data.toList 0 []]) = 1 + (qcnt (qabs x) + 1) by rw [cnt_mk, cnts_two]; rfl)) (by have := HKx.out; omega), fun _ h => nomatch h⟩⟩
  have hbA : ∀ o, Below w2.heap.size w2 (P1.alloc o) := fun o => hb1.alloc hb1.size o
  have HE2 := Lib.hid (HEVS.out l (some ⟨P1.heap.size, 0, none⟩) 2 _ (HB2.out.trans ((hbA _).mono HB2.out.size)) hql hcl (by rw [hl]; exact Nat.le_of_ble_eq_true rfl))
  have HBN : Hid (∀ o, Below w2.heap.size w2 (P1.alloc o)) := hbA
  have hl2 : l.length = 2 := by rw [hl]; rfl
  have HIX : Hid (∀ (i : Nat) (t : QT), ([x, .mk 4 s 0 (some ⟨w2.heap.size, 0, none⟩) 2 [x, (.mk 3 s 0 none 0 [])]] : List QT)[i]? = some t → l[i]? = some t) := by
    show ∀ (i : Nat) (t : QT), _
    exact fun i t h => by rw [hl]; exact h
  have hla : (asksC l).toArray = #[.int .i64 x.kind, .string x.name, .int .i64 x.num, .slice x.p x.xs.length x.cap, .int .i64 4, .string s, .int .i64 0, .slice (some ⟨w2.heap.size, 0, none⟩) 2 2] := by rw [hl]; rfl
  rw [hs1, hla, hl2, hP1] at HE2
  rw [hP1] at HBN
  clear hP1 hs1 hb1 hin hlet hl hql hcl hbA hla
  go_upto_region 5 with (go_at_call 24; refine HE2.out.mono ?_; rintro e w3 hF; obtain ⟨⟨sv, bb, rfl, hP⟩, hb3⟩ := evals_res hF; have HP := Lib.hid hP; have HB3 := Lib.hid (HB2.out.trans (((HBN.out _).trans (hb3.mono (HBN.out _).size)).mono HB2.out.size)); have HB23 := Lib.hid ((HBN.out _).trans (hb3.mono (HBN.out _).size)); clear hb3 hF hP)
  clear a0 a1 a2 a3 b0 b1 b2 b3 HE2 HBN
  cases bb
  · go_quiet (fail)
    obtain ⟨D, hD⟩ : ∃ D, D = w3.drewN nq := ⟨_, rfl⟩
    have HD : Hid (Below W.heap.size W D) := by show Below _ _ _; rw [hD]; exact below_drawsA HB3.out _
    have HD2 : Hid (Below w2.heap.size w2 D) := by show Below _ _ _; rw [hD]; exact below_drawsA HB23.out _
    rw [← hD]
    clear hD HP HIX hl2
    rcases HR.out with hne | ⟨hE0, hqe, q, cq, hfv, hown⟩
    · obtain ⟨i1, i2⟩ := int_ne' hne
      clear hne
      go_wp2_with fail
      go_ret
      exact ⟨rfl, HFIN.out D HD.out⟩
    · subst hE0 hfv
      have HNL := Lib.hid ((free_nl hown hqe).below HD2.out)
      have HMEM : Hid (Lib.containsS ((freeS (qabs y)).map qtx) s = true ↔ s.data.toList ∈ qfree (qabs y) []) := by
        show _ ↔ _
        rw [has_iff, ← freeS_mem, List.mem_map]
        constructor
        · rintro ⟨t, ht, rfl⟩; rw [qtx_list]; exact ht
        · intro h; exact ⟨_, h, list_qtx s⟩
      clear hown hqe
      cases hin : Lib.containsS ((freeS (qabs y)).map qtx) s
      · have HNI : Hid (s.data.toList ∉ qfree (qabs y) []) := fun h => by
          have := HMEM.out.2 h
          rw [hin] at this
          cases this
        have HIN2 := Lib.hid hin
        clear hin
        obtain ⟨⟨a0, a1, a2, a3⟩, ⟨b0, b1, b2, b3⟩, m0, m1, m2, m3⟩ := HC.out D HD.out
        obtain ⟨P1, hP1⟩ : ∃ P1, P1 = D.alloc (.cells #[.int .i64 x.kind, .string x.name, .int .i64 x.num, .slice x.p x.xs.length x.cap, .int .i64 y.kind, .string y.name, .int .i64 y.num, .slice y.p y.xs.length y.cap] 29) := ⟨_, rfl⟩
        have hs1 : P1.heap.size = D.heap.size + 1 := by rw [hP1]; simp
        have hb1 : Below D.heap.size D P1 := by rw [hP1]; exact (Below.refl _ _).alloc (Nat.le_refl _) _
        have hin : QsIn P1 (some ⟨D.heap.size, 0, none⟩) 0 [x, y] := by
          rw [hP1]
          exact qs_list D [x, y] (List.forall_mem_cons.2 ⟨(HIN.out D HD.out).1, List.forall_mem_cons.2 ⟨(HIN.out D HD.out).2.1, fun _ h => nomatch h⟩⟩)
        have hlet : QIn P1 (.mk 4 s 0 (some ⟨D.heap.size, 0, none⟩) 2 [x, y]) := QIn.of HSS0.out (by show 2 ≤ 2; omega) (by show 2 ≤ _; omega) hin
        obtain ⟨l2, hl⟩ : ∃ l : List QT, l = [y, .mk 4 s 0 (some ⟨D.heap.size, 0, none⟩) 2 [x, y]] := ⟨_, rfl⟩
        have hql := qs_list P1 l2 (by rw [hl]; exact List.forall_mem_cons.2 ⟨(HIN.out P1 (HD.out.trans (hb1.mono HD.out.size))).2.1, List.forall_mem_cons.2 ⟨hlet, fun _ h => nomatch h⟩⟩)
        have hcl : ∀ t ∈ l2, qcnt (qabs t) ≤ 1099511627776 := by
          rw [hl]
          exact List.forall_mem_cons.2 ⟨Nat.le_trans HKy.out (by decide), List.forall_mem_cons.2 ⟨Nat.le_trans (Nat.le_of_eq (show qcnt (.mk 4 s.data.toList 0 [qabs x, qabs y]) = 1 + (qcnt (qabs x) + qcnt (qabs y)) by rw [cnt_mk, cnts_two])) (by have := HKx.out; have := HKy.out; omega), fun _ h => nomatch h⟩⟩
        have hbA : ∀ o, Below D.heap.size D (P1.alloc o) := fun o => hb1.alloc hb1.size o
        have HE2 := Lib.hid (HEVS.out l2 (some ⟨P1.heap.size, 0, none⟩) 2 _ (HD.out.trans ((hbA _).mono HD.out.size)) hql hcl (by rw [hl]; exact Nat.le_of_ble_eq_true rfl))
        have HBN : Hid (∀ o, Below D.heap.size D (P1.alloc o)) := hbA
        have hm2 : l2.length = 2 := by rw [hl]; rfl
        have HIX : Hid (∀ (i : Nat) (t : QT), ([y, .mk 4 s 0 (some ⟨D.heap.size, 0, none⟩) 2 [x, y]] : List QT)[i]? = some t → l2[i]? = some t) := by
          show ∀ (i : Nat) (t : QT), _
          exact fun i t h => by rw [hl]; exact h
        have hla : (asksC l2).toArray = #[.int .i64 y.kind, .string y.name, .int .i64 y.num, .slice y.p y.xs.length y.cap, .int .i64 4, .string s, .int .i64 0, .slice (some ⟨D.heap.size, 0, none⟩) 2 2] := by rw [hl]; rfl
        rw [hs1, hla, hm2, hP1] at HE2
        rw [hP1] at HBN
        clear hP1 hs1 hb1 hin hlet hl hql hcl hbA hla
        go_upto_region 10 with (first
          | (go_at_call 27; refine (nl_contains HNL.out s).mono ?_; rw [HIN2.out]; rintro e w' ⟨rfl, hw⟩; rw [hw]; clear hw)
          | (go_at_call 24; refine HE2.out.mono ?_; rintro e w4 hF; obtain ⟨⟨sv2, bb2, rfl, hP2⟩, hb4⟩ := evals_res hF; have HP2 := Lib.hid hP2; have HB4 := Lib.hid (HD.out.trans (((HBN.out _).trans (hb4.mono (HBN.out _).size)).mono HD.out.size)); clear hb4 hF hP2))
        clear a0 a1 a2 a3 b0 b1 b2 b3 m0 m1 m2 m3 HE2 HBN
        cases bb2
        · go_quiet (fail)
          go_wp2_with fail
          go_ret
          exact ⟨rfl, below_drawsA (HFIN.out _ HB4.out) _⟩
        · obtain ⟨_, bq2, cq2, rfl, hcell2⟩ := res_cells HP2.out (by rw [hm2]; decide)
          have f2 := hcell2 0 y (HIX.out 0 _ rfl)
          have f3 := hcell2 1 _ (HIX.out 1 _ rfl)
          have c3 : qabs (.mk 4 s 0 (some ⟨D.heap.size, 0, none⟩) 2 [x, y]) = .mk 4 s.data.toList 0 [qabs x, qabs y] := rfl
          rw [c3, let_none g s.data.toList 0 (qabs x) (qabs y) HNI.out] at f3
          generalize qval g (qabs y) [] = Z at f2 f3
          rw [hm2]
          clear hcell2 c3
          go_quiet (fail)
          go_wp2_with fail
          go_ret
          exact ⟨rfl, below_drawsA (HFIN.out _ HB4.out) _⟩
      · have HIN2 := Lib.hid hin
        clear hin
        go_wp2_with (go_at_call 27; refine (nl_contains HNL.out s).mono ?_; rw [HIN2.out]; rintro e w' ⟨rfl, hw⟩; rw [hw]; clear hw)
        go_ret
        exact ⟨rfl, HFIN.out D HD.out⟩
  · obtain ⟨_, bq, cq0, rfl, hcell⟩ := res_cells HP.out (by rw [hl2]; decide)
    have f0 := hcell 0 x (HIX.out 0 _ rfl)
    have f1 := hcell 1 _ (HIX.out 1 _ rfl)
    have c1 : qabs (.mk 4 s 0 (some ⟨w2.heap.size, 0, none⟩) 2 [x, .mk 3 s 0 none 0 []]) = .mk 4 s.data.toList 0 [qabs x, .mk 3 s.data.toList 0 []] := rfl
    rw [c1, let_var] at f1
    generalize qval g (qabs x) [] = A at f0 f1
    rw [hl2]
    clear hcell c1
    go_quiet (fail)
    obtain ⟨D, hD⟩ : ∃ D, D = w3.drewN nq := ⟨_, rfl⟩
    have HD : Hid (Below W.heap.size W D) := by show Below _ _ _; rw [hD]; exact below_drawsA HB3.out _
    have HD2 : Hid (Below w2.heap.size w2 D) := by show Below _ _ _; rw [hD]; exact below_drawsA HB23.out _
    rw [← hD]
    clear hD HP HIX hl2
    rcases HR.out with hne | ⟨hE0, hqe, q, cq, hfv, hown⟩
    · obtain ⟨i1, i2⟩ := int_ne' hne
      clear hne
      go_wp2_with fail
      go_ret
      exact ⟨rfl, HFIN.out D HD.out⟩
    · subst hE0 hfv
      have HNL := Lib.hid ((free_nl hown hqe).below HD2.out)
      have HMEM : Hid (Lib.containsS ((freeS (qabs y)).map qtx) s = true ↔ s.data.toList ∈ qfree (qabs y) []) := by
        show _ ↔ _
        rw [has_iff, ← freeS_mem, List.mem_map]
        constructor
        · rintro ⟨t, ht, rfl⟩; rw [qtx_list]; exact ht
        · intro h; exact ⟨_, h, list_qtx s⟩
      clear hown hqe
      cases hin : Lib.containsS ((freeS (qabs y)).map qtx) s
      · have HNI : Hid (s.data.toList ∉ qfree (qabs y) []) := fun h => by
          have := HMEM.out.2 h
          rw [hin] at this
          cases this
        have HIN2 := Lib.hid hin
        clear hin
        obtain ⟨⟨a0, a1, a2, a3⟩, ⟨b0, b1, b2, b3⟩, m0, m1, m2, m3⟩ := HC.out D HD.out
        obtain ⟨P1, hP1⟩ : ∃ P1, P1 = D.alloc (.cells #[.int .i64 x.kind, .string x.name, .int .i64 x.num, .slice x.p x.xs.length x.cap, .int .i64 y.kind, .string y.name, .int .i64 y.num, .slice y.p y.xs.length y.cap] 29) := ⟨_, rfl⟩
        have hs1 : P1.heap.size = D.heap.size + 1 := by rw [hP1]; simp
        have hb1 : Below D.heap.size D P1 := by rw [hP1]; exact (Below.refl _ _).alloc (Nat.le_refl _) _
        have hin : QsIn P1 (some ⟨D.heap.size, 0, none⟩) 0 [x, y] := by
          rw [hP1]
          exact qs_list D [x, y] (List.forall_mem_cons.2 ⟨(HIN.out D HD.out).1, List.forall_mem_cons.2 ⟨(HIN.out D HD.out).2.1, fun _ h => nomatch h⟩⟩)
        have hlet : QIn P1 (.mk 4 s 0 (some ⟨D.heap.size, 0, none⟩) 2 [x, y]) := QIn.of HSS0.out (by show 2 ≤ 2; omega) (by show 2 ≤ _; omega) hin
        obtain ⟨l2, hl⟩ : ∃ l : List QT, l = [y, .mk 4 s 0 (some ⟨D.heap.size, 0, none⟩) 2 [x, y]] := ⟨_, rfl⟩
        have hql := qs_list P1 l2 (by rw [hl]; exact List.forall_mem_cons.2 ⟨(HIN.out P1 (HD.out.trans (hb1.mono HD.out.size))).2.1, List.forall_mem_cons.2 ⟨hlet, fun _ h => nomatch h⟩⟩)
        have hcl : ∀ t ∈ l2, qcnt (qabs t) ≤ 1099511627776 := by
          rw [hl]
          exact List.forall_mem_cons.2 ⟨Nat.le_trans HKy.out (by decide), List.forall_mem_cons.2 ⟨Nat.le_trans (Nat.le_of_eq (show qcnt (.mk 4 s.data.toList 0 [qabs x, qabs y]) = 1 + (qcnt (qabs x) + qcnt (qabs y)) by rw [cnt_mk, cnts_two])) (by have := HKx.out; have := HKy.out; omega), fun _ h => nomatch h⟩⟩
        have hbA : ∀ o, Below D.heap.size D (P1.alloc o) := fun o => hb1.alloc hb1.size o
        have HE2 := Lib.hid (HEVS.out l2 (some ⟨P1.heap.size, 0, none⟩) 2 _ (HD.out.trans ((hbA _).mono HD.out.size)) hql hcl (by rw [hl]; exact Nat.le_of_ble_eq_true rfl))
        have HBN : Hid (∀ o, Below D.heap.size D (P1.alloc o)) := hbA
        have hm2 : l2.length = 2 := by rw [hl]; rfl
        have HIX : Hid (∀ (i : Nat) (t : QT), ([y, .mk 4 s 0 (some ⟨D.heap.size, 0, none⟩) 2 [x, y]] : List QT)[i]? = some t → l2[i]? = some t) := by
          show ∀ (i : Nat) (t : QT), _
          exact fun i t h => by rw [hl]; exact h
        have hla : (asksC l2).toArray = #[.int .i64 y.kind, .string y.name, .int .i64 y.num, .slice y.p y.xs.length y.cap, .int .i64 4, .string s, .int .i64 0, .slice (some ⟨D.heap.size, 0, none⟩) 2 2] := by rw [hl]; rfl
        rw [hs1, hla, hm2, hP1] at HE2
        rw [hP1] at HBN
        clear hP1 hs1 hb1 hin hlet hl hql hcl hbA hla
        go_upto_region 10 with (first
          | (go_at_call 27; refine (nl_contains HNL.out s).mono ?_; rw [HIN2.out]; rintro e w' ⟨rfl, hw⟩; rw [hw]; clear hw)
          | (go_at_call 24; refine HE2.out.mono ?_; rintro e w4 hF; obtain ⟨⟨sv2, bb2, rfl, hP2⟩, hb4⟩ := evals_res hF; have HP2 := Lib.hid hP2; have HB4 := Lib.hid (HD.out.trans (((HBN.out _).trans (hb4.mono (HBN.out _).size)).mono HD.out.size)); clear hb4 hF hP2))
        clear a0 a1 a2 a3 b0 b1 b2 b3 m0 m1 m2 m3 HE2 HBN
        cases bb2
        · go_quiet (fail)
          go_wp2_with fail
          go_ret
          exact ⟨rfl, below_drawsA (HFIN.out _ HB4.out) _⟩
        · obtain ⟨_, bq2, cq2, rfl, hcell2⟩ := res_cells HP2.out (by rw [hm2]; decide)
          have f2 := hcell2 0 y (HIX.out 0 _ rfl)
          have f3 := hcell2 1 _ (HIX.out 1 _ rfl)
          have c3 : qabs (.mk 4 s 0 (some ⟨D.heap.size, 0, none⟩) 2 [x, y]) = .mk 4 s.data.toList 0 [qabs x, qabs y] := rfl
          rw [c3, let_none g s.data.toList 0 (qabs x) (qabs y) HNI.out] at f3
          generalize qval g (qabs y) [] = Z at f2 f3
          rw [hm2]
          clear hcell2 c3
          go_quiet (fail)
          go_wp2_with fail
          go_ret
          exact ⟨rfl, below_drawsA (HFIN.out _ HB4.out) _⟩
      · have HIN2 := Lib.hid hin
        clear hin
        go_wp2_with (go_at_call 27; refine (nl_contains HNL.out s).mono ?_; rw [HIN2.out]; rintro e w' ⟨rfl, hw⟩; rw [hw]; clear hw)
        go_ret
        exact ⟨rfl, HFIN.out D HD.out⟩
end Go.Proofs.YteefncohknclcaaGreatDoor
namespace Go.Proofs.YteefncohknclcaaGreatDoor
open Go.RowKit Go.Shelf
set_option maxHeartbeats 4000000 in
set_option maxRecDepth 100000 in
theorem kindC_ok (n : Int) (x : QT) (bx : Nat) (w : World) (hx : QIn w x) (hb : bx < w.heap.size) (hc : w.cell? ⟨bx, 0, none⟩ = some (.int .i64 x.kind) ∧ w.cell? ⟨bx, 1, none⟩ = some (.string x.name) ∧ w.cell? ⟨bx, 2, none⟩ = some (.int .i64 x.num) ∧ w.cell? ⟨bx, 3, none⟩ = some (.slice x.p x.xs.length x.cap)) :
    Calls Tryz.prog 28 #[.int .i64 n, .pointer (some ⟨bx, 0, none⟩)] w fun e w' => ∃ t : QT, e = .returned t.v ∧ qabs t = .mk 15 [] n [qabs x] ∧ QIn w' t ∧ Below w.heap.size w w' := by
  obtain ⟨W, hW⟩ : ∃ W, W = w.alloc (.cells #[.int .i64 0, .string ⟨#[]⟩, .int .i64 0, .slice none 0 0] 29) := ⟨_, rfl⟩
  have hBW : Below w.heap.size w W := by rw [hW]; exact (Below.refl _ _).alloc (Nat.le_refl _) _
  have hS : W.heap.size = w.heap.size + 1 := by rw [hW]; simp
  have hB1 : W.heap[w.heap.size]? = some (.cells #[.int .i64 0, .string ⟨#[]⟩, .int .i64 0, .slice none 0 0] 29 (0, 0)) := by rw [hW]; exact hanQ w _
  have HF := Lib.hid (fun u hu => one_fin (u := u) 15 ⟨#[]⟩ n (by show 0 ≤ _; omega) hx hBW (r := w.heap.size) (Nat.le_refl _) (by omega) hu)
  have hcc : ∀ o, W.cell? ⟨bx, o, none⟩ = w.cell? ⟨bx, o, none⟩ := fun o => hBW.cell (p := ⟨bx, o, none⟩) hb
  obtain ⟨k0, k1, k2, k3⟩ := hc
  rw [← hcc] at k0 k1 k2 k3
  have HAL : Hid (∀ o, (W.alloc o).heap[w.heap.size]? = some (.cells #[.int .i64 0, .string ⟨#[]⟩, .int .i64 0, .slice none 0 0] 29 (0, 0))) := by
    show ∀ o, _
    intro o
    rw [haoQ _ _ _ (by omega)]
    exact hB1
  obtain ⟨r0, r1, r2, r3, r4⟩ := box4Q (HAL.out (.cells #[.int .i64 x.kind, .string x.name, .int .i64 x.num, .slice x.p x.xs.length x.cap] 29))
  clear hx hb hBW hS hcc hB1
  go_enter Tryz.func28, Tryz.ntmps28
  go_upto_region 1 with fail
  rw [← hW]
  clear hW
  go_wp2_with fail
  refine bodyPost_ret (v := (QT.mk 15 ⟨#[]⟩ n (some ⟨W.heap.size, 0, none⟩) 1 [x]).v) (results_cell_row Tryz.results28 _ _ w.heap.size 29 _ (0, 0) _ rfl (box4Q_all (HAL.out _) _ _ _ _) Tryz.underlying29 rfl (by kernel_rfl)) rfl ?_
  obtain ⟨t, h1, h2, h3, h4⟩ := HF.out _ rfl (.int .i64 15) (.string ⟨#[]⟩) (.int .i64 n) (.slice (some ⟨W.heap.size, 0, none⟩) 1 1)
  exact ⟨t, by rw [h1], h2, h3, h4⟩
/-- an ask of one whose list was laid -/
theorem one_laid (u0 : World) (k : Int) (s : ByteArray) (n : Int) (hs : s.size ≤ 1048576) (x : QT) (hx : QIn u0 x) (u : World) (hu : Below (u0.alloc (.cells #[.int .i64 x.kind, .string x.name, .int .i64 x.num, .slice x.p x.xs.length x.cap] 29)).heap.size (u0.alloc (.cells #[.int .i64 x.kind, .string x.name, .int .i64 x.num, .slice x.p x.xs.length x.cap] 29)) u) : QIn u (.mk k s n (some ⟨u0.heap.size, 0, none⟩) 1 [x]) := by
  have h := qs_list u0 [x] (List.forall_mem_cons.2 ⟨hx, fun _ h => nomatch h⟩)
  have h2 : QIn (u0.alloc (.cells #[.int .i64 x.kind, .string x.name, .int .i64 x.num, .slice x.p x.xs.length x.cap] 29)) (.mk k s n (some ⟨u0.heap.size, 0, none⟩) 1 [x]) := QIn.of hs (by show 1 ≤ 1; omega) (by show 1 ≤ _; omega) h
  exact h2.below hu
set_option maxHeartbeats 8000000 in
set_option maxRecDepth 100000 in
theorem evalKinds_ok (g : GD) (v : Value) (x : QT) (s : ByteArray) (w : World) (hG : GrAt w v g) (hX : QIn w x) (hs : s.size ≤ 1048576) (hT : EvTabs w) (hcx : qcnt (qabs x) ≤ 1048576) :
    Calls Tryz.prog 8 #[v, x.v, .string s] w fun e w' => e = .returned (.bool true) ∧ Below w.heap.size w w' := by
  obtain ⟨p, n, c, qe, m, d, hv, hN, hE⟩ := hG.at_
  obtain ⟨W, hW, hBW, hS, hC⟩ := argGA w (.slice p n c) (.slice qe m d) (.int .u64 (un g.phony : Int)) (.int .u64 (un g.made : Int)) (.int .i64 x.kind) (.string x.name) (.int .i64 x.num) (.slice x.p x.xs.length x.cap)
  have HC := Lib.hid hC
  have HBW := Lib.hid hBW
  have HSS0 := Lib.hid hs
  have HIN : Hid (∀ u : World, Below W.heap.size W u → QIn u x ∧ EvTabs u) := by
    show ∀ u : World, _
    exact fun u hu => ⟨hX.below (hBW.trans (hu.mono hBW.size)), hT.below (hBW.trans (hu.mono hBW.size))⟩
  have HEVS : Hid (∀ (l : List QT) (q : Option Addr) (cc : Nat) (u : World), Below W.heap.size W u → QsIn u q 0 l → (∀ t ∈ l, qcnt (qabs t) ≤ 1099511627776) → l.length ≤ 100 → Calls Tryz.prog 24 #[v, .slice q l.length cc] u (EvalsPost g l u)) := by
    show ∀ (l : List QT) (q : Option Addr) (cc : Nat) (u : World), _
    exact fun l q cc u hu hl hc h100 => evals_ok g v q cc l u (hG.below (hBW.trans (hu.mono hBW.size))) hl (HIN.out u hu).2 hc h100
  have HAN := Lib.hid (answers_ok W (HIN.out W (Below.refl _ _)).2)
  have HKx := Lib.hid hcx
  have HKC : Hid (∀ (n : Int) (u : World), Below W.heap.size W u → Calls Tryz.prog 28 #[.int .i64 n, .pointer (some ⟨w.heap.size + 1, 0, none⟩)] u fun e w' => ∃ t : QT, e = .returned t.v ∧ qabs t = .mk 15 [] n [qabs x] ∧ QIn w' t ∧ Below u.heap.size u w') := by
    show ∀ (n : Int) (u : World), _
    exact fun n u hu => kindC_ok n x (w.heap.size + 1) u (HIN.out u hu).1 (Nat.lt_of_lt_of_le (by omega) hu.size) (HC.out u hu).2
  rw [hv] at HEVS ⊢
  show Calls Tryz.prog 8 #[.agg #[.slice p n c, .slice qe m d, .int .u64 (un g.phony : Int), .int .u64 (un g.made : Int)], .agg #[.int .i64 x.kind, .string x.name, .int .i64 x.num, .slice x.p x.xs.length x.cap], .string s] w _
  obtain ⟨⟨g0, g1, g2, g3⟩, k0, k1, k2, k3⟩ := HC.out W (Below.refl _ _)
  clear hG hX hT hcx hv hN hE hBW hC hs hS
  go_enter Tryz.func8, Tryz.ntmps8
  go_upto_region 1 with fail
  rw [← hW]
  clear hW
  go_upto_region 4 with (go_at_call 23; refine HAN.out.mono ?_; rintro e w1 ⟨rfl, hb⟩; have HB1 := Lib.hid hb; clear hb)
  clear g0 g1 g2 g3 k0 k1 k2 k3
  have HSS : Hid (∀ u : World, Below w1.heap.size w1 u → (u.cell? ⟨w.heap.size, 0, none⟩ = some (.slice p n c) ∧ u.cell? ⟨w.heap.size, 1, none⟩ = some (.slice qe m d) ∧ u.cell? ⟨w.heap.size, 2, none⟩ = some (.int .u64 (un g.phony : Int)) ∧ u.cell? ⟨w.heap.size, 3, none⟩ = some (.int .u64 (un g.made : Int))) ∧ (u.cell? ⟨w.heap.size + 1, 0, none⟩ = some (.int .i64 x.kind) ∧ u.cell? ⟨w.heap.size + 1, 1, none⟩ = some (.string x.name) ∧ u.cell? ⟨w.heap.size + 1, 2, none⟩ = some (.int .i64 x.num) ∧ u.cell? ⟨w.heap.size + 1, 3, none⟩ = some (.slice x.p x.xs.length x.cap))) := by
    show ∀ u : World, _
    exact fun u hu => HC.out u (HB1.out.trans (hu.mono HB1.out.size))
  have HQX : Hid (∀ u : World, Below w1.heap.size w1 u → QIn u x) := by
    show ∀ u : World, _
    exact fun u hu => (HIN.out u (HB1.out.trans (hu.mono HB1.out.size))).1
  have HW1 := Lib.hid HB1.out
  clear HB1
  have HB0 : Hid (Below w1.heap.size w1 w1.drew) := (Below.refl _ _).drew
  have HC0 := Lib.hid HB0.out
  go_region_held3 (fun u : World => (u.cell? ⟨w.heap.size, 0, none⟩ = some (.slice p n c) ∧ u.cell? ⟨w.heap.size, 1, none⟩ = some (.slice qe m d) ∧ u.cell? ⟨w.heap.size, 2, none⟩ = some (.int .u64 (un g.phony : Int)) ∧ u.cell? ⟨w.heap.size, 3, none⟩ = some (.int .u64 (un g.made : Int))) ∧ (u.cell? ⟨w.heap.size + 1, 0, none⟩ = some (.int .i64 x.kind) ∧ u.cell? ⟨w.heap.size + 1, 1, none⟩ = some (.string x.name) ∧ u.cell? ⟨w.heap.size + 1, 2, none⟩ = some (.int .i64 x.num) ∧ u.cell? ⟨w.heap.size + 1, 3, none⟩ = some (.slice x.p x.xs.length x.cap)))
    (first | exact HSS.out _ HB9.out | exact HSS.out _ HC3.out | exact HSS.out _ HC2.out | exact HSS.out _ HC1.out | exact HSS.out _ HC0.out | exact HSS.out _ (HC3.out.alloc HC3.out.size _))
    (first
      | (have hb := HB0.out; clear HB0; go_at_call 28; refine (HKC.out 1 _ (HW1.out.trans (hb.mono HW1.out.size))).mono ?_; rintro e u0 ⟨t0, he, ht1, ht2, hb2⟩; obtain rfl : e = .returned (.agg #[.int .i64 t0.kind, .string t0.name, .int .i64 t0.num, .slice t0.p t0.xs.length t0.cap]) := he; have HA0 := Lib.hid ht1; have HK0 := Lib.hid (one_cnt ht1 HKx.out); have HI0 := Lib.hid ht2; have HB1 := Lib.hid (hb.trans (hb2.mono hb.size)); have HC1 := Lib.hid HB1.out; clear hb hb2 ht1 ht2)
      | (have hb := HB1.out; clear HB1; go_at_call 28; refine (HKC.out 2 _ (HW1.out.trans (hb.mono HW1.out.size))).mono ?_; rintro e u1 ⟨t1, he, ht1, ht2, hb2⟩; obtain rfl : e = .returned (.agg #[.int .i64 t1.kind, .string t1.name, .int .i64 t1.num, .slice t1.p t1.xs.length t1.cap]) := he; have HJ := Lib.hid (HI0.out.below hb2); clear HI0; have HI0 := Lib.hid HJ.out; clear HJ; have HA1 := Lib.hid ht1; have HK1 := Lib.hid (one_cnt ht1 HKx.out); have HI1 := Lib.hid ht2; have HB2 := Lib.hid (hb.trans (hb2.mono hb.size)); have HC2 := Lib.hid HB2.out; clear hb hb2 ht1 ht2)
      | (have hb := HB2.out; clear HB2; go_at_call 28; refine (HKC.out 3 _ (HW1.out.trans (hb.mono HW1.out.size))).mono ?_; rintro e u2 ⟨t2, he, ht1, ht2, hb2⟩; obtain rfl : e = .returned (.agg #[.int .i64 t2.kind, .string t2.name, .int .i64 t2.num, .slice t2.p t2.xs.length t2.cap]) := he; have HJ := Lib.hid (HI0.out.below hb2); clear HI0; have HI0 := Lib.hid HJ.out; clear HJ; have HJ := Lib.hid (HI1.out.below hb2); clear HI1; have HI1 := Lib.hid HJ.out; clear HJ; have HA2 := Lib.hid ht1; have HK2 := Lib.hid (one_cnt ht1 HKx.out); have HI2 := Lib.hid ht2; have HB3 := Lib.hid (hb.trans (hb2.mono hb.size)); have HC3 := Lib.hid HB3.out; clear hb hb2 ht1 ht2)
      | (have hb := HB3.out; clear HB3; go_at_call 24; have hq := qs_list u2 [x, t0, t1, t2] (List.forall_mem_cons.2 ⟨HQX.out _ hb, List.forall_mem_cons.2 ⟨HI0.out, List.forall_mem_cons.2 ⟨HI1.out, List.forall_mem_cons.2 ⟨HI2.out, fun _ h => nomatch h⟩⟩⟩⟩); have hcnt : ∀ t ∈ [x, t0, t1, t2], qcnt (qabs t) ≤ 1099511627776 := List.forall_mem_cons.2 ⟨Nat.le_trans HKx.out (by decide), List.forall_mem_cons.2 ⟨Nat.le_trans HK0.out (by decide), List.forall_mem_cons.2 ⟨Nat.le_trans HK1.out (by decide), List.forall_mem_cons.2 ⟨Nat.le_trans HK2.out (by decide), fun _ h => nomatch h⟩⟩⟩⟩; refine (HEVS.out [x, t0, t1, t2] _ _ _ (HW1.out.trans ((hb.alloc hb.size _).mono HW1.out.size)) hq hcnt (Nat.le_of_ble_eq_true rfl)).mono ?_; rintro e w9 hF; obtain ⟨⟨sv, bb, rfl, hP⟩, hb2⟩ := evals_res hF; have HP := Lib.hid hP; have HB9 := Lib.hid ((hb.alloc hb.size _).trans (hb2.mono (hb.alloc hb.size _).size)); clear hb hb2 hF hP hq hcnt))
  have HS9 := Lib.hid (HSS.out w9 HB9.out)
  have HQ9 := Lib.hid (HQX.out w9 HB9.out)
  have HW9 := Lib.hid (HW1.out.trans (HB9.out.mono HW1.out.size))
  go_upto_region 5 with fail
  cases bb
  · go_quiet (fail)
    obtain ⟨D, hD⟩ : ∃ D, D = w9.drewN nq := ⟨_, rfl⟩
    have HD : Hid (Below W.heap.size W D) := by show Below _ _ _; rw [hD]; exact below_drawsA HW9.out _
    rw [← hD]
    clear hD
    obtain ⟨Y, hY⟩ : ∃ Y, Y = D.alloc (.cells #[.int .i64 x.kind, .string x.name, .int .i64 x.num, .slice x.p x.xs.length x.cap] 29) := ⟨_, rfl⟩
    have hBY : Below D.heap.size D Y := by rw [hY]; exact (Below.refl _ _).alloc (Nat.le_refl _) _
    have hSY : Y.heap.size = D.heap.size + 1 := by rw [hY]; simp
    obtain ⟨M, hM, hBM, hSM, hCM⟩ := arg1 Y (.int .i64 14) (.string s) (.int .i64 0) (.slice (some ⟨D.heap.size, 0, none⟩) 1 1)
    have HYM : Hid (Below D.heap.size D M) := hBY.trans (hBM.mono hBY.size)
    have HM : Hid (Below W.heap.size W M) := HD.out.trans (HYM.out.mono HD.out.size)
    have HMQ : Hid (∀ u : World, Below M.heap.size M u → QIn u (.mk 14 s 0 (some ⟨D.heap.size, 0, none⟩) 1 [x])) := by
      show ∀ u : World, _
      intro u hu
      refine one_laid D 14 s 0 HSS0.out x (HIN.out D HD.out).1 u ?_
      rw [← hY]
      exact hBM.trans (hu.mono hBM.size)
    obtain ⟨q0, q1, q2, q3⟩ := (HC.out D HD.out).2
    rw [hY] at hM
    rw [hSY] at hCM
    have HCM := Lib.hid hCM
    clear hY hBY hSY hBM hCM hSM
    go_upto_region 8 with fail
    rw [← hM]
    clear hM q0 q1 q2 q3
    obtain ⟨⟨a0, a1, a2, a3⟩, b0, b1, b2, b3⟩ := HC.out M HM.out
    obtain ⟨m0, m1, m2, m3⟩ := HCM.out M (Below.refl _ _)
    have hd := fun ob => (HC.out (M.alloc ob) (HM.out.alloc HM.out.size ob)).2
    have d0 := fun ob => (hd ob).1
    have d1 := fun ob => (hd ob).2.1
    have d2 := fun ob => (hd ob).2.2.1
    have d3 := fun ob => (hd ob).2.2.2
    clear hd
    obtain ⟨mT, hmT⟩ : ∃ mT : QT, mT = .mk 14 s 0 (some ⟨D.heap.size, 0, none⟩) 1 [x] := ⟨_, rfl⟩
    obtain ⟨N1, hN1⟩ : ∃ N1, N1 = M.alloc (.cells #[.int .i64 mT.kind, .string mT.name, .int .i64 mT.num, .slice mT.p mT.xs.length mT.cap] 29) := ⟨_, rfl⟩
    obtain ⟨N2, hN2⟩ : ∃ N2, N2 = N1.alloc (.cells #[.int .i64 x.kind, .string x.name, .int .i64 x.num, .slice x.p x.xs.length x.cap] 29) := ⟨_, rfl⟩
    have hs1 : N1.heap.size = M.heap.size + 1 := by rw [hN1]; simp
    have hs2 : N2.heap.size = M.heap.size + 1 + 1 := by rw [hN2]; simp [hs1]
    have hb1 : Below M.heap.size M N1 := by rw [hN1]; exact (Below.refl _ _).alloc (Nat.le_refl _) _
    have hb2 : Below M.heap.size M N2 := by rw [hN2]; exact hb1.alloc hb1.size _
    have hqm : ∀ u, Below M.heap.size M u → QIn u mT := fun u hu => by rw [hmT]; exact HMQ.out u hu
    have hq1 : QIn N2 (.mk 14 s 0 (some ⟨M.heap.size, 0, none⟩) 1 [mT]) := one_laid M 14 s 0 HSS0.out mT (hqm M (Below.refl _ _)) N2 (by rw [← hN1, hN2]; exact (Below.refl _ _).alloc (Nat.le_refl _) _)
    have hq2 : QIn N2 (.mk 14 ⟨#[42]⟩ 0 (some ⟨N1.heap.size, 0, none⟩) 1 [x]) := one_laid N1 14 ⟨#[42]⟩ 0 (by decide) x (HIN.out N1 (HM.out.trans (hb1.mono HM.out.size))).1 N2 (by rw [← hN2]; exact Below.refl _ _)
    rw [hs1] at hq2
    obtain ⟨l, hl⟩ : ∃ l : List QT, l = [x, mT, .mk 14 s 0 (some ⟨M.heap.size, 0, none⟩) 1 [mT], .mk 14 ⟨#[42]⟩ 0 (some ⟨M.heap.size + 1, 0, none⟩) 1 [x]] := ⟨_, rfl⟩
    have hql := qs_list N2 l (by rw [hl]; exact List.forall_mem_cons.2 ⟨(HIN.out N2 (HM.out.trans (hb2.mono HM.out.size))).1, List.forall_mem_cons.2 ⟨hqm N2 hb2, List.forall_mem_cons.2 ⟨hq1, List.forall_mem_cons.2 ⟨hq2, fun _ h => nomatch h⟩⟩⟩⟩)
    have hcm : qabs mT = .mk 14 s.data.toList 0 [qabs x] := by rw [hmT]; rfl
    have hkm : qcnt (qabs mT) ≤ 1 + 1048576 := one_cnt hcm HKx.out
    have hcl : ∀ t ∈ l, qcnt (qabs t) ≤ 1099511627776 := by
      rw [hl]
      exact List.forall_mem_cons.2 ⟨Nat.le_trans HKx.out (by decide), List.forall_mem_cons.2 ⟨Nat.le_trans hkm (by decide), List.forall_mem_cons.2 ⟨Nat.le_trans (one_cnt (k := 14) (s := s.data.toList) (n := 0) rfl hkm) (by decide), List.forall_mem_cons.2 ⟨Nat.le_trans (one_cnt (k := 14) (s := [42]) (n := 0) rfl HKx.out) (by decide), fun _ h => nomatch h⟩⟩⟩⟩
    have HE2 := Lib.hid (HEVS.out l (some ⟨N2.heap.size, 0, none⟩) 4 _ (HM.out.trans ((hb2.alloc hb2.size _).mono HM.out.size)) hql hcl (by rw [hl]; exact Nat.le_of_ble_eq_true rfl))
    have HBN : Hid (∀ o, Below M.heap.size M (N2.alloc o)) := fun o => hb2.alloc hb2.size o
    have HCMT := Lib.hid hcm
    have hl2 : l.length = 4 := by rw [hl]; rfl
    have hev2 : ∀ (i : Nat) (t : QT), ([x, mT, .mk 14 s 0 (some ⟨M.heap.size, 0, none⟩) 1 [mT], .mk 14 ⟨#[42]⟩ 0 (some ⟨M.heap.size + 1, 0, none⟩) 1 [x]] : List QT)[i]? = some t → l[i]? = some t := fun i t h => by rw [hl]; exact h
    have HIX := Lib.hid hev2
    have hmem : x ∈ l := by rw [hl]; exact List.mem_cons_self
    have HMX := Lib.hid hmem
    have hla : (asksC l).toArray = #[.int .i64 x.kind, .string x.name, .int .i64 x.num, .slice x.p x.xs.length x.cap, .int .i64 14, .string s, .int .i64 0, .slice (some ⟨D.heap.size, 0, none⟩) 1 1, .int .i64 14, .string s, .int .i64 0, .slice (some ⟨M.heap.size, 0, none⟩) 1 1, .int .i64 14, .string ⟨#[42]⟩, .int .i64 0, .slice (some ⟨M.heap.size + 1, 0, none⟩) 1 1] := by rw [hl, hmT]; rfl
    rw [hs2, hla, hl2, hN2, hN1, hmT] at HE2
    rw [hN2, hN1, hmT] at HBN
    clear hN1 hN2 hs1 hs2 hb1 hb2 hqm hq1 hq2 hl hql hcm hkm hcl hev2 hmem hla
    go_upto_region 9 with (go_at_call 24; refine HE2.out.mono ?_; rintro e w10 hF; obtain ⟨⟨sv2, bb2, rfl, hP2⟩, hb10⟩ := evals_res hF; have HP2 := Lib.hid hP2; have HB10 := Lib.hid (HM.out.trans (((HBN.out _).trans (hb10.mono (HBN.out _).size)).mono HM.out.size)); clear hb10 hF hP2)
    clear a0 a1 a2 a3 b0 b1 b2 b3 m0 m1 m2 m3 d0 d1 d2 d3
    cases bb2
    · go_quiet (fail)
      go_wp2_with fail
      go_ret
      exact ⟨rfl, below_drawsA (HBW.out.trans (HB10.out.mono HBW.out.size)) _⟩
    · obtain ⟨hev2, bq2, cq2, rfl, hcell2⟩ := res_cells HP2.out (by rw [hl2]; decide)
      have f0 := hcell2 0 x (HIX.out 0 _ rfl)
      have f1 := hcell2 1 _ (HIX.out 1 _ rfl)
      have f2 := hcell2 2 _ (HIX.out 2 _ rfl)
      have f3 := hcell2 3 _ (HIX.out 3 _ rfl)
      obtain ⟨p1, p2, p3⟩ := match_law (hev2 x HMX.out) s.data.toList
      have c2 : qabs (.mk 14 s 0 (some ⟨M.heap.size, 0, none⟩) 1 [mT]) = .mk 14 s.data.toList 0 [qabs mT] := rfl
      have c3 : qabs (.mk 14 ⟨#[42]⟩ 0 (some ⟨M.heap.size + 1, 0, none⟩) 1 [x]) = .mk 14 [42] 0 [qabs x] := rfl
      rw [HCMT.out] at f1
      rw [c2, HCMT.out, p2] at f2
      rw [c3, p3] at f3
      generalize qval g (.mk 14 s.data.toList 0 [qabs x]) [] = T1 at *
      generalize qval g (qabs x) [] = X at *
      have y1 : ((un (T1 &&& ~~~X) : Int) == 0) = true := by rw [p1]; rfl
      rw [hl2]
      clear hev2 hcell2 p1 p2 p3 c2 c3
      go_quiet (fail)
      go_wp2_with fail
      go_ret
      exact ⟨rfl, below_drawsA (HBW.out.trans (HB10.out.mono HBW.out.size)) _⟩
  · obtain ⟨hev, bq, cq, rfl, hcell⟩ := res_cells HP.out (Nat.zero_lt_succ _)
    have e0 := hcell 0 x rfl
    have e1 := hcell 1 t0 rfl
    have e2 := hcell 2 t1 rfl
    have e3 := hcell 3 t2 rfl
    obtain ⟨l1, l2⟩ := kinds_law g (qabs x)
    have HQV := Lib.hid (hev x (by simp))
    rw [← l1] at e0
    rw [HA0.out] at e1
    rw [HA1.out] at e2
    rw [HA2.out] at e3
    generalize qval g (.mk 15 [] 1 [qabs x]) [] = K1 at *
    generalize qval g (.mk 15 [] 2 [qabs x]) [] = K2 at *
    generalize qval g (.mk 15 [] 3 [qabs x]) [] = K3 at *
    have z1 : ((un (K3 &&& (K1 ||| K2)) : Int) != 0) = false := by rw [l2]; rfl
    have hl : ([x, t0, t1, t2] : List QT).length = 4 := rfl
    rw [hl]
    clear hev hcell l1 l2 hl
    go_quiet (fail)
    obtain ⟨D, hD⟩ : ∃ D, D = w9.drewN nq := ⟨_, rfl⟩
    have HD : Hid (Below W.heap.size W D) := by show Below _ _ _; rw [hD]; exact below_drawsA HW9.out _
    rw [← hD]
    clear hD
    obtain ⟨Y, hY⟩ : ∃ Y, Y = D.alloc (.cells #[.int .i64 x.kind, .string x.name, .int .i64 x.num, .slice x.p x.xs.length x.cap] 29) := ⟨_, rfl⟩
    have hBY : Below D.heap.size D Y := by rw [hY]; exact (Below.refl _ _).alloc (Nat.le_refl _) _
    have hSY : Y.heap.size = D.heap.size + 1 := by rw [hY]; simp
    obtain ⟨M, hM, hBM, hSM, hCM⟩ := arg1 Y (.int .i64 14) (.string s) (.int .i64 0) (.slice (some ⟨D.heap.size, 0, none⟩) 1 1)
    have HYM : Hid (Below D.heap.size D M) := hBY.trans (hBM.mono hBY.size)
    have HM : Hid (Below W.heap.size W M) := HD.out.trans (HYM.out.mono HD.out.size)
    have HMQ : Hid (∀ u : World, Below M.heap.size M u → QIn u (.mk 14 s 0 (some ⟨D.heap.size, 0, none⟩) 1 [x])) := by
      show ∀ u : World, _
      intro u hu
      refine one_laid D 14 s 0 HSS0.out x (HIN.out D HD.out).1 u ?_
      rw [← hY]
      exact hBM.trans (hu.mono hBM.size)
    obtain ⟨q0, q1, q2, q3⟩ := (HC.out D HD.out).2
    rw [hY] at hM
    rw [hSY] at hCM
    have HCM := Lib.hid hCM
    clear hY hBY hSY hBM hCM hSM
    go_upto_region 8 with fail
    rw [← hM]
    clear hM q0 q1 q2 q3
    obtain ⟨⟨a0, a1, a2, a3⟩, b0, b1, b2, b3⟩ := HC.out M HM.out
    obtain ⟨m0, m1, m2, m3⟩ := HCM.out M (Below.refl _ _)
    have hd := fun ob => (HC.out (M.alloc ob) (HM.out.alloc HM.out.size ob)).2
    have d0 := fun ob => (hd ob).1
    have d1 := fun ob => (hd ob).2.1
    have d2 := fun ob => (hd ob).2.2.1
    have d3 := fun ob => (hd ob).2.2.2
    clear hd
    obtain ⟨mT, hmT⟩ : ∃ mT : QT, mT = .mk 14 s 0 (some ⟨D.heap.size, 0, none⟩) 1 [x] := ⟨_, rfl⟩
    obtain ⟨N1, hN1⟩ : ∃ N1, N1 = M.alloc (.cells #[.int .i64 mT.kind, .string mT.name, .int .i64 mT.num, .slice mT.p mT.xs.length mT.cap] 29) := ⟨_, rfl⟩
    obtain ⟨N2, hN2⟩ : ∃ N2, N2 = N1.alloc (.cells #[.int .i64 x.kind, .string x.name, .int .i64 x.num, .slice x.p x.xs.length x.cap] 29) := ⟨_, rfl⟩
    have hs1 : N1.heap.size = M.heap.size + 1 := by rw [hN1]; simp
    have hs2 : N2.heap.size = M.heap.size + 1 + 1 := by rw [hN2]; simp [hs1]
    have hb1 : Below M.heap.size M N1 := by rw [hN1]; exact (Below.refl _ _).alloc (Nat.le_refl _) _
    have hb2 : Below M.heap.size M N2 := by rw [hN2]; exact hb1.alloc hb1.size _
    have hqm : ∀ u, Below M.heap.size M u → QIn u mT := fun u hu => by rw [hmT]; exact HMQ.out u hu
    have hq1 : QIn N2 (.mk 14 s 0 (some ⟨M.heap.size, 0, none⟩) 1 [mT]) := one_laid M 14 s 0 HSS0.out mT (hqm M (Below.refl _ _)) N2 (by rw [← hN1, hN2]; exact (Below.refl _ _).alloc (Nat.le_refl _) _)
    have hq2 : QIn N2 (.mk 14 ⟨#[42]⟩ 0 (some ⟨N1.heap.size, 0, none⟩) 1 [x]) := one_laid N1 14 ⟨#[42]⟩ 0 (by decide) x (HIN.out N1 (HM.out.trans (hb1.mono HM.out.size))).1 N2 (by rw [← hN2]; exact Below.refl _ _)
    rw [hs1] at hq2
    obtain ⟨l, hl⟩ : ∃ l : List QT, l = [x, mT, .mk 14 s 0 (some ⟨M.heap.size, 0, none⟩) 1 [mT], .mk 14 ⟨#[42]⟩ 0 (some ⟨M.heap.size + 1, 0, none⟩) 1 [x]] := ⟨_, rfl⟩
    have hql := qs_list N2 l (by rw [hl]; exact List.forall_mem_cons.2 ⟨(HIN.out N2 (HM.out.trans (hb2.mono HM.out.size))).1, List.forall_mem_cons.2 ⟨hqm N2 hb2, List.forall_mem_cons.2 ⟨hq1, List.forall_mem_cons.2 ⟨hq2, fun _ h => nomatch h⟩⟩⟩⟩)
    have hcm : qabs mT = .mk 14 s.data.toList 0 [qabs x] := by rw [hmT]; rfl
    have hkm : qcnt (qabs mT) ≤ 1 + 1048576 := one_cnt hcm HKx.out
    have hcl : ∀ t ∈ l, qcnt (qabs t) ≤ 1099511627776 := by
      rw [hl]
      exact List.forall_mem_cons.2 ⟨Nat.le_trans HKx.out (by decide), List.forall_mem_cons.2 ⟨Nat.le_trans hkm (by decide), List.forall_mem_cons.2 ⟨Nat.le_trans (one_cnt (k := 14) (s := s.data.toList) (n := 0) rfl hkm) (by decide), List.forall_mem_cons.2 ⟨Nat.le_trans (one_cnt (k := 14) (s := [42]) (n := 0) rfl HKx.out) (by decide), fun _ h => nomatch h⟩⟩⟩⟩
    have HE2 := Lib.hid (HEVS.out l (some ⟨N2.heap.size, 0, none⟩) 4 _ (HM.out.trans ((hb2.alloc hb2.size _).mono HM.out.size)) hql hcl (by rw [hl]; exact Nat.le_of_ble_eq_true rfl))
    have HBN : Hid (∀ o, Below M.heap.size M (N2.alloc o)) := fun o => hb2.alloc hb2.size o
    have HCMT := Lib.hid hcm
    have hl2 : l.length = 4 := by rw [hl]; rfl
    have hev2 : ∀ (i : Nat) (t : QT), ([x, mT, .mk 14 s 0 (some ⟨M.heap.size, 0, none⟩) 1 [mT], .mk 14 ⟨#[42]⟩ 0 (some ⟨M.heap.size + 1, 0, none⟩) 1 [x]] : List QT)[i]? = some t → l[i]? = some t := fun i t h => by rw [hl]; exact h
    have HIX := Lib.hid hev2
    have hmem : x ∈ l := by rw [hl]; exact List.mem_cons_self
    have HMX := Lib.hid hmem
    have hla : (asksC l).toArray = #[.int .i64 x.kind, .string x.name, .int .i64 x.num, .slice x.p x.xs.length x.cap, .int .i64 14, .string s, .int .i64 0, .slice (some ⟨D.heap.size, 0, none⟩) 1 1, .int .i64 14, .string s, .int .i64 0, .slice (some ⟨M.heap.size, 0, none⟩) 1 1, .int .i64 14, .string ⟨#[42]⟩, .int .i64 0, .slice (some ⟨M.heap.size + 1, 0, none⟩) 1 1] := by rw [hl, hmT]; rfl
    rw [hs2, hla, hl2, hN2, hN1, hmT] at HE2
    rw [hN2, hN1, hmT] at HBN
    clear hN1 hN2 hs1 hs2 hb1 hb2 hqm hq1 hq2 hl hql hcm hkm hcl hev2 hmem hla
    go_upto_region 9 with (go_at_call 24; refine HE2.out.mono ?_; rintro e w10 hF; obtain ⟨⟨sv2, bb2, rfl, hP2⟩, hb10⟩ := evals_res hF; have HP2 := Lib.hid hP2; have HB10 := Lib.hid (HM.out.trans (((HBN.out _).trans (hb10.mono (HBN.out _).size)).mono HM.out.size)); clear hb10 hF hP2)
    clear a0 a1 a2 a3 b0 b1 b2 b3 m0 m1 m2 m3 d0 d1 d2 d3
    cases bb2
    · go_quiet (fail)
      go_wp2_with fail
      go_ret
      exact ⟨rfl, below_drawsA (HBW.out.trans (HB10.out.mono HBW.out.size)) _⟩
    · obtain ⟨hev2, bq2, cq2, rfl, hcell2⟩ := res_cells HP2.out (by rw [hl2]; decide)
      have f0 := hcell2 0 x (HIX.out 0 _ rfl)
      have f1 := hcell2 1 _ (HIX.out 1 _ rfl)
      have f2 := hcell2 2 _ (HIX.out 2 _ rfl)
      have f3 := hcell2 3 _ (HIX.out 3 _ rfl)
      obtain ⟨p1, p2, p3⟩ := match_law (hev2 x HMX.out) s.data.toList
      have c2 : qabs (.mk 14 s 0 (some ⟨M.heap.size, 0, none⟩) 1 [mT]) = .mk 14 s.data.toList 0 [qabs mT] := rfl
      have c3 : qabs (.mk 14 ⟨#[42]⟩ 0 (some ⟨M.heap.size + 1, 0, none⟩) 1 [x]) = .mk 14 [42] 0 [qabs x] := rfl
      rw [HCMT.out] at f1
      rw [c2, HCMT.out, p2] at f2
      rw [c3, p3] at f3
      generalize qval g (.mk 14 s.data.toList 0 [qabs x]) [] = T1 at *
      generalize qval g (qabs x) [] = X at *
      have y1 : ((un (T1 &&& ~~~X) : Int) == 0) = true := by rw [p1]; rfl
      rw [hl2]
      clear hev2 hcell2 p1 p2 p3 c2 c3
      go_quiet (fail)
      go_wp2_with fail
      go_ret
      exact ⟨rfl, below_drawsA (HBW.out.trans (HB10.out.mono HBW.out.size)) _⟩
end Go.Proofs.YteefncohknclcaaGreatDoor
