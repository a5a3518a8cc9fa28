/- Texts joined: NormTabsW, NormOnceW, NormSameW, GraphArg, AskArg. Conditions: theirs. -/
import Derived.Test.YteefncohknclcaaGreatDoorEvalAllWM14
import Derived.Lib.LaidU8T
import Derived.Test.YteefncohknclcaaGreatDoorEvalAllWM7
import Derived.Test.YteefncohknclcaaGreatDoorGoodP
import Derived.Test.YteefncohknclcaaGreatDoorEvalAllWM13
import Derived.Test.YteefncohknclcaaGreatDoorEvalAllWM2
import Derived.Test.YteefncohknclcaaGreatDoorEvalAllWM10
import Derived.ChangeArms
import Derived.Test.YteefncohknclcaaGreatDoorRows
import Derived.WideShapes
namespace Go.Proofs.YteefncohknclcaaGreatDoor
open Go.RowKit Go.Shelf Go.Lib
def rhoU : Ren := ⟨fun x => x, fun x => if x = 5 then 5 else if x = 119 then 223 else if x = 138 then 225 else 226, fun x => if x = 3 then 3 else 4⟩
theorem u8t : U8Types Tryz.prog rhoU := ⟨by kernel_rfl, by kernel_rfl, by kernel_rfl, by kernel_rfl⟩
theorem u8x : U8Extra Tryz.prog rhoU := ⟨by kernel_rfl, by kernel_rfl, by kernel_rfl, by kernel_rfl, by kernel_rfl, by kernel_rfl, by kernel_rfl⟩
theorem firstMem : ("unicode/utf8.first", firstData) ∈ laidL := by
  have e : (Rows.laid_unicode_utf8_first : DataW Unit) = firstData := by kernel_rfl
  rw [← e]
  show _ ∈ [_, _, _, _, _, _, _]
  repeat (first | exact List.Mem.head _ | apply List.Mem.tail)
theorem acceptMem : ("unicode/utf8.acceptRanges", acceptData) ∈ laidL := by
  have e : (Rows.laid_unicode_utf8_acceptRanges : DataW Unit) = acceptData := by kernel_rfl
  rw [← e]
  show _ ∈ [_, _, _, _, _, _, _]
  repeat (first | exact List.Mem.head _ | apply List.Mem.tail)
theorem powMem : ("internal/strconv.uint64pow10", (Lib.tabData .u64 Lib.pow10Tab : DataW Unit)) ∈ laidL := by
  have e : (Rows.laid_internal_strconv_uint64pow10 : DataW Unit) = Lib.tabData .u64 Lib.pow10Tab := by kernel_rfl
  rw [← e]
  show _ ∈ [_, _, _, _, _, _, _]
  repeat (first | exact List.Mem.head _ | apply List.Mem.tail)
theorem utf_of {w : World} (h : laidMetH Tryz.prog laidL w) : Lib.Utf8Tabs 3 4 w := by
  rw [MakeChecks.laidMetH_plain _ _ _ (by kernel_rfl)] at h
  obtain ⟨ps, hl, _⟩ := h
  exact utf8Tabs_of_readsT u8t u8x (LaidVars_reads hl _ _ firstMem) (LaidVars_reads hl _ _ acceptMem)
theorem ask_tabs {w : World} (h : laidMetH Tryz.prog laidL w) : AskTabs w := ⟨forms_of h, utf_of h⟩
theorem txt_tabs {w : World} (h : laidMetH Tryz.prog laidL w) : TxtTabs w :=
  ⟨ask_tabs h, kinds_of h, laid_tab h powMem (g := 6) (t := 228) (e := 24) (n := 20) (by kernel_rfl) (by kernel_rfl) Tryz.underlying228 Tryz.underlying24 (by kernel_rfl) (by kernel_rfl)⟩
end Go.Proofs.YteefncohknclcaaGreatDoor
namespace Go.Proofs.YteefncohknclcaaGreatDoor
open Go.RowKit Go.Shelf
/-- a block of four cells, in all that comes behind -/
theorem box_kept (w : World) (t : QT) : ∃ W : World, W = w.alloc (.cells #[.int .i64 t.kind, .string t.name, .int .i64 t.num, .slice t.p t.xs.length t.cap] 29) ∧ Below w.heap.size w W ∧
    ∀ u : World, Below W.heap.size W u → u.cell? ⟨w.heap.size, 0, none⟩ = some (.int .i64 t.kind) ∧ u.cell? ⟨w.heap.size, 1, none⟩ = some (.string t.name) ∧ u.cell? ⟨w.heap.size, 2, none⟩ = some (.int .i64 t.num) ∧ u.cell? ⟨w.heap.size, 3, none⟩ = some (.slice t.p t.xs.length t.cap) := by
  obtain ⟨W, h1, h2, _, h4⟩ := arg1 w (.int .i64 t.kind) (.string t.name) (.int .i64 t.num) (.slice t.p t.xs.length t.cap)
  exact ⟨W, h1, h2, h4⟩
theorem qNorm_cnt {x : QA} (h : qcnt x ≤ 1099511627776) : qcnt (qNorm x) ≤ 1099511627776 := by
  unfold qNorm
  split
  · rename_i h0
    have := (nrm_ok x (qE_chk h0).2).2.2
    omega
  · decide
theorem norm_twice {x : QA} (h : qE qpat x = 0) : qE qpat (qNorm x) = 0 ∧ qNorm (qNorm x) = qNorm x ∧ qSize (qNorm x) ≤ qSize x ∧ 0 < qSize (qNorm x) := by
  have h1 := nrm_E h
  have e : qNorm x = qnrm x := by unfold qNorm; rw [if_pos h]
  rw [e]
  refine ⟨h1, ?_, ?_, ?_⟩
  · unfold qNorm; rw [if_pos h1]; exact nrm_once (qE_chk h).2
  · unfold qSize
    rw [if_pos h, if_pos h1]
    have := (nrm_ok x (qE_chk h).2).2.2
    omega
  · unfold qSize
    rw [if_pos h1]
    have := qcnt_pos (qnrm x)
    omega
end Go.Proofs.YteefncohknclcaaGreatDoor
namespace Go.Proofs.YteefncohknclcaaGreatDoor
open Go.RowKit Go.Shelf
set_option maxHeartbeats 8000000 in
set_option maxRecDepth 100000 in
theorem normSame_ok (g : GD) (v : Value) (t : QT) (w : World) (hG : GrAt w v g) (hQ : QIn w t) (hT : TxtTabs w) (hTb : Tab w) (hc : qcnt (qabs t) ≤ 1048576) : Calls Tryz.prog 3 #[v, t.v] w fun e w' => e = .returned (.bool true) ∧ Below w.heap.size w w' := by
  obtain ⟨p, n, c, qe, m, d, hv, hN, hE⟩ := hG.at_
  obtain ⟨W, hW, hBW, hS, hC⟩ := argGA w (.slice p n c) (.slice qe m d) (.int .u64 (un g.phony : Int)) (.int .u64 (un g.made : Int)) (.int .i64 t.kind) (.string t.name) (.int .i64 t.num) (.slice t.p t.xs.length t.cap)
  have HC := Lib.hid hC
  have HBW := Lib.hid hBW
  have HIN : Hid (∀ u : World, Below W.heap.size W u → QIn u t ∧ TxtTabs u) := by
    show ∀ u : World, _
    exact fun u hu => ⟨hQ.below (hBW.trans (hu.mono hBW.size)), hT.below (hBW.trans (hu.mono hBW.size))⟩
  have HN1 : Hid (∀ u : World, Below W.heap.size W u → Calls Tryz.prog 11 #[t.v] u (NormFPost t u)) := by
    show ∀ u : World, _
    exact fun u hu => NormF_ok t u (HIN.out u hu).1 (HIN.out u hu).2 (by omega)
  have HEV : Hid (∀ (t' : QT) (u : World), Below W.heap.size W u → QIn u t' → qcnt (qabs t') ≤ 1099511627776 → Calls Tryz.prog 13 #[v, t'.v] u (EvalPost g (qabs t') u)) := by
    show ∀ (t' : QT) (u : World), _
    exact fun t' u hu hq hc => Eval_ok g v t' u (hG.below (hBW.trans (hu.mono hBW.size))) hq ⟨(HIN.out u hu).2.ask, hTb.below (hBW.trans (hu.mono hBW.size))⟩ hc
  have HNS := Lib.hid (norms_ok W (HIN.out W (Below.refl _ _)).2.ask)
  obtain ⟨X, hX⟩ : ∃ X, qabs t = X := ⟨_, rfl⟩
  have HCX : Hid (qcnt X ≤ 1048576) := by show _ ≤ _; rw [← hX]; exact hc
  have HEX := Lib.hid (fun (u : World) (hu : Below W.heap.size W u) => HEV.out t u hu (HIN.out u hu).1 (by omega))
  have HCN := Lib.hid (qNorm_cnt (x := X) (by have := HCX.out; omega))
  unfold NormFPost at HN1
  unfold EvalPost at HEX HEV
  rw [hX] at HN1 HEX
  rw [hv] at HEX HEV ⊢
  obtain ⟨E, hE2⟩ : ∃ E, qE qpat X = E := ⟨_, rfl⟩
  have HE := Lib.hid hE2
  rw [hE2] at HN1
  show Calls Tryz.prog 3 #[.agg #[.slice p n c, .slice qe m d, .int .u64 (un g.phony : Int), .int .u64 (un g.made : Int)], .agg #[.int .i64 t.kind, .string t.name, .int .i64 t.num, .slice t.p t.xs.length t.cap]] w _
  obtain ⟨⟨g0, g1, g2, g3⟩, k0, k1, k2, k3⟩ := HC.out W (Below.refl _ _)
  clear hG hQ hT hTb hc hv hN hE hBW hS hC hX hE2
  go_enter Tryz.func3, Tryz.ntmps3
  go_upto_region 1 with fail
  rw [← hW]
  clear hW
  go_upto_region 4 with (first
    | (have h4 := HB1; clear h4; go_at_call 11; refine (HN1.out w1 HB1.out).mono ?_; rintro e w2 ⟨⟨ky, sy, ny, py, cy, ys⟩, he, ht1, ht2, ht3, hb⟩; obtain rfl : e = .returned (.tuple #[.agg #[.int .i64 ky, .string sy, .int .i64 ny, .slice py ys.length cy], .int .i64 E]) := he; have HT1 := Lib.hid ht1; have HTI := Lib.hid ht2; have HB2 := Lib.hid (HB1.out.trans (hb.mono HB1.out.size)); clear ht1 ht2 ht3 hb)
    | (go_at_call 10; refine HNS.out.mono ?_; rintro e w1 ⟨rfl, hb⟩; have HB1 := Lib.hid hb; obtain ⟨_, u0, u1, u2, u3⟩ := HC.out w1 hb; clear hb))
  obtain ⟨Y, hY0, hBY, hYC⟩ := box_kept w2 (.mk ky sy ny py cy ys)
  have hY : Y = w2.alloc (.cells #[.int .i64 ky, .string sy, .int .i64 ny, .slice py ys.length cy] 29) := hY0
  clear hY0
  rw [← hY]
  clear hY
  have HYC : Hid (∀ u : World, Below Y.heap.size Y u → u.cell? ⟨w2.heap.size, 0, none⟩ = some (.int .i64 ky) ∧ u.cell? ⟨w2.heap.size, 1, none⟩ = some (.string sy) ∧ u.cell? ⟨w2.heap.size, 2, none⟩ = some (.int .i64 ny) ∧ u.cell? ⟨w2.heap.size, 3, none⟩ = some (.slice py ys.length cy)) := hYC
  have HBY := Lib.hid (HB2.out.trans (hBY.mono HB2.out.size))
  have HYI : Hid (∀ u : World, Below Y.heap.size Y u → QIn u (.mk ky sy ny py cy ys)) := by
    show ∀ u : World, _
    exact fun u hu => HTI.out.below (hBY.trans (hu.mono hBY.size))
  have HYW : Hid (∀ u : World, Below Y.heap.size Y u → Below W.heap.size W u) := by
    show ∀ u : World, _
    exact fun u hu => HBY.out.trans (hu.mono HBY.out.size)
  clear hBY hYC g0 g1 g2 g3 k0 k1 k2 k3 u0 u1 u2 u3
  by_cases h0 : E = 0
  · subst h0
    have HNX : Hid (qNorm X = qnrm X) := by show _ = _; unfold qNorm; rw [if_pos HE.out]
    have HEY : Hid (∀ u : World, Below Y.heap.size Y u → Calls Tryz.prog 13 #[.agg #[.slice p n c, .slice qe m d, .int .u64 (un g.phony : Int), .int .u64 (un g.made : Int)], (QT.mk ky sy ny py cy ys).v] u fun e w' => ((Qev g (qnrm X) ∧ e = .returned (.tuple #[.int .u64 (un (qval g (qnrm X) []) : Int), .int .i64 0])) ∨ (¬ Qev g (qnrm X) ∧ ∃ E : Int, E ≠ 0 ∧ e = .returned (.tuple #[.int .u64 0, .int .i64 E]))) ∧ Below u.heap.size u w') := by
      show ∀ u : World, _
      intro u hu
      have := HEV.out (.mk ky sy ny py cy ys) u (HYW.out u hu) (HYI.out u hu) (by rw [HT1.out]; exact HCN.out)
      rw [HT1.out, HNX.out] at this
      exact this
    obtain ⟨⟨g0, g1, g2, g3⟩, k0, k1, k2, k3⟩ := HC.out Y HBY.out
    by_cases hq : Qev g X
    · obtain ⟨hq2, hval⟩ := same_law hq
      obtain ⟨R, hR⟩ : ∃ R, qval g X [] = R := ⟨_, rfl⟩
      rw [hR] at HEX hval
      rw [hval] at HEY
      have HQ := Lib.hid hq
      have HQ2 := Lib.hid hq2
      clear hq hq2 hval hR HEV HN1
      go_upto_region 7 with (go_at_call 13; refine (HEX.out Y HBY.out).mono ?_; rintro e w4 ⟨hF, hb⟩; obtain rfl : e = .returned (.tuple #[.int .u64 (un R : Int), .int .i64 0]) := hF.elim (fun h => h.2) (fun h => absurd HQ.out h.1); have HB4 := Lib.hid hb; obtain ⟨⟨z0, z1, z2, z3⟩, _⟩ := HC.out w4 (HYW.out w4 hb); obtain ⟨y0, y1, y2, y3⟩ := HYC.out w4 hb; clear hb hF)
      clear g0 g1 g2 g3 k0 k1 k2 k3
      go_wp2_with (go_at_call 13; refine (HEY.out w4 HB4.out).mono ?_; rintro e w5 ⟨hF, hb⟩; obtain rfl : e = .returned (.tuple #[.int .u64 (un R : Int), .int .i64 0]) := hF.elim (fun h => h.2) (fun h => absurd HQ2.out h.1); have HB5 := Lib.hid (HB4.out.trans (hb.mono HB4.out.size)); clear hb hF)
      go_ret
      exact ⟨rfl, HBW.out.trans ((HYW.out _ HB5.out).mono HBW.out.size)⟩
    · have HQ := Lib.hid hq
      clear hq HEV HN1
      go_upto_region 7 with (go_at_call 13; refine (HEX.out Y HBY.out).mono ?_; rintro e w4 ⟨hF, hb⟩; obtain ⟨E2, hne, rfl⟩ := (hF.resolve_left (fun h => HQ.out h.1)).2; have HB4 := Lib.hid hb; obtain ⟨⟨z0, z1, z2, z3⟩, _⟩ := HC.out w4 (HYW.out w4 hb); obtain ⟨y0, y1, y2, y3⟩ := HYC.out w4 hb; clear hb hF)
      obtain ⟨i1, i2⟩ := int_ne' hne
      clear g0 g1 g2 g3 k0 k1 k2 k3 hne
      go_wp2_with (go_at_call 13; refine (HEY.out w4 HB4.out).mono ?_; rintro e w5 ⟨hF, hb⟩; obtain ⟨a, h, rfl⟩ : ∃ a h : Int, e = .returned (.tuple #[.int .u64 a, .int .i64 h]) := hF.elim (fun h => ⟨_, _, h.2⟩) (fun h => by obtain ⟨E3, _, h3⟩ := h.2; exact ⟨_, _, h3⟩); have HB5 := Lib.hid (HB4.out.trans (hb.mono HB4.out.size)); clear hb hF)
      go_ret
      exact ⟨rfl, HBW.out.trans ((HYW.out _ HB5.out).mono HBW.out.size)⟩
  · have HEN : Hid (qabs (.mk ky sy ny py cy ys) = .mk 0 [] 0 []) := by
      show _ = _
      rw [HT1.out]
      unfold qNorm
      rw [HE.out, if_neg h0]
    obtain ⟨i1, i2⟩ := int_ne' h0
    have HSAME : Hid (∀ u : World, Below Y.heap.size Y u → Calls Tryz.prog 12 #[(QT.mk ky sy ny py cy ys).v, nilT.v] u fun e w' => e = .returned (.bool true) ∧ Below u.heap.size u w') := by
      show ∀ u : World, _
      intro u hu
      refine (sameAsk_ok _ _ u (HYI.out u hu) (nilT_in u)).mono ?_
      rintro e w' ⟨⟨r, h1, h2⟩, h3⟩
      rw [h2.2 (HEN.out.trans rfl)] at h1
      exact ⟨h1, h3⟩
    obtain ⟨y0, y1, y2, y3⟩ := HYC.out Y (Below.refl _ _)
    clear h0
    go_wp2_with (go_at_call 12; refine (HSAME.out Y (Below.refl _ _)).mono ?_; rintro e w6 ⟨rfl, hb⟩; have HB6 := Lib.hid hb; clear hb)
    go_ret
    exact ⟨rfl, HBW.out.trans ((HYW.out _ HB6.out).mono HBW.out.size)⟩
end Go.Proofs.YteefncohknclcaaGreatDoor
namespace Go.Proofs.YteefncohknclcaaGreatDoor
open Go.RowKit Go.ChangeShapes Go.WideShapes
set_option maxRecDepth 100000 in
theorem graph_arg {H : Type} {enc : TypeId × Value → H} {W : World} {r : Reach} {b0 : Nat} {v : Value} {d : DataW H} {p : List MemPlace}
    (hok : Value.okWide Tryz.prog W r b0 26 v) (hf : DataW.Trod enc Tryz.prog W 0 (fun _ => true) true 26 v d p)
    (hsz : ∀ n, n ∈ d.weights Tryz.prog 26 → n ≤ reachBytes) : ∃ g, GrAt W v g := by
  have ht := Tryz.underlying26
  have hok2 := hok
  simp only [Value.okWide, ht] at hok2
  obtain ⟨cs, rfl, hcs, ts, hts, _, hcell⟩ := hok2
  have hc4 : cs.size = 4 := by rw [hcs]; kernel_rfl
  have hts4 : Tryz.prog.cellTypes Tryz.prog.depth 26 = some [22, 23, 24, 24] := by kernel_rfl
  rw [hts] at hts4
  injection hts4 with hts4
  subst hts4
  obtain ⟨fuel, hf⟩ := hf
  obtain ⟨xs, k, _, hxy, hlen, hxl, hff⟩ := DataW.trod_struct ht hf
  obtain ⟨l, rfl⟩ : ∃ l : List Value, cs = l.toArray := ⟨cs.toList, by simp⟩
  have hl4 : l.length = 4 := by simpa using hc4
  match l, hl4, xs, hxl with
  | [v0, v1, v2, v3], _, [y0, y1, y2, y3], _ =>
    have s0 : Tryz.prog.cellsOf 22 = 1 := by kernel_rfl
    have s1 : Tryz.prog.cellsOf 23 = 1 := by kernel_rfl
    have s2 : Tryz.prog.cellsOf 24 = 1 := by kernel_rfl
    have g0 := hff 0 _ rfl
    have g1 := hff 1 _ rfl
    have g2 := hff 2 _ rfl
    have g3 := hff 3 _ rfl
    simp [s0, s1, s2, Value.cells] at g0 g1 g2 g3
    obtain ⟨u0, hu0, o0⟩ := hcell 0 v0 rfl
    obtain ⟨u1, hu1, o1⟩ := hcell 1 v1 rfl
    injection hu0 with hu0
    injection hu1 with hu1
    subst hu0 hu1
    obtain ⟨z2, e2, _, w2⟩ := DataW.trod_int Tryz.underlying24 g2
    obtain ⟨z3, e3, _, w3⟩ := DataW.trod_int Tryz.underlying24 g3
    injection e2 with e2 _
    injection e3 with e3 _
    subst e2 e3
    obtain ⟨m2, rfl⟩ := un_of w2
    obtain ⟨m3, rfl⟩ := un_of w3
    injection hxy with hd _
    have hwt : ∀ n, (n ∈ y0.1.weights Tryz.prog 22 ∨ n ∈ y1.1.weights Tryz.prog 23) → n ≤ reachBytes := by
      intro n hn
      refine hsz n ?_
      rw [hd]
      simp only [DataW.weights, ht, List.map_cons, List.map_nil, DataW.weightsEach, List.mem_append]
      rcases hn with hn | hn
      · exact .inl hn
      · exact .inr (.inl hn)
    obtain ⟨d0, p0⟩ := y0
    obtain ⟨d1, p1⟩ := y1
    have ok0 : Value.okWide Tryz.prog W r b0 22 v0 := by
      simp only [Value.okWide, Tryz.underlying22]; exact o0
    have ok1 : Value.okWide Tryz.prog W r b0 23 v1 := by
      simp only [Value.okWide, Tryz.underlying23]; exact o1
    obtain ⟨a0, n0, c0, rfl⟩ := okWide_slice Tryz.underlying22 ok0
    obtain ⟨a1, n1, c1, rfl⟩ := okWide_slice Tryz.underlying23 ok1
    obtain ⟨zs, hN⟩ := nl_arg ok0 Tryz.underlying22 Tryz.underlying9 (by kernel_rfl) g0 (fun n hn => hwt n (.inl hn))
    have hI : ∀ n v x, DataW.trod enc Tryz.prog W 0 (fun _ => true) true n 3 [v] = some x → ∃ a : Int, v = Value.int .i64 a := by
      intro n v x h
      obtain ⟨z, e, _⟩ := DataW.trod_int Tryz.underlying3 h
      injection e with e _
      exact ⟨z, e⟩
    obtain ⟨es, hE⟩ := p2_arg (Value.int .i64) (Value.int .i64) Tryz.underlying23 Tryz.underlying85 (by kernel_rfl) rfl rfl (by kernel_rfl) (by kernel_rfl) hI hI (by decide +kernel) g1 (fun n hn => hwt n (.inr hn))
    exact ⟨⟨zs, es, m2, m3⟩, ⟨a0, n0, c0, a1, n1, c1, rfl, hN, hE⟩⟩
end Go.Proofs.YteefncohknclcaaGreatDoor
namespace Go.Proofs.YteefncohknclcaaGreatDoor
open Go.RowKit Go.ChangeShapes Go.WideShapes
theorem add_plainQ (b o j : Nat) : (⟨b, o, none⟩ : Addr).add j = ⟨b, o + j, none⟩ := by
  unfold Addr.add
  split
  · rename_i h; subst h; rfl
  · rfl
theorem bulk_mem {H : Type} {d : DataW H} {l : List (DataW H)} (h : d ∈ l) : Rows.uptoBulk d ≤ Rows.uptoBulkAll l := by
  induction l with
  | nil => cases h
  | cons x l ih =>
    unfold Rows.uptoBulkAll
    rcases List.mem_cons.1 h with rfl | h
    · omega
    · have := ih h; omega
theorem bulk_pos {H : Type} (d : DataW H) : 1 ≤ Rows.uptoBulk d := by
  unfold Rows.uptoBulk
  split <;> omega
theorem bulkq_len {H : Type} (l : List (DataW H)) : l.length ≤ Rows.uptoBulkAll l := by
  induction l with
  | nil => simp
  | cons x l ih => unfold Rows.uptoBulkAll; have := bulk_pos x; simp only [List.length_cons]; omega
theorem cnts_bulk {H : Type} : ∀ (l : List QT) (ds : List (DataW H)), l.length = ds.length → (∀ (i : Nat) (t : QT) (d : DataW H), l[i]? = some t → ds[i]? = some d → qcnt (qabs t) ≤ Rows.uptoBulk d) → qcnts (qabss l) ≤ Rows.uptoBulkAll ds := by
  intro l
  induction l with
  | nil => intro ds _ _; simp [qabss, qcnts]
  | cons x l ih =>
    intro ds h hb
    cases ds with
    | nil => simp at h
    | cons d ds =>
      have h1 := hb 0 x d rfl rfl
      have h2 := ih ds (by simpa using h) fun i t d h1 h2 => hb (i + 1) t d (by simpa using h1) (by simpa using h2)
      simp only [qabss, qcnts, Rows.uptoBulkAll]
      omega
theorem list_ofQ {P : Nat → QT → Prop} : ∀ (n : Nat), (∀ i, i < n → ∃ t, P i t) → ∃ l : List QT, l.length = n ∧ ∀ i t, l[i]? = some t → P i t := by
  intro n
  induction n generalizing P with
  | zero => exact fun _ => ⟨[], rfl, fun i t h => by simp at h⟩
  | succ n ih =>
    intro h
    obtain ⟨x, hx⟩ := h 0 (by omega)
    obtain ⟨l, h1, h2⟩ := ih (P := fun i t => P (i + 1) t) fun i hi => h (i + 1) (by omega)
    refine ⟨x :: l, by simp [h1], fun i t hi => ?_⟩
    cases i with
    | zero => simp only [List.getElem?_cons_zero, Option.some.injEq] at hi; subst hi; exact hx
    | succ i => exact h2 i t (by simpa using hi)
set_option maxRecDepth 100000 in
theorem ask_read {H : Type} {enc : TypeId × Value → H} {W : World} : ∀ (fuel : Nat) (cs : List Value) (d : DataW H) (p : List MemPlace),
    DataW.trod enc Tryz.prog W 0 (fun _ => true) true fuel 29 cs = some (d, p) → Rows.uptoBulk d ≤ 1048576 →
    ∃ t : QT, cs = [.int .i64 t.kind, .string t.name, .int .i64 t.num, .slice t.p t.xs.length t.cap] ∧ QIn W t ∧ qcnt (qabs t) ≤ Rows.uptoBulk d := by
  intro fuel
  induction fuel using Nat.strongRecOn with
  | _ fuel ih =>
    intro cs d p hf hbk
    have ht := Tryz.underlying29
    obtain ⟨xs, k, hfu, hxy, hlen, hxl, hff⟩ := DataW.trod_struct ht hf
    have hc4 : Tryz.prog.cellsOf 29 = 4 := by kernel_rfl
    have s0 : Tryz.prog.cellsOf 3 = 1 := by kernel_rfl
    have s1 : Tryz.prog.cellsOf 9 = 1 := by kernel_rfl
    have s3 : Tryz.prog.cellsOf 27 = 1 := by kernel_rfl
    rw [hc4] at hlen
    match cs, hlen, xs, hxl with
    | [v0, v1, v2, v3], _, [y0, y1, y2, y3], _ =>
      have g0 := hff 0 _ rfl
      have g1 := hff 1 _ rfl
      have g2 := hff 2 _ rfl
      have g3 := hff 3 _ rfl
      simp [s0, s1, s3] at g0 g1 g2 g3
      obtain ⟨z0, e0, x0, _⟩ := DataW.trod_int Tryz.underlying3 g0
      obtain ⟨z1, e1, x1, _⟩ := DataW.trod_string Tryz.underlying9 g1
      obtain ⟨z2, e2, x2, _⟩ := DataW.trod_int Tryz.underlying3 g2
      injection e0 with e0 _
      injection e1 with e1 _
      injection e2 with e2 _
      subst e0 e1 e2
      injection hxy with hd _
      have hbs : z1.size + Rows.uptoBulk y3.1 + 3 ≤ Rows.uptoBulk d := by
        rw [hd, x0, x1, x2]
        simp only [List.map_cons, List.map_nil, Rows.uptoBulk, Rows.uptoBulkAll]
        rw [Lib.size_eq]
        omega
      rcases DataW.trod_slice Tryz.underlying27 g3 with ⟨h, _⟩ | ⟨ad, len, cap, elems, rest, n, hk, h, hx3, _, hlc, _, hel, hi, hsp, _⟩
      · injection h with h _
        subst h
        refine ⟨.mk z0 z1 z2 none 0 [], rfl, ?_, ?_⟩
        · rw [QIn]; exact ⟨by omega, Nat.le_refl _, by simp, trivial⟩
        · show qcnt (.mk _ _ _ []) ≤ _
          simp only [qcnt, qcnts]
          omega
      · injection h with h _
        subst h
        have hb3 : Rows.uptoBulkAll (elems.map (·.1)) + Rows.uptoBulkAll (rest.map (·.1)) + 1 = Rows.uptoBulk y3.1 := by
          rw [hx3]
          simp only [Rows.uptoBulk]
        have hcap : cap ≤ 1048576 := by
          obtain ⟨hr, _⟩ := hsp rfl
          have l1 := bulkq_len (elems.map (·.1))
          have l2 := bulkq_len (rest.map (·.1))
          rw [List.length_map] at l1 l2
          omega
        obtain ⟨l, hl, hP⟩ := list_ofQ (P := fun i t => (∃ b o, some ad = some ⟨b, o, none⟩ ∧ b < W.heap.size ∧ Four W b (o + 4 * i) t) ∧ QIn W t ∧ ∀ x, elems[i]? = some x → qcnt (qabs t) ≤ Rows.uptoBulk x.1) len (by
          intro i hil
          have hx := hi i hil
          obtain ⟨x0, hx0⟩ : ∃ x0, elems[i]? = some x0 := ⟨_, List.getElem?_eq_getElem (by omega)⟩
          rw [hx0, hc4] at hx
          obtain ⟨cs2, hcs2, htr⟩ := Option.bind_eq_some_iff.1 hx
          obtain ⟨_, hl2, hcell⟩ := World.cells?_some hcs2
          have hbx : Rows.uptoBulk x0.1 ≤ 1048576 := by
            have := bulk_mem (List.mem_map.2 ⟨x0, List.mem_of_getElem? hx0, rfl⟩ : x0.1 ∈ elems.map (·.1))
            omega
          obtain ⟨t, hb, hq, hcn⟩ := ih n (by omega) cs2 _ _ htr hbx
          subst hb
          have c0 := hcell 0 (by omega)
          have c1 := hcell 1 (by omega)
          have c2 := hcell 2 (by omega)
          have c3 := hcell 3 (by omega)
          obtain ⟨kb, o, s⟩ := ad
          have hs : s = none := by
            have hx2 := hi 0 (by omega)
            obtain ⟨x2, hx3⟩ : ∃ x2, elems[0]? = some x2 := ⟨_, List.getElem?_eq_getElem (by omega)⟩
            rw [hx3, hc4] at hx2
            obtain ⟨cs3, hcs3, _⟩ := Option.bind_eq_some_iff.1 hx2
            obtain ⟨_, hl3, hcell2⟩ := World.cells?_some hcs3
            have h4 := hcell2 0 (by omega)
            rw [List.getElem?_eq_getElem (by omega)] at h4
            simpa [Addr.add] using World.cell?_spot h4
          subst hs
          simp only [add_plainQ] at c0 c1 c2 c3
          refine ⟨t, ⟨kb, o, rfl, World.block_lt_of_cell? W _ c0, ?_, ?_, ?_, ?_⟩, hq, fun x hx => ?_⟩
          · rw [show o + 4 * i = o + i * 4 + 0 by omega]; exact c0
          · rw [show o + 4 * i + 1 = o + i * 4 + 1 by omega]; exact c1
          · rw [show o + 4 * i + 2 = o + i * 4 + 2 by omega]; exact c2
          · rw [show o + 4 * i + 3 = o + i * 4 + 3 by omega]; exact c3
          · rw [hx0] at hx; injection hx with hx; subst hx; exact hcn)
        subst hl
        have hcs : qcnts (qabss l) ≤ Rows.uptoBulkAll (elems.map (·.1)) := by
          refine cnts_bulk l _ (by rw [List.length_map, hel]) fun i t d h1 h2 => ?_
          rw [List.getElem?_map, Option.map_eq_some_iff] at h2
          obtain ⟨x, hx, rfl⟩ := h2
          exact (hP i t h1).2.2 x hx
        refine ⟨.mk z0 z1 z2 (some ad) cap l, rfl, ?_, ?_⟩
        · rw [QIn]
          refine ⟨by omega, hlc, by omega, QsIn.mk fun j x hx => ?_⟩
          obtain ⟨⟨b, o, h1, h2, h3⟩, h4, _⟩ := hP j x hx
          exact ⟨⟨b, o, h1, h2, by rw [Nat.zero_add]; exact h3⟩, h4⟩
        · show qcnt (.mk _ _ _ (qabss l)) ≤ _
          simp only [qcnt]
          omega
/-- the ask that a law is handed -/
def AskArg (w : World) (v : Value) (t : QT) : Prop := v = t.v ∧ QIn w t ∧ qcnt (qabs t) ≤ 1048576
set_option maxRecDepth 100000 in
theorem ask_arg_upto {H : Type} {enc : TypeId × Value → H} {W : World} {r : Reach} {b0 : Nat} {v : Value} {d : DataW H} {p : List MemPlace}
    (hok : Value.okWide Tryz.prog W r b0 29 v) (hf : DataW.Trod enc Tryz.prog W 0 (fun _ => true) true 29 v d p)
    (_hsz : ∀ n, n ∈ d.weights Tryz.prog 29 → n ≤ reachBytes) (hbk : Rows.uptoBulk d ≤ 1048576) : ∃ t, AskArg W v t := by
  have ht := Tryz.underlying29
  have hok2 := hok
  simp only [Value.okWide, ht] at hok2
  obtain ⟨cs, rfl, _, _⟩ := hok2
  obtain ⟨fuel, hf⟩ := hf
  obtain ⟨t, h1, h2, h3⟩ := ask_read fuel _ d p hf hbk
  obtain ⟨l, rfl⟩ : ∃ l : List Value, cs = l.toArray := ⟨cs.toList, by simp⟩
  refine ⟨t, ?_, h2, by omega⟩
  have : l = [.int .i64 t.kind, .string t.name, .int .i64 t.num, .slice t.p t.xs.length t.cap] := by simpa [Value.cells] using h1
  rw [this]; rfl
end Go.Proofs.YteefncohknclcaaGreatDoor
