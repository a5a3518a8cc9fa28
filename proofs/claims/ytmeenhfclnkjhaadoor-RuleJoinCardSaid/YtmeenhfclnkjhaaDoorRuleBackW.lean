/- The law RuleBack. Conditions: the text is at most 2^20 bytes. -/
import Derived.Test.YtmeenhfclnkjhaaDoorRuleLW
import Derived.Test.YtmeenhfclnkjhaaDoorGoodP
import Derived.ChangeArms
namespace Go.Proofs.YtmeenhfclnkjhaaDoor
open Go.RowKit Go.Shelf Go.ChangeShapes Go.WideShapes
theorem parse_print {T N : List ByteArray} (h : RuleOk T N) : parseE (ruleT T N) = 0 ∧ parseT (ruleT T N) = T ∧ parseN (ruleT T N) = N := by
  obtain ⟨k, h1, h2, h3, h4⟩ := rule_parts h
  have hk : (Lib.indexByte (ruleT T N) 58).toNat = k := by omega
  have e1 : parseT (ruleT T N) = T := by unfold parseT wb; rw [hk, h3, wb_lst]
  have e2 : parseN (ruleT T N) = N := by unfold parseN wb; rw [hk, h4, wb_lst]
  refine ⟨?_, e1, e2⟩
  unfold parseE
  rw [if_neg (by omega), e1, e2]
  exact ruleE_zero.2 h
def RuleAt (w : World) (v : Value) (_ : Unit) : Prop := ∃ T N, RuleIn w v T N
theorem slice_cap {P : Program} {W : World} {b0 : Nat} {r : Reach} {a : Option Addr} {len cap : Nat} {t e : TypeId} (ht : P.underlying t = some (.slice e)) (h : Value.okWide P W r b0 t (.slice a len cap)) : len ≤ cap := by
  simp only [Value.okWide, ht, Cell.okWide] at h
  unfold Cell.ok at h
  rw [ht] at h
  cases a with
  | none =>
    revert h
    cases len <;> cases cap <;> simp
  | some ad => exact h.1
set_option maxRecDepth 100000 in
theorem rule_arg {H : Type} {enc : TypeId × Value → H} {W : World} {r : Reach} {b0 : Nat} {v : Value} {d : DataW H} {p : List MemPlace}
    (hok : Value.okWide Tryd.prog W r b0 37 v) (hf : DataW.Trod enc Tryd.prog W 0 (fun _ => true) true 37 v d p)
    (hsz : ∀ n, n ∈ d.weights Tryd.prog 37 → n ≤ reachBytes) : ∃ g, RuleAt W v g := by
  have ht := Tryd.underlying37
  have hok2 := hok
  simp only [Value.okWide, ht] at hok2
  obtain ⟨cs, rfl, hcs, ts, hts, _, hcell⟩ := hok2
  have hc4 : cs.size = 2 := by rw [hcs]; kernel_rfl
  have hts4 : Tryd.prog.cellTypes Tryd.prog.depth 37 = some [35, 35] := by kernel_rfl
  rw [hts] at hts4
  injection hts4 with hts4
  subst hts4
  obtain ⟨fuel, hf⟩ := hf
  obtain ⟨xs, k, _, hxy, hlen, hxl, hff⟩ := DataW.trod_struct ht hf
  obtain ⟨l, rfl⟩ : ∃ l : List Value, cs = l.toArray := ⟨cs.toList, by simp⟩
  have hl4 : l.length = 2 := by simpa using hc4
  match l, hl4, xs, hxl with
  | [v0, v1], _, [y0, y1], _ =>
    have s0 : Tryd.prog.cellsOf 35 = 1 := by kernel_rfl
    have g0 := hff 0 _ rfl
    have g1 := hff 1 _ rfl
    simp [s0, Value.cells] at g0 g1
    obtain ⟨u0, hu0, o0⟩ := hcell 0 v0 rfl
    obtain ⟨u1, hu1, o1⟩ := hcell 1 v1 rfl
    injection hu0 with hu0
    injection hu1 with hu1
    subst hu0 hu1
    injection hxy with hd _
    have hwt : ∀ n, (n ∈ y0.1.weights Tryd.prog 35 ∨ n ∈ y1.1.weights Tryd.prog 35) → n ≤ reachBytes := by
      intro n hn
      refine hsz n ?_
      rw [hd]
      simp only [DataW.weights, ht, List.map_cons, List.map_nil, DataW.weightsEach, List.mem_append]
      rcases hn with hn | hn
      · exact .inl hn
      · exact .inr (.inl hn)
    obtain ⟨d0, p0⟩ := y0
    obtain ⟨d1, p1⟩ := y1
    have ok0 : Value.okWide Tryd.prog W r b0 35 v0 := by
      simp only [Value.okWide, Tryd.underlying35]; exact o0
    have ok1 : Value.okWide Tryd.prog W r b0 35 v1 := by
      simp only [Value.okWide, Tryd.underlying35]; exact o1
    obtain ⟨a0, n0, c0, rfl⟩ := okWide_slice Tryd.underlying35 ok0
    obtain ⟨a1, n1, c1, rfl⟩ := okWide_slice Tryd.underlying35 ok1
    obtain ⟨zs, hN⟩ := nl_arg ok0 Tryd.underlying35 Tryd.underlying9 (by kernel_rfl) g0 (fun n hn => hwt n (.inl hn))
    obtain ⟨ys, hM⟩ := nl_arg ok1 Tryd.underlying35 Tryd.underlying9 (by kernel_rfl) g1 (fun n hn => hwt n (.inr hn))
    exact ⟨(), zs, ys, a0, n0, c0, a1, n1, c1, rfl, hN, hM, slice_cap Tryd.underlying35 ok0, slice_cap Tryd.underlying35 ok1⟩
set_option maxHeartbeats 1000000 in
theorem same_ok (v1 v2 : Value) (T N : List ByteArray) (w : World) (h1 : RuleIn w v1 T N) (h2 : RuleIn w v2 T N) :
    Calls Tryd.prog 14 #[v1, v2] w fun e w' => e = .returned (.bool true) ∧ Below w.heap.size w w' := by
  obtain ⟨p, n, c, q, m, d, rfl, h3, h4, _, _⟩ := h1
  obtain ⟨p', n', c', q', m', d', rfl, h5, h6, _, _⟩ := h2
  have e1 : n' = n := by rw [← h3.at_.len, h5.at_.len]
  have e2 : m' = m := by rw [← h4.at_.len, h6.at_.len]
  subst e1 e2
  have hb : ∀ o1 o2, Below w.heap.size w ((w.alloc o1).alloc o2) := fun o1 o2 => ((Below.refl _ _).alloc (Nat.le_refl _) o1).alloc (by simp) o2
  have HB := Lib.hid hb
  have HQ1 := Lib.hid (fun o1 o2 => nl_equal (h3.below (hb o1 o2)) (h5.below (hb o1 o2)))
  have HQ2 := Lib.hid (fun o1 o2 k => nl_equal ((h4.below (hb o1 o2)).drew k) ((h6.below (hb o1 o2)).drew k))
  clear hb h3 h4 h5 h6
  go_enter Tryd.func14, Tryd.ntmps14
  go_wp2_with (go_at_call 15; (first
    | (have hq := HQ1.out; clear HQ1; refine (hq _ _).mono ?_; clear hq; rintro e w1 ⟨rfl, k1, rfl⟩)
    | (refine (HQ2.out _ _ _).mono ?_; rintro e w2 ⟨rfl, k2, rfl⟩)))
  go_ret
  exact ⟨rfl, below_drawsP (HB.out _ _) _⟩
theorem ab_ok : RuleOk [(⟨#[97]⟩ : ByteArray)] [(⟨#[98]⟩ : ByteArray)] := by
  refine ⟨by decide, by simp, fun s hs => ?_, by simp⟩
  simp at hs
  rcases hs with rfl | rfl <;> decide
theorem ab_text : ruleT [(⟨#[97]⟩ : ByteArray)] [(⟨#[98]⟩ : ByteArray)] = [97, 32, 58, 32, 98] := by decide
set_option maxHeartbeats 1000000 in
theorem rules_below (w : World) : Calls Tryd.prog 13 #[] w fun e w' => e = .returned (.bool true) ∧ Below w.heap.size w w' := by
  have hp := ParseR_ok ⟨#[97, 32, 58, 32, 98]⟩ w (by decide)
  obtain ⟨p1, p2, p3⟩ := parse_print ab_ok
  rw [ab_text] at p1 p2 p3
  have hl : (⟨#[97, 32, 58, 32, 98]⟩ : ByteArray).data.toList = [97, 32, 58, 32, 98] := rfl
  rw [hl] at hp
  have HP := Lib.hid hp
  have H1 := Lib.hid p1
  have H2 := Lib.hid p2
  have H3 := Lib.hid p3
  clear hp p1 p2 p3 hl
  go_enter Tryd.func13, Tryd.ntmps13
  go_wp2_with (go_at_call 17; refine HP.out.mono ?_; rintro e w1 ⟨⟨v, he, hv⟩, hb⟩; rw [H1.out] at he hv; rcases hv with ⟨hv, _⟩ | ⟨_, hv⟩; exact absurd rfl hv; rw [H2.out, H3.out] at hv; obtain ⟨p, n, c, q, m, d, rfl, h3, h4, _, _⟩ := hv; have e1 := h3.at_.len; have e2 := h4.at_.len; simp at e1 e2; subst e1 e2; subst he; have HB := Lib.hid hb; clear hb h3 h4)
  go_ret
  exact ⟨rfl, HB.out.alloc HB.out.size _⟩
theorem ruleT_small {T N : List ByteArray} (h : ruleE T N = 0) : (txt (ruleT T N)).size ≤ 1048576 := by
  have := ruleT_len (ruleE_zero.1 h)
  rw [txt_size]; omega
/-- what Parse answers to a printed rule -/
theorem ParseP_ok {T N : List ByteArray} (h : ruleE T N = 0) (w : World) :
    Calls Tryd.prog 17 #[.string (txt (ruleT T N))] w fun e w' => (∃ p n c q m d, e = .returned (.tuple #[.agg #[.slice p n c, .slice q m d], .int .i64 0]) ∧ RuleIn w' (.agg #[.slice p n c, .slice q m d]) T N) ∧ Below w.heap.size w w' := by
  refine (ParseR_ok _ w (ruleT_small h)).mono ?_
  obtain ⟨p1, p2, p3⟩ := parse_print (ruleE_zero.1 h)
  rintro e w1 ⟨⟨v, he, hv⟩, hb⟩
  rw [txt_list, p1] at he hv
  rcases hv with ⟨hv, _⟩ | ⟨_, hv⟩
  · exact absurd rfl hv
  · rw [p2, p3] at hv
    have hv2 := hv
    obtain ⟨p, n, c, q, m, d, rfl, _⟩ := hv
    exact ⟨⟨p, n, c, q, m, d, he, hv2⟩, hb⟩
/-- what Parse answers, its value written out -/
theorem ParseA_ok (s : ByteArray) (w : World) (hs : s.size ≤ 1048576) : Calls Tryd.prog 17 #[.string s] w fun e w' =>
    (∃ p n c q m d, e = .returned (.tuple #[.agg #[.slice p n c, .slice q m d], .int .i64 (parseE s.data.toList)]) ∧ ((parseE s.data.toList ≠ 0 ∧ RuleIn w' (.agg #[.slice p n c, .slice q m d]) [] []) ∨ (parseE s.data.toList = 0 ∧ ruleE (parseT s.data.toList) (parseN s.data.toList) = 0 ∧ RuleIn w' (.agg #[.slice p n c, .slice q m d]) (parseT s.data.toList) (parseN s.data.toList)))) ∧ Below w.heap.size w w' := by
  refine (ParseR_ok _ w hs).mono ?_
  rintro e w1 ⟨⟨v, he, hv⟩, hb⟩
  rcases hv with ⟨h1, rfl⟩ | ⟨h1, hv⟩
  · exact ⟨⟨none, 0, 0, none, 0, 0, he, .inl ⟨h1, nil_rule w1⟩⟩, hb⟩
  · have hv2 := hv
    obtain ⟨p, n, c, q, m, d, rfl, _⟩ := hv
    have h2 : ruleE (parseT s.data.toList) (parseN s.data.toList) = 0 := by
      have := h1
      unfold parseE at this
      split at this
      · cases this
      · exact this
    exact ⟨⟨p, n, c, q, m, d, he, .inr ⟨h1, h2, hv2⟩⟩, hb⟩
theorem below1 (w : World) (o : Obj) : Below w.heap.size w (w.alloc o) := (Below.refl _ _).alloc (Nat.le_refl _) _
set_option maxHeartbeats 8000000 in
theorem ruleBack_walk (v : Value) (s : ByteArray) (w : World) (hx : ∃ g, RuleAt w v g) (hs : s.size ≤ 1048576) :
    Calls Tryd.prog 4 #[v, .string s] w fun e w' => e = .returned (.bool true) ∧ Below w.heap.size w w' := by
  obtain ⟨_, T, N, hR⟩ := hx
  have hR0 := hR
  obtain ⟨p, n, c, q, m, d, rfl, _⟩ := hR
  have HR := Lib.hid hR0
  clear hR0
  have HC : Hid (∀ u, Below (w.heap.size + 1) (w.alloc (.cells #[.slice p n c, .slice q m d] 37)) u → Below w.heap.size w u ∧ u.cell? ⟨w.heap.size, 0, none⟩ = some (.slice p n c) ∧ u.cell? ⟨w.heap.size, 1, none⟩ = some (.slice q m d) ∧ w.heap.size < u.heap.size) := by
    show ∀ u, _
    intro u hu
    have hz := hu.size
    simp only [World.size_alloc] at hz
    refine ⟨(below1 w _).trans (hu.mono (by omega)), ?_, ?_, by omega⟩
    · rw [hu.cell (by show w.heap.size < w.heap.size + 1; omega)]; simp
    · rw [hu.cell (by show w.heap.size < w.heap.size + 1; omega)]; simp
  go_enter Tryd.func4, Tryd.ntmps4
  go_wp2_with fail
  refine (rules_below _).mono ?_
  rintro e w1 ⟨rfl, hb⟩
  have HX1 : Hid (Below (w.heap.size + 1) (w.alloc (.cells #[.slice p n c, .slice q m d] 37)) w1) := by
    have := hb
    simp only [World.size_alloc] at this
    exact this
  clear hb
  obtain ⟨hb1, k1, k2, k3⟩ := HC.out _ HX1.out
  have HB1 := Lib.hid hb1
  clear hb1
  by_cases hE : ruleE T N = 0
  · have HE := Lib.hid hE
    clear hE
    go_wp2_with fail
    refine (PrintR_yes T N _ _ (HR.out.below HB1.out) HE.out).mono ?_
    rintro e w2 ⟨rfl, hb⟩
    have HX2 := Lib.hid (HX1.out.trans (hb.mono (by omega)))
    clear hb k1 k2 k3
    go_wp2_with fail
    refine (ParseP_ok HE.out _).mono ?_
    rintro e w3 ⟨⟨p1, n1, c1, q1, m1, d1, rfl, hr⟩, hb⟩
    have HX3 := Lib.hid (HX2.out.trans (hb.mono (by have := HX2.out.size; simp only [World.size_alloc] at this; omega)))
    have HR3 := Lib.hid hr
    obtain ⟨hb3, k1, k2, k3⟩ := HC.out _ HX3.out
    have k4 : ∀ o, (w3.alloc o).cell? ⟨w.heap.size, 0, none⟩ = some (.slice p n c) := fun o => by rw [World.cell?_alloc_lt _ _ _ k3]; exact k1
    have k5 : ∀ o, (w3.alloc o).cell? ⟨w.heap.size, 1, none⟩ = some (.slice q m d) := fun o => by rw [World.cell?_alloc_lt _ _ _ k3]; exact k2
    have HB3 := Lib.hid hb3
    clear hb hr hb3 HB1
    go_wp2_with fail
    refine (same_ok _ _ T N _ (HR3.out.below (below1 w3 _)) (HR.out.below (HB3.out.trans ((below1 w3 _).mono HB3.out.size)))).mono ?_
    rintro e w4 ⟨rfl, hb⟩
    have HB4 : Hid (Below w.heap.size w w4) := HB3.out.trans (((below1 w3 _).trans (hb.mono (below1 w3 _).size)).mono HB3.out.size)
    clear hb HB3 HR3 HX3 HX2 HX1 HR HE HC k1 k2 k3 k4 k5
    go_wp2_with fail
    refine (ParseA_ok s _ hs).mono ?_
    rintro e w5 ⟨⟨p5, n5, c5, q5, m5, d5, rfl, hv⟩, hb⟩
    have HB5 := Lib.hid (HB4.out.trans (hb.mono HB4.out.size))
    clear hb HB4
    obtain ⟨xo, hxo⟩ : ∃ xo, xo = Obj.cells #[.slice p5 n5 c5, .slice q5 m5 d5] 37 := ⟨_, rfl⟩
    have HB5X : Hid (Below w.heap.size w (w5.alloc xo)) := HB5.out.trans ((below1 w5 xo).mono HB5.out.size)
    rcases hv with ⟨hne, hr⟩ | ⟨he0, hre, hr⟩
    · obtain ⟨i1, i2⟩ := int_ne' hne
      have HR5 := Lib.hid (hr.below (below1 w5 xo))
      rw [hxo] at HR5 HB5X
      clear hne hr hxo
      generalize parseE s.data.toList = E5 at *
      go_wp2_with fail
      refine (same_ok _ _ [] [] _ HR5.out (nil_rule _)).mono ?_
      rintro e w6 ⟨rfl, hb⟩
      have HB6 := Lib.hid (HB5X.out.trans (hb.mono HB5X.out.size))
      clear hb
      go_wp2
      go_ret
      exact ⟨rfl, HB6.out⟩
    · have HR5 := Lib.hid (hr.below (below1 w5 xo))
      have HRE := Lib.hid hre
      have HCX : Hid (∀ u, Below (w5.heap.size + 1) (w5.alloc xo) u → u.cell? ⟨w5.heap.size, 0, none⟩ = some (.slice p5 n5 c5) ∧ u.cell? ⟨w5.heap.size, 1, none⟩ = some (.slice q5 m5 d5) ∧ w5.heap.size < u.heap.size ∧ RuleIn u (.agg #[.slice p5 n5 c5, .slice q5 m5 d5]) (parseT s.data.toList) (parseN s.data.toList) ∧ Below w.heap.size w u) := by
        show ∀ u, _
        intro u hu
        have hz := hu.size
        simp only [World.size_alloc] at hz
        refine ⟨?_, ?_, by omega, HR5.out.below (by simp only [World.size_alloc]; exact hu), HB5X.out.trans (hu.mono (by have := HB5.out.size; omega))⟩
        · rw [hu.cell (by show w5.heap.size < w5.heap.size + 1; omega), hxo]; simp
        · rw [hu.cell (by show w5.heap.size < w5.heap.size + 1; omega), hxo]; simp
      rw [he0]
      rw [hxo] at HCX HR5
      clear hre hr he0 HB5 HB5X hxo
      generalize parseT s.data.toList = T5 at *
      generalize parseN s.data.toList = N5 at *
      go_wp2_with fail
      refine (PrintR_yes T5 N5 _ _ HR5.out HRE.out).mono ?_
      rintro e w6 ⟨rfl, hb⟩
      have HX6 : Hid (Below (w5.heap.size + 1) (w5.alloc (Obj.cells #[.slice p5 n5 c5, .slice q5 m5 d5] 37)) w6) := by
        have := hb
        simp only [World.size_alloc] at this
        exact this
      clear hb HR5
      go_wp2_with fail
      refine (ParseP_ok HRE.out _).mono ?_
      rintro e w7 ⟨⟨p7, n7, c7, q7, m7, d7, rfl, hr⟩, hb⟩
      have HX7 := Lib.hid (HX6.out.trans (hb.mono (by have := HX6.out.size; simp only [World.size_alloc] at this; exact this)))
      have HR7 := Lib.hid hr
      clear hb hr HX6
      have hlt7 : w5.heap.size + 1 ≤ w7.heap.size := by have := HX7.out.size; simp only [World.size_alloc] at this; exact this
      have hg := good2 0 0 (w7.alloc (Obj.cells #[.slice p7 n7 c7, .slice q7 m7 d7] 37))
      simp only [World.size_alloc] at hg
      have HG := Lib.hid hg
      have HX8 : Hid (∀ o1 o2, Below (w5.heap.size + 1) (w5.alloc (Obj.cells #[.slice p5 n5 c5, .slice q5 m5 d5] 37)) ((w7.alloc o1).alloc o2)) := fun o1 o2 => (HX7.out.alloc hlt7 o1).alloc (by simp; omega) o2
      have HR8 : Hid (∀ o1 o2, RuleIn ((w7.alloc o1).alloc o2) (.agg #[.slice p7 n7 c7, .slice q7 m7 d7]) T5 N5) := fun o1 o2 => HR7.out.below (((below1 w7 o1)).alloc (by simp) o2)
      have k8 : ∀ o1 o2, ((w7.alloc o1).alloc o2).cell? ⟨w5.heap.size, 0, none⟩ = some (.slice p5 n5 c5) := fun o1 o2 => (HCX.out _ (HX8.out o1 o2)).1
      have k9 : ∀ o1 o2, ((w7.alloc o1).alloc o2).cell? ⟨w5.heap.size, 1, none⟩ = some (.slice q5 m5 d5) := fun o1 o2 => (HCX.out _ (HX8.out o1 o2)).2.1
      have HL8 : Hid (∀ o1 o2, w5.heap.size + 1 ≤ ((w7.alloc o1).alloc o2).heap.size) := fun o1 o2 => by simp only [World.size_alloc]; omega
      clear hg hlt7 HX7 HR7
      go_wp2_with fail
      refine HG.out.mono ?_
      rintro e w8 ⟨rfl, hw8⟩
      rw [← hw8]
      clear hw8 HG
      go_wp2_with fail
      refine (same_ok _ _ T5 N5 _ (HCX.out _ (HX8.out _ _)).2.2.2.1 (HR8.out _ _)).mono ?_
      rintro e w9 ⟨rfl, hb⟩
      have HX9 := Lib.hid ((HX8.out _ _).trans (hb.mono (HL8.out _ _)))
      obtain ⟨k10, k11, _, hr9, hb9⟩ := HCX.out _ HX9.out
      have HR9 := Lib.hid hr9
      have HB9 := Lib.hid hb9
      clear hb hr9 hb9 HR8 HX8 HX9 k8 k9 HCX
      have HCK := Lib.hid (by
        obtain ⟨_, _, _, _, _, _, e, g1, g2, g3, g4⟩ := HR9.out
        have := CheckR_ok _ _ _ _ _ _ T5 N5 w9 g1.weak g2.weak g3 g4
        rw [← e, HRE.out] at this
        exact this)
      go_wp2_with fail
      refine HCK.out.mono ?_
      rintro e w10 ⟨rfl, hb⟩
      have HB10 := Lib.hid (HB9.out.trans (hb.mono HB9.out.size))
      clear hb
      go_wp2
      go_ret
      exact ⟨rfl, HB10.out⟩
  · obtain ⟨j1, j2⟩ := int_ne' hE
    have HE := Lib.hid hE
    clear hE
    go_wp2_with fail
    refine (PrintR_no T N _ _ (HR.out.below HB1.out) HE.out).mono ?_
    rintro e w4 ⟨rfl, hb⟩
    have HB4 := Lib.hid (HB1.out.trans (hb.mono HB1.out.size))
    clear hb k1 k2 k3 HB1 HE HR HC HX1
    generalize ruleE T N = E0 at *
    go_wp2_with fail
    refine (ParseA_ok s _ hs).mono ?_
    rintro e w5 ⟨⟨p5, n5, c5, q5, m5, d5, rfl, hv⟩, hb⟩
    have HB5 := Lib.hid (HB4.out.trans (hb.mono HB4.out.size))
    clear hb HB4
    obtain ⟨xo, hxo⟩ : ∃ xo, xo = Obj.cells #[.slice p5 n5 c5, .slice q5 m5 d5] 37 := ⟨_, rfl⟩
    have HB5X : Hid (Below w.heap.size w (w5.alloc xo)) := HB5.out.trans ((below1 w5 xo).mono HB5.out.size)
    rcases hv with ⟨hne, hr⟩ | ⟨he0, hre, hr⟩
    · obtain ⟨i1, i2⟩ := int_ne' hne
      have HR5 := Lib.hid (hr.below (below1 w5 xo))
      rw [hxo] at HR5 HB5X
      clear hne hr hxo
      generalize parseE s.data.toList = E5 at *
      go_wp2_with fail
      refine (same_ok _ _ [] [] _ HR5.out (nil_rule _)).mono ?_
      rintro e w6 ⟨rfl, hb⟩
      have HB6 := Lib.hid (HB5X.out.trans (hb.mono HB5X.out.size))
      clear hb
      go_wp2
      go_ret
      exact ⟨rfl, HB6.out⟩
    · have HR5 := Lib.hid (hr.below (below1 w5 xo))
      have HRE := Lib.hid hre
      have HCX : Hid (∀ u, Below (w5.heap.size + 1) (w5.alloc xo) u → u.cell? ⟨w5.heap.size, 0, none⟩ = some (.slice p5 n5 c5) ∧ u.cell? ⟨w5.heap.size, 1, none⟩ = some (.slice q5 m5 d5) ∧ w5.heap.size < u.heap.size ∧ RuleIn u (.agg #[.slice p5 n5 c5, .slice q5 m5 d5]) (parseT s.data.toList) (parseN s.data.toList) ∧ Below w.heap.size w u) := by
        show ∀ u, _
        intro u hu
        have hz := hu.size
        simp only [World.size_alloc] at hz
        refine ⟨?_, ?_, by omega, HR5.out.below (by simp only [World.size_alloc]; exact hu), HB5X.out.trans (hu.mono (by have := HB5.out.size; omega))⟩
        · rw [hu.cell (by show w5.heap.size < w5.heap.size + 1; omega), hxo]; simp
        · rw [hu.cell (by show w5.heap.size < w5.heap.size + 1; omega), hxo]; simp
      rw [he0]
      rw [hxo] at HCX HR5
      clear hre hr he0 HB5 HB5X hxo
      generalize parseT s.data.toList = T5 at *
      generalize parseN s.data.toList = N5 at *
      go_wp2_with fail
      refine (PrintR_yes T5 N5 _ _ HR5.out HRE.out).mono ?_
      rintro e w6 ⟨rfl, hb⟩
      have HX6 : Hid (Below (w5.heap.size + 1) (w5.alloc (Obj.cells #[.slice p5 n5 c5, .slice q5 m5 d5] 37)) w6) := by
        have := hb
        simp only [World.size_alloc] at this
        exact this
      clear hb HR5
      go_wp2_with fail
      refine (ParseP_ok HRE.out _).mono ?_
      rintro e w7 ⟨⟨p7, n7, c7, q7, m7, d7, rfl, hr⟩, hb⟩
      have HX7 := Lib.hid (HX6.out.trans (hb.mono (by have := HX6.out.size; simp only [World.size_alloc] at this; exact this)))
      have HR7 := Lib.hid hr
      clear hb hr HX6
      have hlt7 : w5.heap.size + 1 ≤ w7.heap.size := by have := HX7.out.size; simp only [World.size_alloc] at this; exact this
      have hg := good2 0 0 (w7.alloc (Obj.cells #[.slice p7 n7 c7, .slice q7 m7 d7] 37))
      simp only [World.size_alloc] at hg
      have HG := Lib.hid hg
      have HX8 : Hid (∀ o1 o2, Below (w5.heap.size + 1) (w5.alloc (Obj.cells #[.slice p5 n5 c5, .slice q5 m5 d5] 37)) ((w7.alloc o1).alloc o2)) := fun o1 o2 => (HX7.out.alloc hlt7 o1).alloc (by simp; omega) o2
      have HR8 : Hid (∀ o1 o2, RuleIn ((w7.alloc o1).alloc o2) (.agg #[.slice p7 n7 c7, .slice q7 m7 d7]) T5 N5) := fun o1 o2 => HR7.out.below (((below1 w7 o1)).alloc (by simp) o2)
      have k8 : ∀ o1 o2, ((w7.alloc o1).alloc o2).cell? ⟨w5.heap.size, 0, none⟩ = some (.slice p5 n5 c5) := fun o1 o2 => (HCX.out _ (HX8.out o1 o2)).1
      have k9 : ∀ o1 o2, ((w7.alloc o1).alloc o2).cell? ⟨w5.heap.size, 1, none⟩ = some (.slice q5 m5 d5) := fun o1 o2 => (HCX.out _ (HX8.out o1 o2)).2.1
      have HL8 : Hid (∀ o1 o2, w5.heap.size + 1 ≤ ((w7.alloc o1).alloc o2).heap.size) := fun o1 o2 => by simp only [World.size_alloc]; omega
      clear hg hlt7 HX7 HR7
      go_wp2_with fail
      refine HG.out.mono ?_
      rintro e w8 ⟨rfl, hw8⟩
      rw [← hw8]
      clear hw8 HG
      go_wp2_with fail
      refine (same_ok _ _ T5 N5 _ (HCX.out _ (HX8.out _ _)).2.2.2.1 (HR8.out _ _)).mono ?_
      rintro e w9 ⟨rfl, hb⟩
      have HX9 := Lib.hid ((HX8.out _ _).trans (hb.mono (HL8.out _ _)))
      obtain ⟨k10, k11, _, hr9, hb9⟩ := HCX.out _ HX9.out
      have HR9 := Lib.hid hr9
      have HB9 := Lib.hid hb9
      clear hb hr9 hb9 HR8 HX8 HX9 k8 k9 HCX
      have HCK := Lib.hid (by
        obtain ⟨_, _, _, _, _, _, e, g1, g2, g3, g4⟩ := HR9.out
        have := CheckR_ok _ _ _ _ _ _ T5 N5 w9 g1.weak g2.weak g3 g4
        rw [← e, HRE.out] at this
        exact this)
      go_wp2_with fail
      refine HCK.out.mono ?_
      rintro e w10 ⟨rfl, hb⟩
      have HB10 := Lib.hid (HB9.out.trans (hb.mono HB9.out.size))
      clear hb
      go_wp2
      go_ret
      exact ⟨rfl, HB10.out⟩
end Go.Proofs.YtmeenhfclnkjhaaDoor
