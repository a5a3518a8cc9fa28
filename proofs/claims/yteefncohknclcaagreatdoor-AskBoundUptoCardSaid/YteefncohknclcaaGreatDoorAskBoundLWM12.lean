/- Texts joined: AppNL, AskBoundW, AskArg, BoundTabsW, AskBoundLW. Conditions: theirs. -/
import Derived.Test.YteefncohknclcaaGreatDoorNLSetW
import Derived.Test.YteefncohknclcaaGreatDoorAskBoundLWM9
import Derived.Test.YteefncohknclcaaGreatDoorAskBoundLWM10
import Derived.Test.YteefncohknclcaaGreatDoorAskBoundLWM11
import Derived.Deep.RegionHeld3
import Derived.BigQuiet
import Derived.Test.YteefncohknclcaaGreatDoorAskBoundLWM6
import Derived.Test.YteefncohknclcaaGreatDoorRows
import Derived.ChangeArms
import Derived.WideShapes
import Derived.Lib.LaidU8T
namespace Go.Proofs.YteefncohknclcaaGreatDoor
open Go.RowKit Go.Shelf
theorem run_append_nil_x {P : Program} (w : World) (base : Nat) (t ty e : TypeId) (i : TypeInfo) (ht : P.underlying t = some (.slice e)) (hi : P.info? e = some i)
    (v : Value) (k : Nat) (xs : List Value) (hown : w.ownsRow base e i.size v k xs) (c : Nat) :
    (Builtin.append_ #[t, t] ty #[v, .slice none 0 c]).run P w = .ok v w := by
  rcases hown.2 with ⟨rfl, rfl⟩ | ⟨g, cap, cur, rfl, hbg, hg, hnc, hcm, hcs, htake⟩
  · simp [Builtin.append_, run_underlying ht, sizeOf, typeInfo, hi, Builtin.lenOf, Builtin.firstCells]
  · simp [Builtin.append_, run_underlying ht, sizeOf, typeInfo, hi, Builtin.lenOf, Builtin.firstCells, hnc, storeCells]
/-- a slice of strings that the call can read; an empty one may point anywhere -/
structure NLw (w : World) (p : Option Addr) (n c : Nat) (zs : List ByteArray) : Prop where
  at_ : StrsAt w p n zs
  plain : 0 < n → ∀ ad, p = some ad → ∃ b off, ad = ⟨b, off, none⟩ ∧ b < w.heap.size
  reach : n * 16 ≤ 140737488351232
theorem NL.weak {w : World} {p : Option Addr} {n c : Nat} {zs : List ByteArray} (h : NL w p n c zs) : NLw w p n c zs := ⟨h.at_, fun _ => h.plain, h.reach⟩
theorem NLw.below {w w' : World} {p : Option Addr} {n c : Nat} {zs : List ByteArray} (h : NLw w p n c zs) (hb : Below w.heap.size w w') : NLw w' p n c zs :=
  ⟨h.at_.below hb, fun h0 ad ha => by
    obtain ⟨b, off, e, hlt⟩ := h.plain h0 ad ha
    exact ⟨b, off, e, Nat.lt_of_lt_of_le hlt hb.size⟩, h.reach⟩
theorem NLw.cellAt {w : World} {n c b o : Nat} {zs : List ByteArray} (h : NLw w (some ⟨b, o, none⟩) n c zs) : ∀ j, j < zs.length → w.cell? ⟨b, o + j, none⟩ = some (.string (zs.getD j ByteArray.empty)) := by
  intro j hj
  have hl := h.at_.len
  obtain ⟨ad, e, _, hc⟩ := str_at h.at_.reads (show j < n by omega)
  injection e with e
  subst e
  rwa [Addr.add_lit] at hc
theorem nlw_contains {w : World} {p : Option Addr} {n c : Nat} {zs : List ByteArray} (h : NLw w p n c zs) (x : ByteArray) :
    Calls Tryz.prog 27 #[.slice p n c, .string x] w fun e w' => e = .returned (.bool (Lib.containsS zs x)) ∧ w' = w := by
  have hl := h.at_.len
  have hb := h.at_.big
  subst hl
  rcases Nat.eq_zero_or_pos zs.length with h0 | h0
  · have : zs = [] := List.length_eq_zero_iff.1 h0
    subst this
    exact Tryz.slices_Contains_string_empty p c x w
  · obtain ⟨ad, rfl, _⟩ := h.at_.reads.2 h0
    obtain ⟨b, o, rfl, _⟩ := h.plain h0 _ rfl
    have := Tryz.slices_Contains_string b o zs.length c zs x w (Nat.le_refl _) (by omega) h.cellAt
    rw [List.take_length] at this
    exact this
theorem nlw_equal {w : World} {p q : Option Addr} {n c d : Nat} {zs : List ByteArray} (h : NLw w p n c zs) (h2 : NLw w q n d zs) :
    Calls Tryz.prog 22 #[.slice p n c, .slice q n d] w fun e w' => e = .returned (.bool true) ∧ ∃ k, w' = w.drewN k := by
  have hl := h.at_.len
  have hb := h.at_.big
  subst hl
  rcases Nat.eq_zero_or_pos zs.length with h0 | h0
  · have : zs = [] := List.length_eq_zero_iff.1 h0
    subst this
    refine (Tryz.slices_Equal_string_empty p q c 0 d w (by omega)).mono ?_
    rintro e w' ⟨he, rfl⟩
    exact ⟨by simpa using he, 0, rfl⟩
  · obtain ⟨ad, rfl, _⟩ := h.at_.reads.2 h0
    obtain ⟨b, o, rfl, _⟩ := h.plain h0 _ rfl
    obtain ⟨ad, rfl, _⟩ := h2.at_.reads.2 h0
    obtain ⟨b2, o2, rfl, _⟩ := h2.plain h0 _ rfl
    refine (Tryz.slices_Equal_string b o zs.length c b2 o2 zs.length d zs zs w (Nat.le_refl _) (Nat.le_refl _) (by omega) (by omega) h.cellAt h2.cellAt).mono ?_
    rintro e w' ⟨he, hw⟩
    exact ⟨by simpa using he, hw⟩
theorem NLw.drew {w : World} {p : Option Addr} {n c : Nat} {zs : List ByteArray} (h : NLw w p n c zs) (k : Nat) : NLw (w.drewN k) p n c zs := h.below (below_drawsP (Below.refl _ _) k)
theorem app_nl (w : World) {ops : Array Oper} {rest : List Oper} {o : Oper} {a : Act} {Q : Exit → Act → World → Prop} (hgd : o.guard = none) (s x : Operand)
    (ho : o.op = .call { callee := .builtin .append, args := #[s, x], argTypes := #[22, 22] })
    (base : Nat) (v : Value) (k : Nat) (xs : List Value) (hs : a.eval s = v) (hown : w.ownsRow base 9 1 v k xs)
    (q : Option Addr) (m d : Nat) (ys : List ByteArray) (hx : a.eval x = .slice q m d) (hN : NLw w q m d ys)
    (hn : k + m ≤ 8796093022208) (hbase : base ≤ w.heap.size)
    (h : ∀ v' w', w'.ownsRow base 9 1 v' (k + m) (xs ++ strsV ys) → w.grownBy w' v.ownBlock → wpList Tryz.prog ops Q rest (a.put o.dst v') w') : wpList Tryz.prog ops Q (o :: rest) a w := by
  obtain ⟨i0, hi, hz0, hz1, hz2⟩ := info_parts info_str
  have hl := hN.at_.len
  subst hl
  cases q with
  | none =>
    have h0 : ys.length = 0 := by
      rcases Nat.eq_zero_or_pos ys.length with h | h
      · exact h
      · obtain ⟨ad, h1, _⟩ := hN.at_.reads.2 h; cases h1
    have hy : ys = [] := List.length_eq_zero_iff.1 h0
    subst hy
    have hrun := run_append_nil_x w base 22 o.type 9 i0 Tryz.underlying22 hi v k xs (by rw [hz1]; exact hown) d
    refine wpList_plain hgd fun K hK' => ?_
    unfold Oper.wp
    simp only [execOp, ho, resolve, invoke, builtin, Sem.run_bind, Sem.run_pure, Result.andThen_ok, List.map_toArray, List.map_cons, List.map_nil, hs, hx]
    rw [show ([] : List ByteArray).length = 0 from rfl, hrun]
    exact hK' _ _ (h v w (by simpa [strsV] using hown) ⟨rfl, rfl, rfl, Nat.le_refl _, fun _ _ _ => rfl⟩)
  | some ad =>
    refine wpList_append_own w hgd s x 22 ho base 9 i0 (.string ⟨#[]⟩) 1 16 Tryz.underlying22 hi hz0 hz1 hz2 rfl (by decide) v k xs hs hown ad ys.length d (strsV ys) hx (by simp [strsV]) ?_ ?_ (by unfold maxLen; omega) (by omega) hbase (fun v' w' h1 h2 _ => h v' w' h1 h2)
    · intro j u hj
      unfold strsV at hj
      rw [List.getElem?_map, Option.map_eq_some_iff] at hj
      obtain ⟨y, hy, rfl⟩ := hj
      have hjl := (List.getElem?_eq_some_iff.1 hy).1
      obtain ⟨ad', had, _, hc⟩ := str_at hN.at_.reads hjl
      obtain rfl := Option.some.inj had
      rw [hc, List.getD_eq_getElem?_getD, hy]; rfl
    · intro u hu
      obtain ⟨y, _, rfl⟩ := List.mem_map.1 hu
      rfl
end Go.Proofs.YteefncohknclcaaGreatDoor
namespace Go.Proofs.YteefncohknclcaaGreatDoor
open Go.RowKit Go.Shelf
theorem argAAS (w : World) (x y : QT) (v : ByteArray) : ∃ W, W = ((w.alloc (.cells #[.int .i64 x.kind, .string x.name, .int .i64 x.num, .slice x.p x.xs.length x.cap] 29)).alloc (.cells #[.int .i64 y.kind, .string y.name, .int .i64 y.num, .slice y.p y.xs.length y.cap] 29)).alloc (.cells #[.string v] 9) ∧ Below w.heap.size w W ∧ W.heap.size = w.heap.size + 3 ∧
    ∀ u : World, Below W.heap.size W u → (u.cell? ⟨w.heap.size, 0, none⟩ = some (.int .i64 x.kind) ∧ u.cell? ⟨w.heap.size, 1, none⟩ = some (.string x.name) ∧ u.cell? ⟨w.heap.size, 2, none⟩ = some (.int .i64 x.num) ∧ u.cell? ⟨w.heap.size, 3, none⟩ = some (.slice x.p x.xs.length x.cap)) ∧
      (u.cell? ⟨w.heap.size + 1, 0, none⟩ = some (.int .i64 y.kind) ∧ u.cell? ⟨w.heap.size + 1, 1, none⟩ = some (.string y.name) ∧ u.cell? ⟨w.heap.size + 1, 2, none⟩ = some (.int .i64 y.num) ∧ u.cell? ⟨w.heap.size + 1, 3, none⟩ = some (.slice y.p y.xs.length y.cap)) ∧ u.cell? ⟨w.heap.size + 2, 0, none⟩ = some (.string v) := by
  obtain ⟨A, hA, hBA, hSA, hCA⟩ := arg1 w (.int .i64 x.kind) (.string x.name) (.int .i64 x.num) (.slice x.p x.xs.length x.cap)
  obtain ⟨D, hD, hBD, hSD, hCD⟩ := arg1 A (.int .i64 y.kind) (.string y.name) (.int .i64 y.num) (.slice y.p y.xs.length y.cap)
  have hb : Below D.heap.size D (D.alloc (.cells #[.string v] 9)) := (Below.refl _ _).alloc (Nat.le_refl _) _
  have hs : (D.alloc (.cells #[.string v] 9)).heap.size = D.heap.size + 1 := by simp
  refine ⟨_, by rw [← hA, ← hD], hBA.trans ((hBD.trans (hb.mono hBD.size)).mono hBA.size), by omega, fun u hu => ?_⟩
  have h1 := hb.trans (hu.mono hb.size)
  refine ⟨hCA u (hBD.trans (h1.mono hBD.size)), ?_, ?_⟩
  · rw [← hSA]
    exact hCD u h1
  · have e : w.heap.size + 2 = D.heap.size := by omega
    rw [e, hu.cell (p := ⟨D.heap.size, 0, none⟩) (by show D.heap.size < _; omega), World.cell?_alloc_at _ _ _ _ rfl]
    rfl
/-- what Free answers: the free names in a list of its own, or an error -/
def FRes (a : QA) (b : Nat) (q : Option Addr) (n c : Nat) (E : Int) (w' : World) : Prop :=
  E = qE qpat a ∧ (E ≠ 0 ∨ (n = (freeS a).length ∧ w'.ownsRow b 9 1 (.slice q n c) n ((freeS a).map encStr)))
theorem free_res {t : QT} {w w' : World} {e : Ending} (h : FreeAPost t w e w') : ∃ (q : Option Addr) (n c : Nat) (E : Int), e = .returned (.tuple #[.slice q n c, .int .i64 E]) ∧ FRes (qabs t) w.heap.size q n c E w' ∧ Below w.heap.size w w' := by
  obtain ⟨h1, h2⟩ := h
  rcases h1 with ⟨h3, rfl⟩ | ⟨h3, q, c, rfl, h4⟩
  · exact ⟨none, 0, 0, _, rfl, ⟨rfl, .inl h3⟩, h2⟩
  · exact ⟨q, _, c, 0, rfl, ⟨h3.symm, .inr ⟨rfl, h4⟩⟩, h2⟩
theorem strsV_appB (x y : List ByteArray) : strsV (x ++ y) = strsV x ++ strsV y := by unfold strsV; rw [List.map_append]
theorem free_len {X : QA} (hE : qE qpat X = 0) : (freeS X).length ≤ 60 := by
  have h1 := qfree_len X []
  have h2 := (qE_chk hE).1
  have h3 : (freeS X).length ≤ ((qfree X []).mergeSort fun a b => decide (a ≤ b)).length := Lib.compact_length_le _
  rw [List.length_mergeSort] at h3
  omega
theorem free_nlB {X : QA} {w : World} {b c : Nat} {q : Option Addr} (h : w.ownsRow b 9 1 (.slice q (freeS X).length c) (freeS X).length ((freeS X).map encStr)) (hE : qE qpat X = 0) : NL w q (freeS X).length c ((freeS X).map qtx) := by
  have e : strsV ((freeS X).map qtx) = (freeS X).map encStr := by rw [← byt_enc, byt_qtx]
  rw [← e] at h
  have hln := free_len hE
  obtain ⟨g', c', hv, hnl, _⟩ := NL_ownAny h (by rw [List.length_map]) (fun z hz => by
    obtain ⟨t, ht, rfl⟩ := List.mem_map.1 hz
    have := free_small X (qE_chk hE).2 t (freeS_mem.1 ht)
    rw [qtx_size]
    omega) (by omega)
  injection hv with e1 e2 e3
  subst e1 e3
  exact hnl
theorem free_sz {X : QA} (hE : qE qpat X = 0) : ∀ t ∈ freeS X, t.length ≤ 40 := fun t ht => free_small X (qE_chk hE).2 t (freeS_mem.1 ht)
set_option maxHeartbeats 8000000 in
set_option maxRecDepth 100000 in
theorem askBound_ok (x y : QT) (v : ByteArray) (w : World) (hX : QIn w x) (hY : QIn w y) (hT : TxtTabs w) (hs : v.size ≤ 1048576) (hcx : qcnt (qabs x) ≤ 1048576) (hcy : qcnt (qabs y) ≤ 1048576) :
    Calls Tryz.prog 4 #[x.v, y.v, .string v] w fun e w' => e = .returned (.bool true) ∧ Below w.heap.size w w' := by
  obtain ⟨W, hW, hBW, hS, hC⟩ := argAAS w x y v
  have HC := Lib.hid hC
  have HBW := Lib.hid hBW
  have HIN : Hid (∀ u : World, Below W.heap.size W u → QIn u x ∧ QIn u y ∧ TxtTabs u) := by
    show ∀ u : World, _
    exact fun u hu => ⟨hX.below (hBW.trans (hu.mono hBW.size)), hY.below (hBW.trans (hu.mono hBW.size)), hT.below (hBW.trans (hu.mono hBW.size))⟩
  have HAK := Lib.hid (asks_ok W (HIN.out W (Below.refl _ _)).2.2)
  show Calls Tryz.prog 4 #[.agg #[.int .i64 x.kind, .string x.name, .int .i64 x.num, .slice x.p x.xs.length x.cap], .agg #[.int .i64 y.kind, .string y.name, .int .i64 y.num, .slice y.p y.xs.length y.cap], .string v] w _
  go_enter Tryz.func4, Tryz.ntmps4
  go_upto_region 1 with fail
  rw [← hW]
  clear hW
  obtain ⟨⟨g0, g1, g2, g3⟩, ⟨k0, k1, k2, k3⟩, m0⟩ := HC.out W (Below.refl _ _)
  go_upto_region 3 with (go_at_call 14; refine HAK.out.mono ?_; rintro e w1 ⟨rfl, hb⟩; have HB1 := Lib.hid hb; obtain ⟨⟨u0, u1, u2, u3⟩, _⟩ := HC.out w1 hb; clear hb)
  clear g0 g1 g2 g3 k0 k1 k2 k3 m0
  have HFX := Lib.hid (FreeA_ok x w1 (HIN.out w1 HB1.out).1 (HIN.out w1 HB1.out).2.2.ask (by omega))
  go_upto_region 4 with (go_at_call 15; refine HFX.out.mono ?_; rintro e w2 hF; obtain ⟨qa, na, ca, Ea, rfl, hA, hb⟩ := free_res hF; have HFA := Lib.hid hA; have HB12 := Lib.hid hb; have HB2 := Lib.hid (HB1.out.trans (hb.mono HB1.out.size)); obtain ⟨_, ⟨t0, t1, t2, t3⟩, _⟩ := HC.out w2 HB2.out; clear hb hF hA)
  clear HFX u0 u1 u2 u3
  have HFY := Lib.hid (FreeA_ok y w2 (HIN.out w2 HB2.out).2.1 (HIN.out w2 HB2.out).2.2.ask (by omega))
  go_upto_region 5 with (go_at_call 15; refine HFY.out.mono ?_; rintro e w3 hF; obtain ⟨qb, nb, cb, Eb, rfl, hA, hb⟩ := free_res hF; have HFB := Lib.hid hA; have HB3 := Lib.hid (HB2.out.trans (hb.mono HB2.out.size)); have HBY := Lib.hid hb; clear hF hA)
  clear HFY t0 t1 t2 t3
  have HLT : Hid (∀ u : World, Below W.heap.size W u → Calls Tryz.prog 15 #[.agg #[.int .i64 4, .string v, .int .i64 0, .slice (some ⟨u.heap.size, 0, none⟩) 2 2]] (u.alloc (.cells (asksC [x, y]).toArray 29)) (FreeAPost (.mk 4 v 0 (some ⟨u.heap.size, 0, none⟩) 2 [x, y]) (u.alloc (.cells (asksC [x, y]).toArray 29)))) := by
    show ∀ u : World, _
    intro u hu
    have hb : Below u.heap.size u (u.alloc (.cells (asksC [x, y]).toArray 29)) := (Below.refl _ _).alloc (Nat.le_refl _) _
    have hq := qs_list u [x, y] (List.forall_mem_cons.2 ⟨(HIN.out u hu).1, List.forall_mem_cons.2 ⟨(HIN.out u hu).2.1, fun _ h => nomatch h⟩⟩)
    have hq2 : QIn (u.alloc (.cells (asksC [x, y]).toArray 29)) (.mk 4 v 0 (some ⟨u.heap.size, 0, none⟩) 2 [x, y]) := QIn.of hs (by show 2 ≤ 2; omega) (by show 2 ≤ _; omega) hq
    refine FreeA_ok (.mk 4 v 0 (some ⟨u.heap.size, 0, none⟩) 2 [x, y]) _ hq2 (HIN.out _ (hu.trans (hb.mono hu.size))).2.2.ask ?_
    have e : qabs (.mk 4 v 0 (some ⟨u.heap.size, 0, none⟩) 2 [x, y]) = .mk 4 v.data.toList 0 [qabs x, qabs y] := rfl
    rw [e, cnt_mk, cnts_two]
    omega
  obtain ⟨⟨g0, g1, g2, g3⟩, ⟨k0, k1, k2, k3⟩, m0⟩ := HC.out w3 HB3.out
  go_upto_region 6 with (go_at_call 15; refine (HLT.out w3 HB3.out).mono ?_; rintro e w4 hF; obtain ⟨qc, nc, cc, Ec, rfl, hA, hb⟩ := free_res hF; have HFC := Lib.hid hA; have HAL := Lib.hid ((Below.refl w3.heap.size w3).alloc (Nat.le_refl _) (.cells (asksC [x, y]).toArray 29)); have HB4 := Lib.hid (HB3.out.trans ((HAL.out.trans (hb.mono HAL.out.size)).mono HB3.out.size)); have HBZ := Lib.hid hb; clear hF hA hb)
  clear g0 g1 g2 g3 k0 k1 k2 k3 m0 HLT
  have HFIN : Hid (∀ u : World, Below w4.heap.size w4 u → Below w.heap.size w u) := by
    show ∀ u : World, _
    exact fun u hu => HBW.out.trans ((HB4.out.trans (hu.mono HB4.out.size)).mono HBW.out.size)
  by_cases hE : Ea = 0 ∧ Eb = 0 ∧ Ec = 0
  · obtain ⟨rfl, rfl, rfl⟩ := hE
    have hok : allOk [(0 : Int), 0, 0] = true := by decide
    go_upto_region 8 with (go_at_call 16; refine (goodB3 _ _ _ w4).mono ?_; rw [hok]; rintro e w5 ⟨rfl, hb⟩; have HB45 := Lib.hid hb; clear hb)
    obtain ⟨hna, hoa⟩ := HFA.out.2.resolve_left (fun h => h rfl)
    obtain ⟨hnb, hob⟩ := HFB.out.2.resolve_left (fun h => h rfl)
    obtain ⟨hnc, hoc⟩ := HFC.out.2.resolve_left (fun h => h rfl)
    have hb34 : Below w3.heap.size w3 w4 := HAL.out.trans (HBZ.out.mono HAL.out.size)
    have hb35 : Below w3.heap.size w3 w5 := hb34.trans (HB45.out.mono hb34.size)
    have hb25 : Below w2.heap.size w2 w5 := HBY.out.trans (hb35.mono HBY.out.size)
    have HB5 := Lib.hid (HB4.out.trans (HB45.out.mono HB4.out.size))
    have HOA := Lib.hid (own_belowF hoa hb25)
    have HOB := Lib.hid (own_belowF hob hb35)
    have HOC := Lib.hid (own_belowF hoc HB45.out)
    have HV := Lib.hid (HC.out w5 HB5.out).2.2
    have HDE := Lib.hid (del_own (B := w.heap.size + 1 + 1) HOB.out (by have := HB2.out.size; omega) (by have := HB5.out.size; omega) HV.out)
    have HNA := Lib.hid hna
    have HNB := Lib.hid hnb
    have HNC := Lib.hid hnc
    have HLA : Hid (∀ j, (Value.slice qa na ca).ownBlock = some j → w1.heap.size ≤ j ∧ j < w2.heap.size) := by show ∀ j, _; exact fun j hj => hoa.lt j hj
    have HLB : Hid (∀ j, (Value.slice qb nb cb).ownBlock = some j → w2.heap.size ≤ j ∧ j < w3.heap.size) := by show ∀ j, _; exact fun j hj => hob.lt j hj
    have HLC : Hid (∀ j, (Value.slice qc nc cc).ownBlock = some j → w3.heap.size ≤ j) := by show ∀ j, _; exact fun j hj => Nat.le_trans (by simp) (hoc.lt j hj).1
    clear hna hoa hnb hob hnc hoc hb34 hb35 hb25
    go_upto_region 9 with (go_at_call 17; refine HDE.out.mono ?_; rintro e w6 ⟨rfl, ho6, hg6⟩; have HOB6 := Lib.hid ho6; have HG6 := Lib.hid hg6; clear ho6 hg6)
    obtain ⟨HQA, HQB, HQC⟩ : Hid (qE qpat (qabs x) = 0) ∧ Hid (qE qpat (qabs y) = 0) ∧ Hid (qE qpat (qabs (.mk 4 v 0 (some ⟨w3.heap.size, 0, none⟩) 2 [x, y])) = 0) := ⟨Lib.hid HFA.out.1.symm, Lib.hid HFB.out.1.symm, Lib.hid HFC.out.1.symm⟩
    have HOA6 : Hid (w6.ownsRow w1.heap.size 9 1 (.slice qa na ca) na (strsV (bz (freeS (qabs x))))) := by
      show World.ownsRow _ _ _ _ _ _ _
      rw [bz_strs]
      refine HOA.out.kept HG6.out ?_
      cases hq : (Value.slice qa na ca).ownBlock with
      | none => exact .inl rfl
      | some j => exact .inr (fun e => by have h1 := (HLA.out j hq).2; have h2 := (HLB.out j e.symm).1; omega)
    have HOC6 : Hid (w6.ownsRow (w3.alloc (.cells (asksC [x, y]).toArray 29)).heap.size 9 1 (.slice qc nc cc) nc ((freeS (qabs (.mk 4 v 0 (some ⟨w3.heap.size, 0, none⟩) 2 [x, y]))).map encStr)) := by
      show World.ownsRow _ _ _ _ _ _ _
      refine HOC.out.kept HG6.out ?_
      cases hq : (Value.slice qc nc cc).ownBlock with
      | none => exact .inl rfl
      | some j => exact .inr (fun e => by have h1 := HLC.out j hq; have h2 := (HLB.out j e.symm).2; omega)
    have HNB6 : Hid (NLw w6 qb (keepV v (freeS (qabs y))).length cb (bz (keepV v (freeS (qabs y))))) := by
      show NLw _ _ _ _ _
      have h := HOB6.out
      rw [← bz_strs] at h
      obtain ⟨g', c', hv, hnl, _⟩ := NL_ownAny h (bz_len _) (fun z hz => by
        have h1 := free_sz HQB.out _ (List.mem_filter.1 (mem_bz.1 hz)).1
        rw [ba_len] at h1
        omega) (by
        have h1 := free_len HQB.out
        have h2 : (keepV v (freeS (qabs y))).length ≤ (freeS (qabs y)).length := List.length_filter_le _ _
        omega)
      injection hv with e1 e2 e3
      subst e1 e3
      exact hnl.weak
    have HSZ := Lib.hid (show na + (keepV v (freeS (qabs y))).length ≤ 120 ∧ W.heap.size ≤ w1.heap.size ∧ w1.heap.size ≤ w6.heap.size ∧ w1.heap.size ≤ w2.heap.size from by
      have h1 := free_len HQB.out
      have h2 : (keepV v (freeS (qabs y))).length ≤ (freeS (qabs y)).length := List.length_filter_le _ _
      have h3 := free_len HQA.out
      have h4 := HNA.out
      have h5 := HB1.out.size
      have h6 := HG6.out.size
      have h7 := HB45.out.size
      have h8 := HBZ.out.size
      have h9 := HAL.out.size
      have h10 := HBY.out.size
      have h11 := HB12.out.size
      refine ⟨by omega, h5, by omega, h11⟩)
    have HB6 := Lib.hid (HB5.out.grown HG6.out HB5.out.size (fun j hj => by have h1 := (HLB.out j hj).1; have h2 := HSZ.out; omega))
    obtain ⟨kb, hkb⟩ : ∃ kb, kb = (keepV v (freeS (qabs y))).length := ⟨_, rfl⟩
    have HKB := Lib.hid hkb
    obtain ⟨zz, hzz⟩ : ∃ zz, zz = bz (freeS (qabs x)) ++ bz (keepV v (freeS (qabs y))) := ⟨_, rfl⟩
    have HZZ := Lib.hid hzz
    have HVF : Hid (∀ (v' : Value) (u : World), u.ownsRow w1.heap.size 9 1 v' (na + kb) (strsV (bz (freeS (qabs x))) ++ strsV (bz (keepV v (freeS (qabs y))))) → ∃ g c, v' = .slice g (na + kb) c ∧ NL u g (na + kb) c zz) := by
      show ∀ (v' : Value) (u : World), _
      intro v' u hu
      rw [← strsV_appB, ← hzz] at hu
      have hzl : zz.length = na + kb := by rw [hzz, List.length_append, bz_len, bz_len, HNA.out, hkb]
      obtain ⟨g', c', hv, hnl, _⟩ := NL_ownAny hu hzl (fun z hz => by
        rw [hzz, List.mem_append] at hz
        rcases hz with hz | hz
        · have h1 := free_sz HQA.out _ (mem_bz.1 hz)
          rw [ba_len] at h1
          omega
        · have h1 := free_sz HQB.out _ (List.mem_filter.1 (mem_bz.1 hz)).1
          rw [ba_len] at h1
          omega) (by have := HSZ.out.1; omega)
      exact ⟨g', c', hv, hnl⟩
    rw [← hkb] at HNB6 HSZ HOB6
    rw [← hkb]
    clear hkb hzz
    go_wp2_with (at_builtin; refine app_nl _ rfl _ _ rfl w1.heap.size _ na _ rfl HOA6.out _ _ _ _ rfl HNB6.out (by have := HSZ.out.1; omega) HSZ.out.2.2.1 ?_; intro v' w7 hown7 hgrow7; have HG7 := Lib.hid hgrow7; obtain ⟨g7, c7, rfl, hn7⟩ := HVF.out v' w7 hown7; have HN7 := Lib.hid hn7; clear hown7 hgrow7 hn7)
    have HOC7 : Hid (w7.ownsRow (w3.alloc (.cells (asksC [x, y]).toArray 29)).heap.size 9 1 (.slice qc nc cc) nc ((freeS (qabs (.mk 4 v 0 (some ⟨w3.heap.size, 0, none⟩) 2 [x, y]))).map encStr)) := by
      show World.ownsRow _ _ _ _ _ _ _
      refine HOC6.out.kept HG7.out ?_
      cases hq : (Value.slice qc nc cc).ownBlock with
      | none => exact .inl rfl
      | some j => exact .inr (fun e => by have h1 := HLC.out j hq; have h2 := (HLA.out j e.symm).2; have h3 := HBY.out.size; omega)
    have HB7 := Lib.hid (HB6.out.grown HG7.out HB6.out.size (fun j hj => by have h1 := (HLA.out j hj).1; have h2 := HSZ.out; omega))
    have hb1 : Below w7.heap.size w7 (w7.alloc (.cells #[.slice g7 (na + kb) c7] 22)) := (Below.refl _ _).alloc (Nat.le_refl _) _
    have hcell : (w7.alloc (.cells #[.slice g7 (na + kb) c7] 22)).cell? ⟨w7.heap.size, 0, none⟩ = some (.slice g7 (na + kb) c7) := by rw [World.cell?_alloc_at _ _ _ _ rfl]; rfl
    have HCL := Lib.hid hcell
    have HB8 := Lib.hid hb1
    have HN8 := Lib.hid (HN7.out.below hb1)
    clear hcell hb1
    refine (callsIn_wide.1 (vs_values_in Fence.wide 1 trivial rfl g7 (na + kb) c7 w7)).mono ?_
    rintro e w' ⟨rfl, rfl⟩
    go_wp2_with fail
    refine (sorted_ok w7.heap.size g7 (na + kb) c7 zz _ (by simp) HN8.out.at_ HCL.out HN8.out.nil HN8.out.plain HN8.out.reach).mono ?_
    rintro e w9 ⟨g5, cg5, rfl, hown5, hb5⟩
    have HO := Lib.hid hown5
    have HB9 := Lib.hid (HB8.out.trans (hb5.mono HB8.out.size))
    clear hown5 hb5
    go_wp2_with fail
    refine (compact_own HO.out).mono ?_
    rintro e w10 ⟨rfl, hown6, hg6⟩
    have HO6 := Lib.hid hown6
    have HB10 := Lib.hid (HB9.out.grown hg6 HB9.out.size (fun j hj => by have := (HO.out.lt j hj).1; have := HB8.out.size; omega))
    clear hown6 hg6
    have HQE : Hid (Lib.compact ((byt zz).mergeSort fun x y => decide (x ≤ y)) = freeS (qabs (.mk 4 v 0 (some ⟨w3.heap.size, 0, none⟩) 2 [x, y]))) := by
      show _ = _
      have e : byt zz = freeS (qabs x) ++ (freeS (qabs y)).filter fun s => !decide (s = v.data.toList) := by
        rw [HZZ.out]
        unfold byt
        rw [List.map_append]
        show byt _ ++ byt _ = _
        rw [byt_bz, byt_bz]
        rfl
      rw [e]
      exact bound_law v.data.toList 0 (qabs x) (qabs y)
    rw [HQE.out, ← HNC.out]
    have HNW : Hid (NL w10 g5 nc cg5 ((freeS (qabs (.mk 4 v 0 (some ⟨w3.heap.size, 0, none⟩) 2 [x, y]))).map qtx)) := by
      show NL _ _ _ _ _
      have h := HO6.out
      rw [HQE.out] at h
      rw [HNC.out]
      exact free_nlB h HQC.out
    have HNCW : Hid (NL w10 qc nc cc ((freeS (qabs (.mk 4 v 0 (some ⟨w3.heap.size, 0, none⟩) 2 [x, y]))).map qtx)) := by
      show NL _ _ _ _ _
      have h := own_belowF HOC7.out HB10.out
      rw [HNC.out] at h ⊢
      exact free_nlB h HQC.out
    have HBF := Lib.hid (HBW.out.trans ((HB7.out.trans (HB10.out.mono HB7.out.size)).mono HBW.out.size))
    go_wp2_with (go_at_call 22; refine (nl_equal HNCW.out HNW.out).mono ?_; rintro e w' ⟨rfl, k, rfl⟩)
    go_ret
    exact ⟨rfl, below_drawsP HBF.out k⟩
  · have hok : allOk [Ea, Eb, Ec] = false := by
      unfold allOk
      simp only [List.all_cons, List.all_nil, Bool.and_true, Bool.and_eq_false_iff, decide_eq_false_iff_not]
      omega
    clear hE
    go_wp2_with (go_at_call 16; refine (goodB3 _ _ _ w4).mono ?_; rw [hok]; rintro e w5 ⟨rfl, hb⟩)
    go_ret
    exact ⟨rfl, HFIN.out _ hb⟩
end Go.Proofs.YteefncohknclcaaGreatDoor
namespace Go.Proofs.YteefncohknclcaaGreatDoor
open Go.RowKit Go.ChangeShapes Go.WideShapes
theorem add_plainQ (b o j : Nat) : (⟨b, o, none⟩ : Addr).add j = ⟨b, o + j, none⟩ := by
  unfold Addr.add
  split
  · rename_i h; subst h; rfl
  · rfl
theorem bulk_mem {H : Type} {d : DataW H} {l : List (DataW H)} (h : d ∈ l) : Rows.uptoBulk d ≤ Rows.uptoBulkAll l := by
  induction l with
  | nil => cases h
  | cons x l ih =>
    unfold Rows.uptoBulkAll
    rcases List.mem_cons.1 h with rfl | h
    · omega
    · have := ih h; omega
theorem bulk_pos {H : Type} (d : DataW H) : 1 ≤ Rows.uptoBulk d := by
  unfold Rows.uptoBulk
  split <;> omega
theorem bulkq_len {H : Type} (l : List (DataW H)) : l.length ≤ Rows.uptoBulkAll l := by
  induction l with
  | nil => simp
  | cons x l ih => unfold Rows.uptoBulkAll; have := bulk_pos x; simp only [List.length_cons]; omega
theorem cnts_bulk {H : Type} : ∀ (l : List QT) (ds : List (DataW H)), l.length = ds.length → (∀ (i : Nat) (t : QT) (d : DataW H), l[i]? = some t → ds[i]? = some d → qcnt (qabs t) ≤ Rows.uptoBulk d) → qcnts (qabss l) ≤ Rows.uptoBulkAll ds := by
  intro l
  induction l with
  | nil => intro ds _ _; simp [qabss, qcnts]
  | cons x l ih =>
    intro ds h hb
    cases ds with
    | nil => simp at h
    | cons d ds =>
      have h1 := hb 0 x d rfl rfl
      have h2 := ih ds (by simpa using h) fun i t d h1 h2 => hb (i + 1) t d (by simpa using h1) (by simpa using h2)
      simp only [qabss, qcnts, Rows.uptoBulkAll]
      omega
theorem list_ofQ {P : Nat → QT → Prop} : ∀ (n : Nat), (∀ i, i < n → ∃ t, P i t) → ∃ l : List QT, l.length = n ∧ ∀ i t, l[i]? = some t → P i t := by
  intro n
  induction n generalizing P with
  | zero => exact fun _ => ⟨[], rfl, fun i t h => by simp at h⟩
  | succ n ih =>
    intro h
    obtain ⟨x, hx⟩ := h 0 (by omega)
    obtain ⟨l, h1, h2⟩ := ih (P := fun i t => P (i + 1) t) fun i hi => h (i + 1) (by omega)
    refine ⟨x :: l, by simp [h1], fun i t hi => ?_⟩
    cases i with
    | zero => simp only [List.getElem?_cons_zero, Option.some.injEq] at hi; subst hi; exact hx
    | succ i => exact h2 i t (by simpa using hi)
set_option maxRecDepth 100000 in
theorem ask_read {H : Type} {enc : TypeId × Value → H} {W : World} : ∀ (fuel : Nat) (cs : List Value) (d : DataW H) (p : List MemPlace),
    DataW.trod enc Tryz.prog W 0 (fun _ => true) true fuel 29 cs = some (d, p) → Rows.uptoBulk d ≤ 1048576 →
    ∃ t : QT, cs = [.int .i64 t.kind, .string t.name, .int .i64 t.num, .slice t.p t.xs.length t.cap] ∧ QIn W t ∧ qcnt (qabs t) ≤ Rows.uptoBulk d := by
  intro fuel
  induction fuel using Nat.strongRecOn with
  | _ fuel ih =>
    intro cs d p hf hbk
    have ht := Tryz.underlying29
    obtain ⟨xs, k, hfu, hxy, hlen, hxl, hff⟩ := DataW.trod_struct ht hf
    have hc4 : Tryz.prog.cellsOf 29 = 4 := by kernel_rfl
    have s0 : Tryz.prog.cellsOf 3 = 1 := by kernel_rfl
    have s1 : Tryz.prog.cellsOf 9 = 1 := by kernel_rfl
    have s3 : Tryz.prog.cellsOf 27 = 1 := by kernel_rfl
    rw [hc4] at hlen
    match cs, hlen, xs, hxl with
    | [v0, v1, v2, v3], _, [y0, y1, y2, y3], _ =>
      have g0 := hff 0 _ rfl
      have g1 := hff 1 _ rfl
      have g2 := hff 2 _ rfl
      have g3 := hff 3 _ rfl
      simp [s0, s1, s3] at g0 g1 g2 g3
      obtain ⟨z0, e0, x0, _⟩ := DataW.trod_int Tryz.underlying3 g0
      obtain ⟨z1, e1, x1, _⟩ := DataW.trod_string Tryz.underlying9 g1
      obtain ⟨z2, e2, x2, _⟩ := DataW.trod_int Tryz.underlying3 g2
      injection e0 with e0 _
      injection e1 with e1 _
      injection e2 with e2 _
      subst e0 e1 e2
      injection hxy with hd _
      have hbs : z1.size + Rows.uptoBulk y3.1 + 3 ≤ Rows.uptoBulk d := by
        rw [hd, x0, x1, x2]
        simp only [List.map_cons, List.map_nil, Rows.uptoBulk, Rows.uptoBulkAll]
        rw [Lib.size_eq]
        omega
      rcases DataW.trod_slice Tryz.underlying27 g3 with ⟨h, _⟩ | ⟨ad, len, cap, elems, rest, n, hk, h, hx3, _, hlc, _, hel, hi, hsp, _⟩
      · injection h with h _
        subst h
        refine ⟨.mk z0 z1 z2 none 0 [], rfl, ?_, ?_⟩
        · rw [QIn]; exact ⟨by omega, Nat.le_refl _, by simp, trivial⟩
        · show qcnt (.mk _ _ _ []) ≤ _
          simp only [qcnt, qcnts]
          omega
      · injection h with h _
        subst h
        have hb3 : Rows.uptoBulkAll (elems.map (·.1)) + Rows.uptoBulkAll (rest.map (·.1)) + 1 = Rows.uptoBulk y3.1 := by
          rw [hx3]
          simp only [Rows.uptoBulk]
        have hcap : cap ≤ 1048576 := by
          obtain ⟨hr, _⟩ := hsp rfl
          have l1 := bulkq_len (elems.map (·.1))
          have l2 := bulkq_len (rest.map (·.1))
          rw [List.length_map] at l1 l2
          omega
        obtain ⟨l, hl, hP⟩ := list_ofQ (P := fun i t => (∃ b o, some ad = some ⟨b, o, none⟩ ∧ b < W.heap.size ∧ Four W b (o + 4 * i) t) ∧ QIn W t ∧ ∀ x, elems[i]? = some x → qcnt (qabs t) ≤ Rows.uptoBulk x.1) len (by
          intro i hil
          have hx := hi i hil
          obtain ⟨x0, hx0⟩ : ∃ x0, elems[i]? = some x0 := ⟨_, List.getElem?_eq_getElem (by omega)⟩
          rw [hx0, hc4] at hx
          obtain ⟨cs2, hcs2, htr⟩ := Option.bind_eq_some_iff.1 hx
          obtain ⟨_, hl2, hcell⟩ := World.cells?_some hcs2
          have hbx : Rows.uptoBulk x0.1 ≤ 1048576 := by
            have := bulk_mem (List.mem_map.2 ⟨x0, List.mem_of_getElem? hx0, rfl⟩ : x0.1 ∈ elems.map (·.1))
            omega
          obtain ⟨t, hb, hq, hcn⟩ := ih n (by omega) cs2 _ _ htr hbx
          subst hb
          have c0 := hcell 0 (by omega)
          have c1 := hcell 1 (by omega)
          have c2 := hcell 2 (by omega)
          have c3 := hcell 3 (by omega)
          obtain ⟨kb, o, s⟩ := ad
          have hs : s = none := by
            have hx2 := hi 0 (by omega)
            obtain ⟨x2, hx3⟩ : ∃ x2, elems[0]? = some x2 := ⟨_, List.getElem?_eq_getElem (by omega)⟩
            rw [hx3, hc4] at hx2
            obtain ⟨cs3, hcs3, _⟩ := Option.bind_eq_some_iff.1 hx2
            obtain ⟨_, hl3, hcell2⟩ := World.cells?_some hcs3
            have h4 := hcell2 0 (by omega)
            rw [List.getElem?_eq_getElem (by omega)] at h4
            simpa [Addr.add] using World.cell?_spot h4
          subst hs
          simp only [add_plainQ] at c0 c1 c2 c3
          refine ⟨t, ⟨kb, o, rfl, World.block_lt_of_cell? W _ c0, ?_, ?_, ?_, ?_⟩, hq, fun x hx => ?_⟩
          · rw [show o + 4 * i = o + i * 4 + 0 by omega]; exact c0
          · rw [show o + 4 * i + 1 = o + i * 4 + 1 by omega]; exact c1
          · rw [show o + 4 * i + 2 = o + i * 4 + 2 by omega]; exact c2
          · rw [show o + 4 * i + 3 = o + i * 4 + 3 by omega]; exact c3
          · rw [hx0] at hx; injection hx with hx; subst hx; exact hcn)
        subst hl
        have hcs : qcnts (qabss l) ≤ Rows.uptoBulkAll (elems.map (·.1)) := by
          refine cnts_bulk l _ (by rw [List.length_map, hel]) fun i t d h1 h2 => ?_
          rw [List.getElem?_map, Option.map_eq_some_iff] at h2
          obtain ⟨x, hx, rfl⟩ := h2
          exact (hP i t h1).2.2 x hx
        refine ⟨.mk z0 z1 z2 (some ad) cap l, rfl, ?_, ?_⟩
        · rw [QIn]
          refine ⟨by omega, hlc, by omega, QsIn.mk fun j x hx => ?_⟩
          obtain ⟨⟨b, o, h1, h2, h3⟩, h4, _⟩ := hP j x hx
          exact ⟨⟨b, o, h1, h2, by rw [Nat.zero_add]; exact h3⟩, h4⟩
        · show qcnt (.mk _ _ _ (qabss l)) ≤ _
          simp only [qcnt]
          omega
/-- the ask that a law is handed -/
def AskArg (w : World) (v : Value) (t : QT) : Prop := v = t.v ∧ QIn w t ∧ qcnt (qabs t) ≤ 1048576
set_option maxRecDepth 100000 in
theorem ask_arg_upto {H : Type} {enc : TypeId × Value → H} {W : World} {r : Reach} {b0 : Nat} {v : Value} {d : DataW H} {p : List MemPlace}
    (hok : Value.okWide Tryz.prog W r b0 29 v) (hf : DataW.Trod enc Tryz.prog W 0 (fun _ => true) true 29 v d p)
    (_hsz : ∀ n, n ∈ d.weights Tryz.prog 29 → n ≤ reachBytes) (hbk : Rows.uptoBulk d ≤ 1048576) : ∃ t, AskArg W v t := by
  have ht := Tryz.underlying29
  have hok2 := hok
  simp only [Value.okWide, ht] at hok2
  obtain ⟨cs, rfl, _, _⟩ := hok2
  obtain ⟨fuel, hf⟩ := hf
  obtain ⟨t, h1, h2, h3⟩ := ask_read fuel _ d p hf hbk
  obtain ⟨l, rfl⟩ : ∃ l : List Value, cs = l.toArray := ⟨cs.toList, by simp⟩
  refine ⟨t, ?_, h2, by omega⟩
  have : l = [.int .i64 t.kind, .string t.name, .int .i64 t.num, .slice t.p t.xs.length t.cap] := by simpa [Value.cells] using h1
  rw [this]; rfl
end Go.Proofs.YteefncohknclcaaGreatDoor
namespace Go.Proofs.YteefncohknclcaaGreatDoor
open Go.RowKit Go.Shelf Go.Lib
def rhoU : Ren := ⟨fun x => x, fun x => if x = 5 then 5 else if x = 119 then 223 else if x = 138 then 225 else 226, fun x => if x = 3 then 3 else 4⟩
theorem u8t : U8Types Tryz.prog rhoU := ⟨by kernel_rfl, by kernel_rfl, by kernel_rfl, by kernel_rfl⟩
theorem u8x : U8Extra Tryz.prog rhoU := ⟨by kernel_rfl, by kernel_rfl, by kernel_rfl, by kernel_rfl, by kernel_rfl, by kernel_rfl, by kernel_rfl⟩
theorem firstMem : ("unicode/utf8.first", firstData) ∈ laidL := by
  have e : (Rows.laid_unicode_utf8_first : DataW Unit) = firstData := by kernel_rfl
  rw [← e]
  show _ ∈ [_, _, _, _, _, _, _]
  repeat (first | exact List.Mem.head _ | apply List.Mem.tail)
theorem acceptMem : ("unicode/utf8.acceptRanges", acceptData) ∈ laidL := by
  have e : (Rows.laid_unicode_utf8_acceptRanges : DataW Unit) = acceptData := by kernel_rfl
  rw [← e]
  show _ ∈ [_, _, _, _, _, _, _]
  repeat (first | exact List.Mem.head _ | apply List.Mem.tail)
theorem powMem : ("internal/strconv.uint64pow10", (Lib.tabData .u64 Lib.pow10Tab : DataW Unit)) ∈ laidL := by
  have e : (Rows.laid_internal_strconv_uint64pow10 : DataW Unit) = Lib.tabData .u64 Lib.pow10Tab := by kernel_rfl
  rw [← e]
  show _ ∈ [_, _, _, _, _, _, _]
  repeat (first | exact List.Mem.head _ | apply List.Mem.tail)
theorem utf_of {w : World} (h : laidMetH Tryz.prog laidL w) : Lib.Utf8Tabs 3 4 w := by
  rw [MakeChecks.laidMetH_plain _ _ _ (by kernel_rfl)] at h
  obtain ⟨ps, hl, _⟩ := h
  exact utf8Tabs_of_readsT u8t u8x (LaidVars_reads hl _ _ firstMem) (LaidVars_reads hl _ _ acceptMem)
theorem ask_tabs {w : World} (h : laidMetH Tryz.prog laidL w) : AskTabs w := ⟨forms_of h, utf_of h⟩
theorem txt_tabs {w : World} (h : laidMetH Tryz.prog laidL w) : TxtTabs w :=
  ⟨ask_tabs h, kinds_of h, laid_tab h powMem (g := 6) (t := 228) (e := 24) (n := 20) (by kernel_rfl) (by kernel_rfl) Tryz.underlying228 Tryz.underlying24 (by kernel_rfl) (by kernel_rfl)⟩
end Go.Proofs.YteefncohknclcaaGreatDoor
namespace Go.Proofs.YteefncohknclcaaGreatDoor
end Go.Proofs.YteefncohknclcaaGreatDoor
