/- Texts joined: DelOwnW, AsksW, NormRuleW, TwoLW, OneLW. Conditions: theirs. -/
import Derived.Test.YteefncohknclcaaGreatDoorAskBoundLWM10
import Derived.Test.YteefncohknclcaaGreatDoorCompactW
import Derived.Test.YteefncohknclcaaGreatDoorAskBoundLWM9
import Derived.Test.YteefncohknclcaaGreatDoorNormP
import Derived.Test.YteefncohknclcaaGreatDoorAskBoundLWM7
import Derived.Deep.RegionHeld3
namespace Go.Proofs.YteefncohknclcaaGreatDoor
open Go.RowKit Go.Shelf Go.Maps Go.Sort Go.Lib
def keepV (v : ByteArray) (bs : List (List UInt8)) : List (List UInt8) := bs.filter fun x => !decide (x = v.data.toList)
theorem givesV2 (v : ByteArray) (x : List UInt8) (B : Nat) (W : World) (hc : W.cell? ⟨B, 0, none⟩ = some (.string v)) :
    FnGives Tryz.prog 18 #[.pointer (some ⟨B, 0, none⟩)] #[encStr x] (.bool (decide (x = v.data.toList))) W := by
  have e : ((⟨x.toArray⟩ : ByteArray).toList == v.toList) = decide (x = v.data.toList) := by
    rw [ByteArray.toList_eq, ByteArray.toList_eq]
    by_cases h : x = v.data.toList <;> simp [h]
  have h := givesV v ⟨x.toArray⟩ B W hc
  rw [e] at h
  exact h
theorem del_own {w : World} {base n c B : Nat} {v : ByteArray} {g : Option Addr} {bs : List (List UInt8)} (h : w.ownsRow base 9 1 (.slice g n c) n (bs.map encStr)) (hB : B < base) (hw : B < w.heap.size) (hcell : w.cell? ⟨B, 0, none⟩ = some (.string v)) :
    Calls Tryz.prog 17 #[.slice g n c, .func (.func 18) #[] #[.pointer (some ⟨B, 0, none⟩)]] w fun e w' => e = .returned (.slice g (keepV v bs).length c) ∧ w'.ownsRow base 9 1 (.slice g (keepV v bs).length c) (keepV v bs).length ((keepV v bs).map encStr) ∧ w.grownBy w' (Value.slice g n c).ownBlock := by
  have hl : bs.length = n := by have := h.1; simpa using this
  subst hl
  have hle : (keepV v bs).length ≤ bs.length := List.length_filter_le _ _
  by_cases hn : 0 < bs.length
  · rcases h.2 with ⟨hnil, _⟩ | ⟨g', cap, cur, hv, hbase, hb, h1, h2, h3, h4⟩
    · injection hnil with e1 e2 e3; omega
    · injection hv with e1 e2 e3
      subst e1 e3
      have h4' : cur.toList.take bs.length = bs.map encStr := by simpa using h4
      have h2' := h2
      unfold maxLen at h2'
      have eg : ∀ args w, (callFunc 18 args).run Tryz.prog w = .ok (.enter 18 args) w := enters_of Tryz.func18 (by kernel_rfl) rfl
      have hcon := AnyE.slices_DeleteFunc Tryz.laysDelS encStr (fun _ => rfl) (fun x => decide (x = v.data.toList)) 18 #[.pointer (some ⟨B, 0, none⟩)] eg [] Tryz.zeroValue9 g' 0 c bs.toArray w
        (fun W x hb => givesV2 v x B W ((hb.cell (p := ⟨B, 0, none⟩) hw).trans hcell))
        (fun n os dk x _ => givesV2 v x B _ (by
          unfold sortWorld
          rw [cell?_grow _ _ _ (by show B < (putRow _ _ _ _ _).heap.size; rw [size_putRow]; exact hw), cell?_putRow_other _ _ g' 0 _ _ (Or.inl (show B ≠ g' by omega))]
          exact hcell))
        (holds_own hb h4') (by simp; omega) (by simpa using h1)
      have ek : (bs.toArray.toList.filter fun x => !decide (x = v.data.toList)) = keepV v bs := rfl
      rw [ek, List.size_toArray] at hcon
      refine hcon.mono ?_
      rintro e w' ⟨rfl, m, rfl⟩
      have ew : putRow encStr (Sort.ahead w m) g' 0 (keepV v bs ++ List.replicate (bs.length - (keepV v bs).length) []).toArray = sortWorld encStr w g' 0 m (keepV v bs ++ List.replicate (bs.length - (keepV v bs).length) []).toArray #[] := by unfold sortWorld; rw [grow_empty]
      rw [ew]
      have hll : (keepV v bs ++ List.replicate (bs.length - (keepV v bs).length) []).length = bs.length := by rw [List.length_append, List.length_replicate]; omega
      have hfull := own_sorted (n := m) (os := #[]) (enc := encStr) (k := bs.length) (ts := keepV v bs ++ List.replicate (bs.length - (keepV v bs).length) []) hll hbase hb h1 h2 h3
      refine ⟨rfl, ?_, grown_sorted _⟩
      have hp := own_prefix hfull hle
      rw [List.map_append, List.take_append_of_le_length (by rw [List.length_map]; exact Nat.le_refl _), List.take_of_length_le (by rw [List.length_map]; exact Nat.le_refl _)] at hp
      exact hp
  · have h0 : bs = [] := List.length_eq_zero_iff.1 (by omega)
    subst h0
    obtain ⟨g2, c2, e, hnl, _⟩ := NL_ownAny (zs := []) h rfl (fun _ hz => nomatch hz) (by simp)
    injection e with e1 e2 e3
    subst e1 e3
    have HI := Lib.hid (indexV_ok B v g _ c [] w hnl hcell)
    have HH := Lib.hid h
    clear h hnl hcell
    show Calls Tryz.prog 17 #[.slice g 0 c, .func (.func 18) #[] #[.pointer (some ⟨B, 0, none⟩)]] w _
    go_enter Tryz.func17, Tryz.ntmps17
    go_wp2_with (go_at_call 42; refine HI.out.mono ?_; rintro e w' ⟨⟨r, rfl, hr⟩, rfl⟩; obtain rfl : r = -1 := (hr.elim (fun h => h.1) (fun ⟨k, hk, _⟩ => absurd hk (Nat.not_lt_zero k))))
    go_ret
    exact ⟨rfl, HH.out, ⟨rfl, rfl, rfl, Nat.le_refl _, fun _ _ _ => rfl⟩⟩
end Go.Proofs.YteefncohknclcaaGreatDoor
namespace Go.Proofs.YteefncohknclcaaGreatDoor
open Go.RowKit Go.Shelf
def askAll : QT := .mk 2 ⟨#[]⟩ 0 none 0 []
theorem askAll_in (w : World) : QIn w askAll := QIn.of (by show 0 ≤ _; omega) (Nat.le_refl _) (by show 0 ≤ _; omega) trivial
theorem askAll_text : qE qpat (qabs askAll) = 0 ∧ qtx (qtxt (qabs askAll)) = ⟨#[42]⟩ := by
  refine ⟨by decide, ?_⟩
  rfl
set_option maxHeartbeats 4000000 in
set_option maxRecDepth 100000 in
theorem asks_ok (w : World) (hT : TxtTabs w) : Calls Tryz.prog 14 #[] w fun e w' => e = .returned (.bool true) ∧ Below w.heap.size w w' := by
  have HE : Hid (∀ u : World, Below w.heap.size w u → Calls Tryz.prog 38 #[.agg #[.int .i64 2, .string ⟨#[]⟩, .int .i64 0, .slice none 0 0]] u fun e w' => e = .returned (.tuple #[.string ⟨#[42]⟩, .int .i64 0]) ∧ Below u.heap.size u w') := by
    show ∀ u : World, _
    intro u hu
    refine (TextA_ok askAll u (askAll_in u) (hT.below hu) (by decide)).mono ?_
    rintro e w' ⟨h, hb⟩
    refine ⟨?_, hb⟩
    rw [h, askAll_text.1, if_pos rfl, askAll_text.2]
  clear hT
  go_enter Tryz.func14, Tryz.ntmps14
  go_wp2_with (go_at_call 38; refine (HE.out _ (by first | exact Below.refl _ _ | exact (Below.refl _ _).drew)).mono ?_; rintro e w3 ⟨rfl, hb⟩)
  go_ret
  exact ⟨rfl, hb⟩
end Go.Proofs.YteefncohknclcaaGreatDoor
namespace Go.Proofs.YteefncohknclcaaGreatDoor
open Go.RowKit Go.Shelf
/-- a list of two that was laid anew -/
def NewTwo (t' : QT) (n : Nat) (t : QT) (w0 w w' : World) : Prop :=
  ∃ (k : Int) (nb : Nat) (a b : QT), t' = .mk k ⟨#[]⟩ 0 (some ⟨nb, 0, none⟩) 2 [a, b] ∧ QIn w0 a ∧ QIn w0 b ∧ w.heap.size ≤ nb ∧
    w'.heap[nb]? = some (.cells #[.int .i64 a.kind, .string a.name, .int .i64 a.num, .slice a.p a.xs.length a.cap, .int .i64 b.kind, .string b.name, .int .i64 b.num, .slice b.p b.xs.length b.cap] 29 (0, 0)) ∧ (QOw w0 n t → QOw w0 n a ∧ QOw w0 n b)
/-- what a rule answers: an ask out of those that lay there, or of two of them, and whether a rule fitted -/
def RulePost (t : QT) (n : Nat) (q : QA × Bool) (w0 w : World) (e : Ending) (w' : World) : Prop :=
  (∃ t' : QT, e = .returned (.tuple #[t'.v, .bool q.2]) ∧ qabs t' = q.1 ∧ ((QIn w0 t' ∧ (QOw w0 n t → QOw w0 n t')) ∨ NewTwo t' n t w0 w w')) ∧ Below w.heap.size w w'
theorem rule_out {w0 w u : World} {t t' : QT} {n : Nat} {q : QA × Bool} {b : Bool} (hb : Below w.heap.size w u) (h1 : q = (qabs t', b)) (h3 : QIn w0 t') (h4 : QOw w0 n t → QOw w0 n t') : RulePost t n q w0 w (.returned (.tuple #[t'.v, .bool b])) u := by
  subst h1
  exact ⟨⟨t', rfl, rfl, .inl ⟨h3, h4⟩⟩, hb⟩
theorem rule_new {w0 w u : World} {t t' : QT} {n : Nat} {q : QA × Bool} {b : Bool} (hb : Below w.heap.size w u) (h1 : q = (qabs t', b)) (h : NewTwo t' n t w0 w u) : RulePost t n q w0 w (.returned (.tuple #[t'.v, .bool b])) u := by
  subst h1
  exact ⟨⟨t', rfl, rfl, .inr h⟩, hb⟩
/-- behind a rule, where what lay there and the new list stay -/
theorem NewTwo.there {t' : QT} {n : Nat} {t : QT} {w0 w w' u : World} (h : NewTwo t' n t w0 w w') (hu : Below w0.heap.size w0 u) (hs : w'.heap.size ≤ u.heap.size) (hk : ∀ b, w.heap.size ≤ b → b < w'.heap.size → u.heap[b]? = w'.heap[b]?) :
    QIn u t' ∧ (n ≤ w.heap.size → QOw w0 n t → QOw u n t') := by
  obtain ⟨k, nb, a, b, rfl, ha, hb, hnb, hh, ho⟩ := h
  have hlt := (Array.getElem?_eq_some_iff.1 hh).1
  have hh2 := (hk nb hnb hlt).trans hh
  have hc : ∀ i v, #[Value.int .i64 a.kind, .string a.name, .int .i64 a.num, .slice a.p a.xs.length a.cap, .int .i64 b.kind, .string b.name, .int .i64 b.num, .slice b.p b.xs.length b.cap][i]? = some v → u.cell? ⟨nb, i, none⟩ = some v := by
    intro i v hv
    simp only [World.cell?, hh2]
    exact hv
  refine ⟨QIn.of (by show 0 ≤ _; omega) (by show 2 ≤ 2; omega) (by show 2 ≤ _; omega) (QsIn.mk fun j x hx => ?_), fun hn h => ?_⟩
  · match j, hx with
    | 0, hx =>
      have hx : some a = some x := hx
      injection hx with hx
      subst hx
      exact ⟨⟨nb, 0, rfl, by omega, hc 0 _ rfl, hc 1 _ rfl, hc 2 _ rfl, hc 3 _ rfl⟩, ha.below hu⟩
    | 1, hx =>
      have hx : some b = some x := hx
      injection hx with hx
      subst hx
      exact ⟨⟨nb, 0, rfl, by omega, hc 4 _ rfl, hc 5 _ rfl, hc 6 _ rfl, hc 7 _ rfl⟩, hb.below hu⟩
    | j + 2, hx => exact absurd hx (by show ([] : List QT)[j]? ≠ _; simp)
  · obtain ⟨h1, h2⟩ := ho h
    refine .mk (.inr ⟨nb, _, rfl, by omega, by omega, hh2, rfl, by decide⟩) fun x hx => ?_
    simp at hx
    rcases hx with rfl | rfl
    · exact h1.later hu
    · exact h2.later hu
theorem kid_one {w : World} {k : Int} {s : ByteArray} {n : Int} {p : Option Addr} {c : Nat} {y : QT} (h : QIn w (.mk k s n p c [y])) : ∃ b o, p = some ⟨b, o, none⟩ ∧ b < w.heap.size ∧ Four w b o y ∧ QIn w y := by
  obtain ⟨⟨b, o, h1, h2, h3⟩, h4⟩ := h.kids.at (j := 0) (x := y) rfl
  exact ⟨b, o, h1, h2, by simpa using h3, h4⟩
theorem ibeq {x y : Int} (h : x = y) : (x == y) = true := by rw [beq_iff_eq]; exact h
theorem ibne {x y : Int} (h : x ≠ y) : (x == y) = false := by rw [beq_eq_false_iff_ne]; exact h
set_option maxHeartbeats 8000000 in
set_option maxRecDepth 100000 in
theorem walks_ok (wh pt : Int) (hwp : (wh = 8 ∧ pt = 10) ∨ (wh = 9 ∧ pt = 11)) (k : Int) (hk : k = wh ∨ k = pt) (s : ByteArray) (n : Int) (p : Option Addr) (c : Nat) (y : QT) (w0 w : World) (hw0 : Below w0.heap.size w0 w) (m : Nat) (hq : QIn w0 (.mk k s n p c [y])) (hch : qchk qpat (qabs (.mk k s n p c [y])) = 0) :
    Calls Tryz.prog 85 #[(QT.mk k s n p c [y]).v, .int .i64 wh, .int .i64 pt] w (RulePost (.mk k s n p c [y]) m (qwalks wh pt k s.data.toList n (qabs y)) w0 w) := by
  obtain ⟨hnd, hys⟩ := qchk_zero.1 (show qchk qpat (.mk k s.data.toList n [qabs y]) = 0 from hch)
  have hcy := hys (qabs y) (by simp)
  obtain ⟨b, o, rfl, hb0, hf0, hqy⟩ := kid_one hq
  have hb : b < w.heap.size := Nat.lt_of_lt_of_le hb0 hw0.size
  have hf := hf0.below hw0 hb0
  have HQ := Lib.hid hq
  have HQY := Lib.hid hqy
  have hn : 0 ≤ n ∧ n ≤ 100 := by rcases node_cases hnd with h | h | h | h | h | h | h | h | h | h <;> omega
  obtain ⟨ky, sy, ny, py, cy, ys⟩ := y
  have hyn : ky = pt → 0 ≤ ny ∧ ny ≤ 100 := by
    intro e
    have hnd2 := (qchk_zero.1 (show qchk qpat (.mk ky sy.data.toList ny (qabss ys)) = 0 from hcy)).1
    rcases node_cases hnd2 with h | h | h | h | h | h | h | h | h | h <;> omega
  obtain ⟨W, hW, hBW, hS, hC⟩ := arg2r w (.int .i64 k) (.string s) (.int .i64 n) (.slice (some ⟨b, o, none⟩) 1 c)
  have HC := Lib.hid hC
  have HBW := Lib.hid hBW
  obtain ⟨B0, B1⟩ := HC.out W (Below.refl _ _)
  obtain ⟨k0, k1, k2, k3, _⟩ := box4Q B0
  obtain ⟨c0, c1, c2, c3⟩ : W.cell? ⟨b, o, none⟩ = some (.int .i64 ky) ∧ W.cell? ⟨b, o + 1, none⟩ = some (.string sy) ∧ W.cell? ⟨b, o + 2, none⟩ = some (.int .i64 ny) ∧ W.cell? ⟨b, o + 3, none⟩ = some (.slice py ys.length cy) := hf.below hBW hb
  obtain ⟨V, hV⟩ : ∃ V : World, V = W.alloc (.cells #[.int .i64 ky, .string sy, .int .i64 ny, .slice py ys.length cy] 29) := ⟨_, rfl⟩
  have hBV : Below W.heap.size W V := by rw [hV]; exact (Below.refl _ _).alloc (Nat.le_refl _) _
  have HBV := Lib.hid (HBW.out.trans (hBV.mono HBW.out.size))
  obtain ⟨B2, B3⟩ := HC.out V hBV
  have HB3 := Lib.hid B3
  obtain ⟨v0, v1, v2, v3, _⟩ := box4Q B2
  have B4 : V.heap[w.heap.size + 1 + 1]? = some (.cells #[.int .i64 ky, .string sy, .int .i64 ny, .slice py ys.length cy] 29 (0, 0)) := by
    have := hanQ W (.cells #[.int .i64 ky, .string sy, .int .i64 ny, .slice py ys.length cy] 29)
    rw [hS, ← hV] at this
    exact this
  obtain ⟨y0, y1, y2, y3, _⟩ := box4Q B4
  obtain ⟨r0, r1, r2, r3, r4⟩ := box4Q B3
  show Calls Tryz.prog 85 #[.agg #[.int .i64 k, .string s, .int .i64 n, .slice (some ⟨b, o, none⟩) 1 c], .int .i64 wh, .int .i64 pt] w _
  have hQ : qwalks wh pt k s.data.toList n (qabs (.mk ky sy ny py cy ys)) =
      if k = pt ∧ n = 0 then (qabs (.mk ky sy ny py cy ys), true) else if ky = 2 then (qabs (.mk ky sy ny py cy ys), true)
      else if k = wh ∧ (ky = wh ∨ ky = pt) then (.mk wh [] 0 (qabss ys), true) else if ky = wh then (qabs (.mk ky sy ny py cy ys), true)
      else if ky = pt ∧ n + ny ≤ 100 then (.mk pt [] (n + ny) (qabss ys), true) else (.mk k s.data.toList n [qabs (.mk ky sy ny py cy ys)], false) := rfl
  have HEND : Hid (∀ (t' : QT) (B : Bool), qwalks wh pt k s.data.toList n (qabs (.mk ky sy ny py cy ys)) = (qabs t', B) → QIn w0 t' → (QOw w0 m (.mk k s n (some ⟨b, o, none⟩) c [.mk ky sy ny py cy ys]) → QOw w0 m t') →
      RulePost (.mk k s n (some ⟨b, o, none⟩) c [.mk ky sy ny py cy ys]) m (qwalks wh pt k s.data.toList n (qabs (.mk ky sy ny py cy ys))) w0 w (.returned (.tuple #[t'.v, .bool B]))
        ((((V.setCell ⟨w.heap.size + 1, 0, none⟩ (.int .i64 t'.kind)).setCell ⟨w.heap.size + 1, 1, none⟩ (.string t'.name)).setCell ⟨w.heap.size + 1, 2, none⟩ (.int .i64 t'.num)).setCell ⟨w.heap.size + 1, 3, none⟩ (.slice t'.p t'.xs.length t'.cap))) := by
    show ∀ (t' : QT) (B : Bool), _
    intro t' B h1 h2 h3
    exact rule_out (below_set4Q HBV.out (Nat.le_succ _) _ _ _ _) h1 h2 h3
  have HY : Hid (QOw w0 m (.mk k s n (some ⟨b, o, none⟩) c [.mk ky sy ny py cy ys]) → QOw w0 m (.mk ky sy ny py cy ys)) := fun h => h.kids _ (show _ ∈ [_] by simp)
  have HX : Hid (∀ (k' n' : Int), QIn w0 (.mk k' ⟨#[]⟩ n' py cy ys) ∧ (QOw w0 m (.mk k s n (some ⟨b, o, none⟩) c [.mk ky sy ny py cy ys]) → QOw w0 m (.mk k' ⟨#[]⟩ n' py cy ys))) := by
    show ∀ k' n' : Int, _
    intro k' n'
    have h1 := HQY.out
    refine ⟨QIn.of (by show 0 ≤ _; omega) h1.small.2.1 h1.small.2.2 h1.kids, fun h => ?_⟩
    have h2 := HY.out h
    exact QOw.of h2.place h2.kids
  go_enter Tryz.func85, Tryz.ntmps85
  rw [hW] at k0 k1 k2 k3 c0 c1 c2 c3
  go_upto_region 2 with fail
  rw [← hW, ← hV]
  clear hW hV hq hch hnd hys hcy hqy hf hf0 hb hb0 hBW hC B0 B1 B2 B3 B4 hBV k0 k1 k2 k3 c0 c1 c2 c3 hS HBV HBW HC
  by_cases g1 : k = pt
  · have e1 := ibeq g1
    by_cases g2 : n = 0
    · have e2 := ibeq g2
      have HQE : Hid (qwalks wh pt k s.data.toList n (qabs (.mk ky sy ny py cy ys)) = (qabs (QT.mk ky sy ny py cy ys), true)) := by show _ = _; rw [hQ, if_pos ⟨g1, g2⟩]; try rfl
      clear hQ g1 g2
      go_wp2
      refine bodyPost_ret (v := .tuple #[(QT.mk ky sy ny py cy ys).v, .bool true]) (results_ctQ Tryz.results85 _ _ (w.heap.size + 1) 29 _ (0, 0) _ _ rfl rfl (box4Q_all HB3.out _ _ _ _) Tryz.underlying29 rfl (by kernel_rfl)) rfl (HEND.out (QT.mk ky sy ny py cy ys) true HQE.out (HQY.out) (HY.out))
    have e2 := ibne g2
    have gk : ¬ k = wh := by omega
    have e3 := ibne gk
    by_cases g3 : ky = 2
    · have e4 := ibeq g3
      have HQE : Hid (qwalks wh pt k s.data.toList n (qabs (.mk ky sy ny py cy ys)) = (qabs (QT.mk ky sy ny py cy ys), true)) := by show _ = _; rw [hQ, if_neg (fun h => g2 h.2), if_pos g3]; try rfl
      clear hQ g1 g2 gk g3
      go_wp2
      refine bodyPost_ret (v := .tuple #[(QT.mk ky sy ny py cy ys).v, .bool true]) (results_ctQ Tryz.results85 _ _ (w.heap.size + 1) 29 _ (0, 0) _ _ rfl rfl (box4Q_all HB3.out _ _ _ _) Tryz.underlying29 rfl (by kernel_rfl)) rfl (HEND.out (QT.mk ky sy ny py cy ys) true HQE.out (HQY.out) (HY.out))
    have e4 := ibne g3
    by_cases g4 : ky = wh
    · have e5 := ibeq g4
      have HQE : Hid (qwalks wh pt k s.data.toList n (qabs (.mk ky sy ny py cy ys)) = (qabs (QT.mk ky sy ny py cy ys), true)) := by show _ = _; rw [hQ, if_neg (fun h => g2 h.2), if_neg g3, if_neg (fun h => gk h.1), if_pos g4]; try rfl
      clear hQ g1 g2 gk g3 g4
      go_wp2
      refine bodyPost_ret (v := .tuple #[(QT.mk ky sy ny py cy ys).v, .bool true]) (results_ctQ Tryz.results85 _ _ (w.heap.size + 1) 29 _ (0, 0) _ _ rfl rfl (box4Q_all HB3.out _ _ _ _) Tryz.underlying29 rfl (by kernel_rfl)) rfl (HEND.out (QT.mk ky sy ny py cy ys) true HQE.out (HQY.out) (HY.out))
    have e5 := ibne g4
    by_cases g5 : ky = pt
    · have e6 := ibeq g5
      obtain ⟨l1, l2⟩ := hyn g5
      by_cases g6 : n + ny ≤ 100
      · have hw6 : True := trivial
        have HQE : Hid (qwalks wh pt k s.data.toList n (qabs (.mk ky sy ny py cy ys)) = (qabs (QT.mk pt ⟨#[]⟩ (n + ny) py cy ys), true)) := by show _ = _; rw [hQ, if_neg (fun h => g2 h.2), if_neg g3, if_neg (fun h => gk h.1), if_neg g4, if_pos ⟨g5, g6⟩]; try rfl
        clear hQ g1 g2 gk g3 g4 g5
        go_wp2
        refine bodyPost_ret (v := .tuple #[(QT.mk pt ⟨#[]⟩ (n + ny) py cy ys).v, .bool true]) (results_ctQ Tryz.results85 _ _ (w.heap.size + 1) 29 _ (0, 0) _ _ rfl rfl (box4Q_all HB3.out _ _ _ _) Tryz.underlying29 rfl (by kernel_rfl)) rfl (HEND.out (QT.mk pt ⟨#[]⟩ (n + ny) py cy ys) true HQE.out ((HX.out pt (n + ny)).1) ((HX.out pt (n + ny)).2))
      · have hw6 : True := trivial
        have HQE : Hid (qwalks wh pt k s.data.toList n (qabs (.mk ky sy ny py cy ys)) = (qabs (QT.mk k s n (some ⟨b, o, none⟩) c [QT.mk ky sy ny py cy ys]), false)) := by show _ = _; rw [hQ, if_neg (fun h => g2 h.2), if_neg g3, if_neg (fun h => gk h.1), if_neg g4, if_neg (fun h => g6 h.2)]; try rfl
        clear hQ g1 g2 gk g3 g4 g5
        go_wp2
        refine bodyPost_ret (v := .tuple #[(QT.mk k s n (some ⟨b, o, none⟩) c [QT.mk ky sy ny py cy ys]).v, .bool false]) (results_ctQ Tryz.results85 _ _ (w.heap.size + 1) 29 _ (0, 0) _ _ rfl rfl (box4Q_all HB3.out _ _ _ _) Tryz.underlying29 rfl (by kernel_rfl)) rfl (HEND.out (QT.mk k s n (some ⟨b, o, none⟩) c [QT.mk ky sy ny py cy ys]) false HQE.out (HQ.out) (id))
    · have e6 := ibne g5
      have HQE : Hid (qwalks wh pt k s.data.toList n (qabs (.mk ky sy ny py cy ys)) = (qabs (QT.mk k s n (some ⟨b, o, none⟩) c [QT.mk ky sy ny py cy ys]), false)) := by show _ = _; rw [hQ, if_neg (fun h => g2 h.2), if_neg g3, if_neg (fun h => gk h.1), if_neg g4, if_neg (fun h => g5 h.1)]; try rfl
      clear hQ g1 g2 gk g3 g4 g5
      go_wp2
      refine bodyPost_ret (v := .tuple #[(QT.mk k s n (some ⟨b, o, none⟩) c [QT.mk ky sy ny py cy ys]).v, .bool false]) (results_ctQ Tryz.results85 _ _ (w.heap.size + 1) 29 _ (0, 0) _ _ rfl rfl (box4Q_all HB3.out _ _ _ _) Tryz.underlying29 rfl (by kernel_rfl)) rfl (HEND.out (QT.mk k s n (some ⟨b, o, none⟩) c [QT.mk ky sy ny py cy ys]) false HQE.out (HQ.out) (id))
  · have e1 := ibne g1
    have gk : k = wh := by omega
    have e3 := ibeq gk
    by_cases g3 : ky = 2
    · have e4 := ibeq g3
      have HQE : Hid (qwalks wh pt k s.data.toList n (qabs (.mk ky sy ny py cy ys)) = (qabs (QT.mk ky sy ny py cy ys), true)) := by show _ = _; rw [hQ, if_neg (fun h => g1 h.1), if_pos g3]; try rfl
      clear hQ g1 gk g3
      go_wp2
      refine bodyPost_ret (v := .tuple #[(QT.mk ky sy ny py cy ys).v, .bool true]) (results_ctQ Tryz.results85 _ _ (w.heap.size + 1) 29 _ (0, 0) _ _ rfl rfl (box4Q_all HB3.out _ _ _ _) Tryz.underlying29 rfl (by kernel_rfl)) rfl (HEND.out (QT.mk ky sy ny py cy ys) true HQE.out (HQY.out) (HY.out))
    have e4 := ibne g3
    by_cases g4 : ky = wh
    · have e5 := ibeq g4
      have HQE : Hid (qwalks wh pt k s.data.toList n (qabs (.mk ky sy ny py cy ys)) = (qabs (QT.mk wh ⟨#[]⟩ 0 py cy ys), true)) := by show _ = _; rw [hQ, if_neg (fun h => g1 h.1), if_neg g3, if_pos ⟨gk, .inl g4⟩]; try rfl
      clear hQ g1 gk g3 g4
      go_wp2
      refine bodyPost_ret (v := .tuple #[(QT.mk wh ⟨#[]⟩ 0 py cy ys).v, .bool true]) (results_ctQ Tryz.results85 _ _ (w.heap.size + 1) 29 _ (0, 0) _ _ rfl rfl (box4Q_all HB3.out _ _ _ _) Tryz.underlying29 rfl (by kernel_rfl)) rfl (HEND.out (QT.mk wh ⟨#[]⟩ 0 py cy ys) true HQE.out ((HX.out wh 0).1) ((HX.out wh 0).2))
    have e5 := ibne g4
    by_cases g5 : ky = pt
    · have e6 := ibeq g5
      have HQE : Hid (qwalks wh pt k s.data.toList n (qabs (.mk ky sy ny py cy ys)) = (qabs (QT.mk wh ⟨#[]⟩ 0 py cy ys), true)) := by show _ = _; rw [hQ, if_neg (fun h => g1 h.1), if_neg g3, if_pos ⟨gk, .inr g5⟩]; try rfl
      clear hQ g1 gk g3 g4 g5
      go_wp2
      refine bodyPost_ret (v := .tuple #[(QT.mk wh ⟨#[]⟩ 0 py cy ys).v, .bool true]) (results_ctQ Tryz.results85 _ _ (w.heap.size + 1) 29 _ (0, 0) _ _ rfl rfl (box4Q_all HB3.out _ _ _ _) Tryz.underlying29 rfl (by kernel_rfl)) rfl (HEND.out (QT.mk wh ⟨#[]⟩ 0 py cy ys) true HQE.out ((HX.out wh 0).1) ((HX.out wh 0).2))
    · have e6 := ibne g5
      have HQE : Hid (qwalks wh pt k s.data.toList n (qabs (.mk ky sy ny py cy ys)) = (qabs (QT.mk k s n (some ⟨b, o, none⟩) c [QT.mk ky sy ny py cy ys]), false)) := by show _ = _; rw [hQ, if_neg (fun h => g1 h.1), if_neg g3, if_neg (fun h => h.2.elim g4 g5), if_neg g4, if_neg (fun h => g5 h.1)]; try rfl
      clear hQ g1 gk g3 g4 g5
      go_wp2
      refine bodyPost_ret (v := .tuple #[(QT.mk k s n (some ⟨b, o, none⟩) c [QT.mk ky sy ny py cy ys]).v, .bool false]) (results_ctQ Tryz.results85 _ _ (w.heap.size + 1) 29 _ (0, 0) _ _ rfl rfl (box4Q_all HB3.out _ _ _ _) Tryz.underlying29 rfl (by kernel_rfl)) rfl (HEND.out (QT.mk k s n (some ⟨b, o, none⟩) c [QT.mk ky sy ny py cy ys]) false HQE.out (HQ.out) (id))
end Go.Proofs.YteefncohknclcaaGreatDoor
namespace Go.Proofs.YteefncohknclcaaGreatDoor
open Go.RowKit Go.Shelf
theorem arg3r (w : World) (v0 v1 v2 v3 u0 u1 u2 u3 : Value) : ∃ W, W = ((w.alloc (.cells #[v0, v1, v2, v3] 29)).alloc (.cells #[u0, u1, u2, u3] 29)).alloc (.cells #[.int .i64 0, .string ⟨#[]⟩, .int .i64 0, .slice none 0 0] 29) ∧ Below w.heap.size w W ∧ W.heap.size = w.heap.size + 3 ∧
    ∀ u : World, Below W.heap.size W u → u.heap[w.heap.size]? = some (.cells #[v0, v1, v2, v3] 29 (0, 0)) ∧ u.heap[w.heap.size + 1]? = some (.cells #[u0, u1, u2, u3] 29 (0, 0)) ∧ u.heap[w.heap.size + 2]? = some (.cells #[.int .i64 0, .string ⟨#[]⟩, .int .i64 0, .slice none 0 0] 29 (0, 0)) := by
  obtain ⟨A, hA⟩ : ∃ A, A = w.alloc (.cells #[v0, v1, v2, v3] 29) := ⟨_, rfl⟩
  obtain ⟨B, hB⟩ : ∃ B, B = A.alloc (.cells #[u0, u1, u2, u3] 29) := ⟨_, rfl⟩
  obtain ⟨W, hW⟩ : ∃ W, W = B.alloc (.cells #[.int .i64 0, .string ⟨#[]⟩, .int .i64 0, .slice none 0 0] 29) := ⟨_, rfl⟩
  have sA : A.heap.size = w.heap.size + 1 := by rw [hA]; simp
  have sB : B.heap.size = w.heap.size + 2 := by rw [hB]; simp; omega
  have hs : W.heap.size = w.heap.size + 3 := by rw [hW]; simp; omega
  refine ⟨W, by rw [hW, hB, hA], by rw [hW, hB, hA]; exact (((Below.refl _ _).alloc (Nat.le_refl _) _).alloc (by simp) _).alloc (by simp; omega) _, hs, fun u hu => ?_⟩
  rw [hu.block _ (by omega), hu.block _ (by omega), hu.block _ (by omega)]
  have e0 : A.heap[w.heap.size]? = some (.cells #[v0, v1, v2, v3] 29 (0, 0)) := by rw [hA]; exact hanQ w _
  have e1 : B.heap[w.heap.size + 1]? = some (.cells #[u0, u1, u2, u3] 29 (0, 0)) := by rw [hB, ← sA]; exact hanQ A _
  have e2 : W.heap[w.heap.size + 2]? = some (.cells #[.int .i64 0, .string ⟨#[]⟩, .int .i64 0, .slice none 0 0] 29 (0, 0)) := by rw [hW, ← sB]; exact hanQ B _
  refine ⟨?_, ?_, e2⟩
  · rw [hW, haoQ _ _ _ (by omega), hB, haoQ _ _ _ (by omega)]; exact e0
  · rw [hW, haoQ _ _ _ (by omega)]; exact e1
def TwoPost (k : Int) (x y : QT) (w : World) (e : Ending) (w' : World) : Prop := ∃ t : QT, e = .returned t.v ∧ qabs t = .mk k [] 0 [qabs x, qabs y] ∧ QIn w' t ∧ Below w.heap.size w w'
theorem two_fin (k : Int) {x y : QT} {w W u : World} (hx : QIn w x) (hy : QIn w y) (hBW : Below w.heap.size w W) (hS : W.heap.size = w.heap.size + 3)
    (hu : u = W.alloc (.cells #[.int .i64 x.kind, .string x.name, .int .i64 x.num, .slice x.p x.xs.length x.cap, .int .i64 y.kind, .string y.name, .int .i64 y.num, .slice y.p y.xs.length y.cap] 29)) (u0 u1 u2 u3 : Value) :
    TwoPost k x y w (.returned (QT.mk k ⟨#[]⟩ 0 (some ⟨W.heap.size, 0, none⟩) 2 [x, y]).v) ((((u.setCell ⟨w.heap.size + 2, 0, none⟩ u0).setCell ⟨w.heap.size + 2, 1, none⟩ u1).setCell ⟨w.heap.size + 2, 2, none⟩ u2).setCell ⟨w.heap.size + 2, 3, none⟩ u3) := by
  have hBu : Below w.heap.size w u := by rw [hu]; exact hBW.alloc hBW.size _
  have hB := below_set4Q (b := w.heap.size + 2) hBu (by omega) u0 u1 u2 u3
  have hh : u.heap[W.heap.size]? = some (.cells #[.int .i64 x.kind, .string x.name, .int .i64 x.num, .slice x.p x.xs.length x.cap, .int .i64 y.kind, .string y.name, .int .i64 y.num, .slice y.p y.xs.length y.cap] 29 (0, 0)) := by rw [hu]; exact hanQ W _
  have hh2 := (set4Q_other u (w.heap.size + 2) W.heap.size u0 u1 u2 u3 (by omega)).trans hh
  generalize ((((u.setCell ⟨w.heap.size + 2, 0, none⟩ u0).setCell ⟨w.heap.size + 2, 1, none⟩ u1).setCell ⟨w.heap.size + 2, 2, none⟩ u2).setCell ⟨w.heap.size + 2, 3, none⟩ u3) = z at hB hh2 ⊢
  have hlt := (Array.getElem?_eq_some_iff.1 hh2).1
  have hc : ∀ i v, #[Value.int .i64 x.kind, .string x.name, .int .i64 x.num, .slice x.p x.xs.length x.cap, .int .i64 y.kind, .string y.name, .int .i64 y.num, .slice y.p y.xs.length y.cap][i]? = some v → z.cell? ⟨W.heap.size, i, none⟩ = some v := by
    intro i v hv
    simp only [World.cell?, hh2]
    exact hv
  refine ⟨_, rfl, rfl, QIn.of (by show 0 ≤ _; omega) (by show 2 ≤ 2; omega) (by show 2 ≤ _; omega) (QsIn.mk fun j q hq => ?_), hB⟩
  match j, hq with
  | 0, hq =>
    have hq : some x = some q := hq
    injection hq with hq
    subst hq
    exact ⟨⟨W.heap.size, 0, rfl, hlt, hc 0 _ rfl, hc 1 _ rfl, hc 2 _ rfl, hc 3 _ rfl⟩, hx.below hB⟩
  | 1, hq =>
    have hq : some y = some q := hq
    injection hq with hq
    subst hq
    exact ⟨⟨W.heap.size, 0, rfl, hlt, hc 4 _ rfl, hc 5 _ rfl, hc 6 _ rfl, hc 7 _ rfl⟩, hy.below hB⟩
  | j + 2, hq => exact absurd hq (by show ([] : List QT)[j]? ≠ _; simp)
set_option maxHeartbeats 4000000 in
set_option maxRecDepth 100000 in
theorem twoL_ok (k : Int) (x y : QT) (w : World) (hx : QIn w x) (hy : QIn w y) : Calls Tryz.prog 25 #[.int .i64 k, x.v, y.v] w (TwoPost k x y w) := by
  obtain ⟨kx, sx, nx, px, cx, xs⟩ := x
  obtain ⟨ky, sy, ny, py, cy, ys⟩ := y
  obtain ⟨W, hW, hBW, hS, hC⟩ := arg3r w (.int .i64 kx) (.string sx) (.int .i64 nx) (.slice px xs.length cx) (.int .i64 ky) (.string sy) (.int .i64 ny) (.slice py ys.length cy)
  have HC := Lib.hid hC
  have HF := Lib.hid (fun u hu => two_fin (u := u) k hx hy hBW hS hu)
  have HS := Lib.hid hS
  obtain ⟨B0, B1, B2⟩ := HC.out W (Below.refl _ _)
  obtain ⟨k0, k1, k2, k3, _⟩ := box4Q B0
  obtain ⟨m0, m1, m2, m3, _⟩ := box4Q B1
  have HAL : Hid (∀ o, (W.alloc o).heap[w.heap.size + 2]? = some (.cells #[.int .i64 0, .string ⟨#[]⟩, .int .i64 0, .slice none 0 0] 29 (0, 0))) := by
    show ∀ o, _
    intro o
    rw [haoQ _ _ _ (by omega)]
    exact B2
  obtain ⟨r0, r1, r2, r3, r4⟩ := box4Q (HAL.out (.cells #[.int .i64 kx, .string sx, .int .i64 nx, .slice px xs.length cx, .int .i64 ky, .string sy, .int .i64 ny, .slice py ys.length cy] 29))
  show Calls Tryz.prog 25 #[.int .i64 k, .agg #[.int .i64 kx, .string sx, .int .i64 nx, .slice px xs.length cx], .agg #[.int .i64 ky, .string sy, .int .i64 ny, .slice py ys.length cy]] w _
  clear hx hy hBW hS hC B0 B1 B2
  go_enter Tryz.func25, Tryz.ntmps25
  go_upto_region 1 with fail
  rw [← hW]
  clear hW
  go_wp2_with fail
  refine bodyPost_ret (v := (QT.mk k ⟨#[]⟩ 0 (some ⟨W.heap.size, 0, none⟩) 2 [.mk kx sx nx px cx xs, .mk ky sy ny py cy ys]).v) (results_cell_row Tryz.results25 _ _ (w.heap.size + 2) 29 _ (0, 0) _ rfl (box4Q_all (HAL.out _) _ _ _ _) Tryz.underlying29 rfl (by kernel_rfl)) rfl (HF.out _ rfl _ _ _ _)
end Go.Proofs.YteefncohknclcaaGreatDoor
namespace Go.Proofs.YteefncohknclcaaGreatDoor
open Go.RowKit Go.Shelf
def OnePost (k : Int) (x : QT) (w : World) (e : Ending) (w' : World) : Prop := ∃ t : QT, e = .returned t.v ∧ qabs t = .mk k [] 0 [qabs x] ∧ QIn w' t ∧ Below w.heap.size w w'
/-- an ask of one, in a block that was laid -/
theorem one_fin (k : Int) (s : ByteArray) (n : Int) (hs : s.size ≤ 1048576) {x : QT} {w W u : World} (hx : QIn w x) (hBW : Below w.heap.size w W) {r : Nat} (hr : w.heap.size ≤ r) (hrW : r < W.heap.size)
    (hu : u = W.alloc (.cells #[.int .i64 x.kind, .string x.name, .int .i64 x.num, .slice x.p x.xs.length x.cap] 29)) (u0 u1 u2 u3 : Value) :
    ∃ t : QT, t.v = (QT.mk k s n (some ⟨W.heap.size, 0, none⟩) 1 [x]).v ∧ qabs t = .mk k s.data.toList n [qabs x] ∧ QIn ((((u.setCell ⟨r, 0, none⟩ u0).setCell ⟨r, 1, none⟩ u1).setCell ⟨r, 2, none⟩ u2).setCell ⟨r, 3, none⟩ u3) t ∧ Below w.heap.size w ((((u.setCell ⟨r, 0, none⟩ u0).setCell ⟨r, 1, none⟩ u1).setCell ⟨r, 2, none⟩ u2).setCell ⟨r, 3, none⟩ u3) := by
  have hBu : Below w.heap.size w u := by rw [hu]; exact hBW.alloc hBW.size _
  have hB := below_set4Q (b := r) hBu hr u0 u1 u2 u3
  have hh : u.heap[W.heap.size]? = some (.cells #[.int .i64 x.kind, .string x.name, .int .i64 x.num, .slice x.p x.xs.length x.cap] 29 (0, 0)) := by rw [hu]; exact hanQ W _
  have hh2 := (set4Q_other u r W.heap.size u0 u1 u2 u3 (by omega)).trans hh
  generalize ((((u.setCell ⟨r, 0, none⟩ u0).setCell ⟨r, 1, none⟩ u1).setCell ⟨r, 2, none⟩ u2).setCell ⟨r, 3, none⟩ u3) = z at hB hh2 ⊢
  have hlt := (Array.getElem?_eq_some_iff.1 hh2).1
  have hc : ∀ i v, #[Value.int .i64 x.kind, .string x.name, .int .i64 x.num, .slice x.p x.xs.length x.cap][i]? = some v → z.cell? ⟨W.heap.size, i, none⟩ = some v := by
    intro i v hv
    simp only [World.cell?, hh2]
    exact hv
  refine ⟨.mk k s n (some ⟨W.heap.size, 0, none⟩) 1 [x], rfl, rfl, QIn.of hs (by show 1 ≤ 1; omega) (by show 1 ≤ _; omega) (QsIn.mk fun j q hq => ?_), hB⟩
  match j, hq with
  | 0, hq =>
    have hq : some x = some q := hq
    injection hq with hq
    subst hq
    exact ⟨⟨W.heap.size, 0, rfl, hlt, hc 0 _ rfl, hc 1 _ rfl, hc 2 _ rfl, hc 3 _ rfl⟩, hx.below hB⟩
  | j + 1, hq => exact absurd hq (by show ([] : List QT)[j]? ≠ _; simp)
set_option maxHeartbeats 4000000 in
set_option maxRecDepth 100000 in
theorem oneL_ok (k : Int) (x : QT) (w : World) (hx : QIn w x) : Calls Tryz.prog 26 #[.int .i64 k, x.v] w (OnePost k x w) := by
  obtain ⟨W, hW, hBW, hS, hC⟩ := arg2r w (.int .i64 x.kind) (.string x.name) (.int .i64 x.num) (.slice x.p x.xs.length x.cap)
  have HC := Lib.hid hC
  have HF := Lib.hid (fun u hu => one_fin (u := u) k ⟨#[]⟩ 0 (by show 0 ≤ _; omega) hx hBW (r := w.heap.size + 1) (by omega) (by omega) hu)
  obtain ⟨B0, B1⟩ := HC.out W (Below.refl _ _)
  obtain ⟨k0, k1, k2, k3, _⟩ := box4Q B0
  have HAL : Hid (∀ o, (W.alloc o).heap[w.heap.size + 1]? = some (.cells #[.int .i64 0, .string ⟨#[]⟩, .int .i64 0, .slice none 0 0] 29 (0, 0))) := by
    show ∀ o, _
    intro o
    rw [haoQ _ _ _ (by omega)]
    exact B1
  obtain ⟨r0, r1, r2, r3, r4⟩ := box4Q (HAL.out (.cells #[.int .i64 x.kind, .string x.name, .int .i64 x.num, .slice x.p x.xs.length x.cap] 29))
  show Calls Tryz.prog 26 #[.int .i64 k, .agg #[.int .i64 x.kind, .string x.name, .int .i64 x.num, .slice x.p x.xs.length x.cap]] w _
  clear hx hBW hS hC B0 B1
  go_enter Tryz.func26, Tryz.ntmps26
  go_upto_region 1 with fail
  rw [← hW]
  clear hW
  go_wp2_with fail
  refine bodyPost_ret (v := (QT.mk k ⟨#[]⟩ 0 (some ⟨W.heap.size, 0, none⟩) 1 [x]).v) (results_cell_row Tryz.results26 _ _ (w.heap.size + 1) 29 _ (0, 0) _ rfl (box4Q_all (HAL.out _) _ _ _ _) Tryz.underlying29 rfl (by kernel_rfl)) rfl ?_
  obtain ⟨t, h1, h2, h3, h4⟩ := HF.out _ rfl (.int .i64 k) (.string ⟨#[]⟩) (.int .i64 0) (.slice (some ⟨W.heap.size, 0, none⟩) 1 1)
  exact ⟨t, by rw [h1], h2, h3, h4⟩
/-- a list of asks that was laid -/
theorem qs_list (w : World) (l : List QT) (h : ∀ x ∈ l, QIn w x) : QsIn (w.alloc (.cells (asksC l).toArray 29)) (some ⟨w.heap.size, 0, none⟩) 0 l := by
  have hb : Below w.heap.size w (w.alloc (.cells (asksC l).toArray 29)) := (Below.refl _ _).alloc (Nat.le_refl _) _
  refine QsIn.mk fun j x hx => ⟨⟨w.heap.size, 0, rfl, by simp, ?_⟩, (h x (List.mem_of_getElem? hx)).below hb⟩
  have hc : ∀ i, i < 4 → (w.alloc (.cells (asksC l).toArray 29)).cell? ⟨w.heap.size, j * 4 + i, none⟩ = (askC x)[i]? := fun i hi => by
    rw [World.cell?_alloc_at _ _ _ _ rfl, ← asksC_at hx i hi]
    simp
  rw [show 0 + 4 * (0 + j) = j * 4 by omega]
  exact ⟨hc 0 (by omega), hc 1 (by omega), hc 2 (by omega), hc 3 (by omega)⟩
/-- the cells of a list of sets of the call's own -/
theorem own_sets {w : World} {base n c : Nat} {q : Option Addr} {L : List B} (h : w.ownsRow base 24 1 (.slice q n c) n (L.map fun x : B => Value.int .u64 (un x : Int))) (hn : 0 < n) :
    ∃ b, q = some ⟨b, 0, none⟩ ∧ ∀ (i : Nat) (x : B), L[i]? = some x → w.cell? ⟨b, i, none⟩ = some (.int .u64 (un x : Int)) := by
  have hl : L.length = n := by have := h.1; simpa using this
  obtain ⟨b, cap, hv, _, _⟩ := h.form hn
  have hg : q = some ⟨b, 0, none⟩ := by injection hv
  subst hg
  refine ⟨b, rfl, fun i x hx => ?_⟩
  have hi : i < n := by
    rw [← hl]
    rcases Nat.lt_or_ge i L.length with h1 | h1
    · exact h1
    · rw [List.getElem?_eq_none h1] at hx; cases hx
  rw [h.cellAt i (by omega), List.getElem?_map, hx]
  rfl
end Go.Proofs.YteefncohknclcaaGreatDoor
