/- Texts joined: OnceP, InfersW, OnceFW, OnceGW, InferOnceW, Bulk2, InferOnceLW. Conditions: theirs. -/
import Derived.Test.YtoiolepengcagaaInferOnceLWM1
import Derived.Test.YtoiolepengcagaaInferOfW
import Derived.RegionTactic
import Derived.StillTailTactics
import Derived.Test.YtoiolepengcagaaRows
import Derived.Test.YtoiolepengcagaaPairs
import Derived.Test.YtoiolepengcagaaNLArg
import Derived.ChangeArms
namespace Go.Proofs.Ytoiolepengcagaa
open Go.RowKit
theorem txt_inj {a b : Bs} (h : txt a = txt b) : a = b := by
  have := congrArg (fun x : ByteArray => x.data.toList) h
  simpa [txt_list] using this
/-- the needs of the first rule with that target -/
def fnd (us : List Bs) (G : Bs → List ByteArray) (t : ByteArray) : List ByteArray := ((us.find? fun u => decide (txt u = t)).map G).getD []
theorem fnd_next {us : List Bs} {G : Bs → List ByteArray} {t : ByteArray} {k : Nat} {u : Bs} (h : us[k]? = some u) : fnd (us.drop k) G t = if txt u = t then G u else fnd (us.drop (k + 1)) G t := by
  have hk := (List.getElem?_eq_some_iff.1 h).1
  have e : us[k] = u := (List.getElem?_eq_some_iff.1 h).2
  rw [List.drop_eq_getElem_cons hk, e]
  unfold fnd
  by_cases hc : txt u = t
  · rw [List.find?_cons_of_pos (by simpa using hc), if_pos hc]; rfl
  · rw [List.find?_cons_of_neg (by simpa using hc), if_neg hc]
theorem fnd_at {us : List Bs} {G : Bs → List ByteArray} {u : Bs} (h : u ∉ us → G u = []) : fnd us G (txt u) = G u := by
  unfold fnd
  cases hf : us.find? fun x => decide (txt x = txt u) with
  | none =>
    have := List.find?_eq_none.1 hf
    rw [h (fun hm => by have := this u hm; simp at this)]
    rfl
  | some x =>
    have h2 := List.find?_some hf
    have := of_decide_eq_true h2
    rw [txt_inj this]
    rfl
theorem fnd_join {R : List Rl} {u : Bs} : fnd (usF R) (jF R) (txt u) = jF R u := fnd_at jF_nil
/-- an inference gives the need -/
def isInf (st en need : ByteArray) (y : Inf) : Bool := decide (y.2 = en) && decide (need = st ++ y.1)
theorem isInf_any {R : List Rl} {l : List Inf} {there : List ByteArray} {t : Bs} {need : ByteArray} (h : jF R t = []) (hn : needR R l there t = [need]) : l.any (isInf (stA (txt t)) (stB (txt t)) need) = true := by
  obtain ⟨y, hy, h1, h2⟩ := need_inf (R := R) (l := l) (there := there) (t := t) (by rw [h]; simp) (by rw [hn]; simp)
  rw [hn] at h2
  injection h2 with h2
  refine List.any_eq_true.2 ⟨y, hy, ?_⟩
  unfold isInf
  rw [Bool.and_eq_true, decide_eq_true_iff, decide_eq_true_iff]
  exact ⟨h1, h2⟩
theorem need_one {R : List Rl} {l : List Inf} {there : List ByteArray} {t : Bs} (h : jF R t = []) : needR R l there t = [] ∨ ∃ need, needR R l there t = [need] := by
  have := need_len R l there t
  rw [h] at this
  match hn : needR R l there t, this with
  | [], _ => exact .inl rfl
  | [x], _ => exact .inr ⟨x, rfl⟩
  | _ :: _ :: _, h => simp at h
/-- what was there is there still -/
theorem end_has {R : List Rl} {l : List Inf} {there : List ByteArray} {u : Bs} (h : u ∈ usF R) : u ∈ endK R l there := (endK_mem R l there u).2 (.inl h)
end Go.Proofs.Ytoiolepengcagaa
namespace Go.Proofs.Ytoiolepengcagaa
open Go.RowKit Go.Shelf Go.ChangeShapes
def co : List Inf := [((⟨#[46, 99]⟩ : ByteArray), (⟨#[46, 111]⟩ : ByteArray))]
theorem co_E : ofE co [(⟨#[97, 46, 99]⟩ : ByteArray)] ⟨#[97, 46, 111]⟩ = 0 := by decide +kernel
theorem co_of : infOf co [(⟨#[97, 46, 99]⟩ : ByteArray)] (stA ⟨#[97, 46, 111]⟩) (stB ⟨#[97, 46, 111]⟩) = some ⟨#[97, 46, 99]⟩ := by decide +kernel
theorem NLI_one (w : World) (x : ByteArray) (hx : x.size ≤ 4611686018427387904) : NL (w.alloc (.cells #[.string x] 9)) (some ⟨w.heap.size, 0, none⟩) 1 1 [x] := by
  refine ⟨⟨rfl, ⟨rfl, fun _ => ⟨⟨w.heap.size, 0, none⟩, rfl, by simp, fun j u hu => ?_⟩⟩, fun s hs => ?_, by omega⟩, fun h => (by cases h), fun ad h => ?_, by omega⟩
  · match j, hu with
    | 0, hu =>
      simp [strsV] at hu
      subst hu
      rw [Addr.add_lit, World.cell?_alloc_at _ _ _ _ rfl]; rfl
  · have : s = x := by simpa using hs
    subst this; exact hx
  · injection h with h
    subst h
    exact ⟨_, _, rfl, by simp⟩
set_option maxHeartbeats 1000000 in
theorem infers_below (w : World) : Calls Try.prog 4 #[] w fun e w' => e = .returned (.bool true) ∧ Below w.heap.size w w' := by
  have hA : InfsIn (w.alloc (.cells #[.string ⟨#[46, 99]⟩, .string ⟨#[46, 111]⟩] 38)) (some ⟨w.heap.size, 0, none⟩) 1 1 co := by
    refine ⟨⟨rfl, fun _ => ⟨w.heap.size, 0, rfl, by simp, fun k x hx => ?_⟩, by omega⟩, fun x hx => ?_, Nat.le_refl _⟩
    · match k, hx with
      | 0, hx =>
        simp [co] at hx
        subst hx
        simp [iF, iG]
    · simp [co] at hx
      subst hx
      exact ⟨by decide, by decide⟩
  have hb1 := below1I w (.cells #[.string ⟨#[46, 99]⟩, .string ⟨#[46, 111]⟩] 38)
  have hs1 : (w.alloc (.cells #[.string ⟨#[46, 99]⟩, .string ⟨#[46, 111]⟩] 38)).heap.size = w.heap.size + 1 := by simp
  have hN := NLI_one (w.alloc (.cells #[.string ⟨#[46, 99]⟩, .string ⟨#[46, 111]⟩] 38)) ⟨#[97, 46, 99]⟩ (by decide)
  rw [hs1] at hN
  have hO := Of_ok _ _ _ _ _ _ co [(⟨#[97, 46, 99]⟩ : ByteArray)] ⟨#[97, 46, 111]⟩ _ (hA.below (below1I _ (.cells #[.string ⟨#[97, 46, 99]⟩] 9))) hN (by decide)
  have HO := Lib.hid hO
  have HB := Lib.hid (hb1.alloc (by rw [hs1]; omega) (.cells #[.string ⟨#[97, 46, 99]⟩] 9))
  clear hA hb1 hs1 hN hO
  have HE := Lib.hid co_E
  have HF := Lib.hid co_of
  go_enter Try.func4, Try.ntmps4
  go_wp2_with fail
  refine HO.out.mono ?_
  rintro e w1 ⟨hc, hb⟩
  rw [HE.out, HF.out] at hc
  rcases hc with ⟨hc, _⟩ | ⟨_, rfl⟩
  · exact absurd rfl hc
  · have HB1 := Lib.hid (HB.out.trans (hb.mono HB.out.size))
    clear hb HO HE HF
    go_wp2
    go_ret
    exact ⟨rfl, HB1.out⟩
end Go.Proofs.Ytoiolepengcagaa
namespace Go.Proofs.Ytoiolepengcagaa
open Go.RowKit Go.Shelf Go.Maps
/-- a slice that is one text -/
theorem head_cell {w : World} {x : Hd} {s : ByteArray} (h : x.ok w) (e : x.zs = [s]) : ∃ b o c, x = ⟨some ⟨b, o, none⟩, 1, c, [s]⟩ ∧ b < w.heap.size ∧ w.cell? ⟨b, o, none⟩ = some (.string s) := by
  obtain ⟨p, n, c, zs⟩ := x
  simp only at e
  subst e
  have hl := h.1.at_.len
  simp only at hl
  have hn : n = 1 := by simpa using hl.symm
  subst hn
  obtain ⟨ad, hp, _, hc⟩ := str_at h.1.at_.reads (k := 0) Nat.one_pos
  simp only at hp
  subst hp
  obtain ⟨b, o, e2, hb⟩ := h.1.plain Nat.one_pos _ rfl
  subst e2
  rw [Addr.add_lit] at hc
  exact ⟨b, o, c, rfl, hb, hc⟩
/-- rules with one target each -/
structure RTab (w : World) (p : Option Addr) (n c : Nat) (l : List (Hd × Hd)) (us : List Bs) (G : Bs → List ByteArray) : Prop where
  at_ : RulesIn w p n c l
  tab : l.map rl = us.map fun u => ([txt u], G u)
theorem RTab.below {w w' : World} {p : Option Addr} {n c : Nat} {l : List (Hd × Hd)} {us : List Bs} {G : Bs → List ByteArray} (h : RTab w p n c l us G) (hb : Below w.heap.size w w') : RTab w' p n c l us G := ⟨h.at_.below hb, h.tab⟩
theorem RTab.len {w : World} {p : Option Addr} {n c : Nat} {l : List (Hd × Hd)} {us : List Bs} {G : Bs → List ByteArray} (h : RTab w p n c l us G) : l.length = us.length := by simpa using congrArg List.length h.tab
theorem RTab.row {w : World} {p : Option Addr} {n c : Nat} {l : List (Hd × Hd)} {us : List Bs} {G : Bs → List ByteArray} (h : RTab w p n c l us G) {k : Nat} (hk : k < us.length) :
    ∃ (x : Hd × Hd) (u : Bs) (b o c1 : Nat), l[k]? = some x ∧ us[k]? = some u ∧ x.1 = ⟨some ⟨b, o, none⟩, 1, c1, [txt u]⟩ ∧ w.cell? ⟨b, o, none⟩ = some (.string (txt u)) ∧ x.2.zs = G u ∧ x.2.ok w ∧ x ∈ l ∧ b < w.heap.size := by
  have hl := h.len
  have hx := List.getElem?_eq_getElem (show k < l.length by omega)
  have hu := List.getElem?_eq_getElem hk
  have e : (l.map rl)[k]? = some (rl l[k]) := by rw [List.getElem?_map, hx]; rfl
  rw [h.tab, List.getElem?_map, hu] at e
  have e := (Option.some.inj e).symm
  injection e with e1 e2
  have hm : l[k] ∈ l := List.getElem_mem _
  obtain ⟨b, o, c1, e3, hb, hc⟩ := head_cell (h.at_.ok _ hm).1 e1
  exact ⟨l[k], us[k], b, o, c1, hx, hu, e3, hc, e2, (h.at_.ok _ hm).2, hm, hb⟩
theorem hd_nil (w : World) : (⟨none, 0, 0, []⟩ : Hd).ok w := ⟨⟨⟨rfl, ⟨rfl, fun h => absurd h (by decide)⟩, fun s hs => (by cases hs), by decide⟩, fun h => absurd h (by decide), by decide⟩, Nat.le_refl _⟩
set_option maxHeartbeats 4000000 in
set_option maxRecDepth 100000 in
theorem needs_ok (p : Option Addr) (n c : Nat) (l : List (Hd × Hd)) (us : List Bs) (G : Bs → List ByteArray) (t : ByteArray) (w : World) (hR : RTab w p n c l us G) :
    Calls Try.prog 7 #[.slice p n c, .string t] w fun e w' => (∃ y : Hd, e = .returned y.v ∧ y.ok w' ∧ y.zs = fnd us G t) ∧ Below w.heap.size w w' := by
  have hl := hR.at_.at_.len
  have hll := hR.len
  have hbig := hR.at_.at_.big
  obtain rfl : n = us.length := by omega
  have HR := Lib.hid hR
  clear hR hl
  have HLL := Lib.hid hll
  clear hll
  go_enter Try.func7, Try.ntmps7
  go_wp2
  go_loopw [9] (fun i wr => ∃ k : Nat, k ≤ us.length ∧ i = .int .i64 k ∧ Hid (Below w.heap.size w wr) ∧ Hid (fnd us G t = fnd (us.drop k) G t)) (fun i _ => us.length - (intOf i).toNat)
  case atStart => exact ⟨0, Nat.zero_le _, rfl, Below.refl _ _, rfl⟩
  case round =>
    obtain ⟨k, hk, rfl, HW, HK⟩ := hrel
    by_cases hlt : k < us.length
    · obtain ⟨x, u, b, o, c1, hx, hu, e1, hc, e2, hok2, _, hbl⟩ := (HR.out.below HW.out).row hlt
      obtain ⟨b0, o0, rfl, hb0, f1, f2⟩ := (HR.out.below HW.out).at_.at_.cell hx
      have HNX := Lib.hid (fnd_next (G := G) (t := t) hu)
      have HE2 := Lib.hid e2
      have HOK := Lib.hid hok2
      obtain ⟨⟨p1, n1, cc1, T⟩, ⟨p2, n2, cc2, N⟩⟩ := x
      simp only at e1
      injection e1 with g1 g2 g3 g4
      subst g1
      subst g2
      clear g3 g4 hx hu e2 hok2
      rw [← Nat.add_assoc] at f2
      simp only [rF, rG, Hd.v] at f1 f2
      have hk1 : (k : Int) < (us.length : Int) := by omega
      have hHB := below1I wr (.cells #[.slice (some ⟨b, o, none⟩) 1 cc1, .slice p2 n2 cc2] 31)
      have hca := (hHB.cell (p := ⟨b, o, none⟩) hbl).trans hc
      have HHB := Lib.hid hHB
      clear hHB hc
      cases he : ((txt u).toList == t.toList)
      · have HN : Hid (fnd us G t = fnd (us.drop (k + 1)) G t) := by
          show _ = _
          rw [HK.out, HNX.out, if_neg]
          intro e
          rw [e] at he
          simp at he
        go_wp2
        go_roundw
        case rel => exact ⟨k + 1, by omega, by go_num, HW.out.trans (HHB.out.mono HW.out.size), HN.out⟩
        case measure => simp [intOf]; omega
      · have hye : txt u = t := by rw [str_eq] at he; exact of_decide_eq_true he
        have HN : Hid (fnd us G t = G u) := by
          show _ = _
          rw [HK.out, HNX.out, if_pos hye]
        clear hye
        go_wp2
        go_ret
        exact ⟨⟨⟨p2, n2, cc2, N⟩, rfl, HOK.out.below HHB.out, by rw [HN.out]; exact HE2.out⟩, HW.out.trans (HHB.out.mono HW.out.size)⟩
    · obtain rfl : k = us.length := by omega
      have HN : Hid (fnd us G t = []) := by
        show _ = _
        rw [HK.out, List.drop_length]
        rfl
      go_wp2
      go_ret
      exact ⟨⟨⟨none, 0, 0, []⟩, rfl, hd_nil _, HN.out.symm⟩, HW.out⟩
end Go.Proofs.Ytoiolepengcagaa
namespace Go.Proofs.Ytoiolepengcagaa
open Go.RowKit Go.Shelf Go.Maps
set_option maxHeartbeats 4000000 in
set_option maxRecDepth 100000 in
theorem isInf_ok (y1 y2 : ByteArray) (be bx bs b o c : Nat) (st en need : ByteArray) (w : World) (ce : w.cell? ⟨be, 0, none⟩ = some (.string en)) (cx : w.cell? ⟨bx, 1, none⟩ = some (.slice (some ⟨b, o, none⟩) 1 c)) (cs : w.cell? ⟨bs, 0, none⟩ = some (.string st)) (cn : w.cell? ⟨b, o, none⟩ = some (.string need)) (hs : st.size ≤ 1000) (hy : y1.size ≤ 100) :
    Calls Try.prog 11 #[.agg #[.string y1, .string y2], .pointer (some ⟨be, 0, none⟩), .pointer (some ⟨bx, 0, none⟩), .pointer (some ⟨bs, 0, none⟩)] w fun e w' => e = .returned (.bool (isInf st en need (y1, y2))) ∧ Below w.heap.size w w' := by
  have hHB := below1I w (.cells #[.string y1, .string y2] 38)
  have d1 := (hHB.cell (p := ⟨be, 0, none⟩) (World.block_lt_of_cell? w _ ce)).trans ce
  have d2 := (hHB.cell (p := ⟨bx, 1, none⟩) (World.block_lt_of_cell? w _ cx)).trans cx
  have d3 := (hHB.cell (p := ⟨bs, 0, none⟩) (World.block_lt_of_cell? w _ cs)).trans cs
  have d4 := (hHB.cell (p := ⟨b, o, none⟩) (World.block_lt_of_cell? w _ cn)).trans cn
  have hl1 := World.block_lt_of_cell? w _ ce
  have hl2 := World.block_lt_of_cell? w _ cx
  have hl3 := World.block_lt_of_cell? w _ cs
  have hl4 := World.block_lt_of_cell? w _ cn
  simp only at hl1 hl2 hl3 hl4
  have HHB := Lib.hid hHB
  have hno : ¬ (9223372036854775807 < st.size + y1.size) := by omega
  clear ce cx cs cn hHB
  cases he : (y2.toList == en.toList)
  · have HE : Hid (isInf st en need (y1, y2) = false) := by
      show _ = _
      unfold isInf
      rw [decide_eq_false (p := (y1, y2).2 = en), Bool.false_and]
      intro e
      have e : y2 = en := e
      rw [e] at he
      simp at he
    go_enter Try.func11, Try.ntmps11
    go_wp2
    go_region
    all_goals (go_wp2; go_ret; exact ⟨by rw [HE.out]; rfl, HHB.out.drew⟩)
  · have hye : y2 = en := by rw [str_eq] at he; exact of_decide_eq_true he
    have HE : Hid (isInf st en need (y1, y2) = (need.toList == (st ++ y1).toList)) := by
      show _ = _
      unfold isInf
      rw [decide_eq_true (p := (y1, y2).2 = en) hye, Bool.true_and, str_eq]
    clear hye
    go_enter Try.func11, Try.ntmps11
    go_wp2
    go_region
    all_goals (go_wp2; go_ret; exact ⟨by rw [HE.out]; rfl, HHB.out.drew⟩)
/-- a rule has that target -/
def isTop (t : ByteArray) (y : Hd × Hd) : Bool := decide (y.1.zs.getD 0 ByteArray.empty = t)
set_option maxHeartbeats 4000000 in
set_option maxRecDepth 100000 in
theorem isTop_ok (y : Hd × Hd) (bx b o c : Nat) (b1 o1 c1 : Nat) (s t : ByteArray) (w : World) (cx : w.cell? ⟨bx, 0, none⟩ = some (.slice (some ⟨b, o, none⟩) 1 c)) (ct : w.cell? ⟨b, o, none⟩ = some (.string t)) (hy : y.1 = ⟨some ⟨b1, o1, none⟩, 1, c1, [s]⟩) (cs : w.cell? ⟨b1, o1, none⟩ = some (.string s)) :
    Calls Try.prog 14 #[.agg #[y.1.v, y.2.v], .pointer (some ⟨bx, 0, none⟩)] w fun e w' => e = .returned (.bool (isTop t y)) ∧ Below w.heap.size w w' := by
  obtain ⟨y1, ⟨p2, n2, cc2, N⟩⟩ := y
  simp only at hy
  subst hy
  have hHB := below1I w (.cells #[.slice (some ⟨b1, o1, none⟩) 1 c1, .slice p2 n2 cc2] 31)
  have d1 := (hHB.cell (p := ⟨bx, 0, none⟩) (World.block_lt_of_cell? w _ cx)).trans cx
  have d2 := (hHB.cell (p := ⟨b, o, none⟩) (World.block_lt_of_cell? w _ ct)).trans ct
  have d3 := (hHB.cell (p := ⟨b1, o1, none⟩) (World.block_lt_of_cell? w _ cs)).trans cs
  have hl1 := World.block_lt_of_cell? w _ cx
  have hl2 := World.block_lt_of_cell? w _ ct
  have hl3 := World.block_lt_of_cell? w _ cs
  simp only at hl1 hl2 hl3
  have HHB := Lib.hid hHB
  have HE : Hid (isTop t (⟨some ⟨b1, o1, none⟩, 1, c1, [s]⟩, ⟨p2, n2, cc2, N⟩) = (s.toList == t.toList)) := by
    show _ = _
    unfold isTop
    rw [str_eq]
    rfl
  clear cx ct cs hHB
  simp only [Hd.v]
  go_enter Try.func14, Try.ntmps14
  go_wp2
  go_region
  all_goals (go_wp2; go_ret; exact ⟨by rw [HE.out]; rfl, HHB.out.drew⟩)
theorem ent_3 : ∀ (args : Array Value) (u : World), (callFunc 13 args).run Try.prog u = .ok (.enter 13 args) u := enters_of Try.func13 (by kernel_rfl) rfl
theorem ent_31 : ∀ (args : Array Value) (u : World), (callFunc 14 args).run Try.prog u = .ok (.enter 14 args) u := enters_of Try.func14 (by kernel_rfl) rfl
theorem ent_2 : ∀ (args : Array Value) (u : World), (callFunc 11 args).run Try.prog u = .ok (.enter 11 args) u := enters_of Try.func11 (by kernel_rfl) rfl
/-- some rule has that target -/
theorem isTop_any {w : World} {p : Option Addr} {n c : Nat} {l : List (Hd × Hd)} {us : List Bs} {G : Bs → List ByteArray} (h : RTab w p n c l us G) {u : Bs} (hu : u ∈ us) : l.any (isTop (txt u)) = true := by
  obtain ⟨k, hk, e⟩ := List.mem_iff_getElem.1 hu
  obtain ⟨x, u', b, o, c1, hx, hu', e1, _, _, _, hm, _⟩ := h.row hk
  rw [List.getElem?_eq_getElem hk, e] at hu'
  obtain rfl := Option.some.inj hu'
  refine List.any_eq_true.2 ⟨x, hm, ?_⟩
  unfold isTop
  rw [e1]
  exact decide_eq_true rfl
set_option maxHeartbeats 4000000 in
set_option maxRecDepth 100000 in
theorem lacks_ok (x : Hd × Hd) (ba b o c1 : Nat) (u : Bs) (p : Option Addr) (n c : Nat) (l : List (Hd × Hd)) (us : List Bs) (G : Bs → List ByteArray) (w : World) (h : RTab w p n c l us G) (ca : w.cell? ⟨ba, 0, none⟩ = some (.slice p n c)) (hx : x.1 = ⟨some ⟨b, o, none⟩, 1, c1, [txt u]⟩) (cu : w.cell? ⟨b, o, none⟩ = some (.string (txt u))) (hu : u ∈ us) :
    Calls Try.prog 13 #[.agg #[x.1.v, x.2.v], .pointer (some ⟨ba, 0, none⟩)] w fun e w' => e = .returned (.bool false) ∧ Below w.heap.size w w' := by
  obtain ⟨x1, ⟨p2, n2, cc2, N⟩⟩ := x
  simp only at hx
  subst hx
  have hHB := below1I w (.cells #[.slice (some ⟨b, o, none⟩) 1 c1, .slice p2 n2 cc2] 31)
  have d1 := (hHB.cell (p := ⟨ba, 0, none⟩) (World.block_lt_of_cell? w _ ca)).trans ca
  have d2 := (hHB.cell (p := ⟨b, o, none⟩) (World.block_lt_of_cell? w _ cu)).trans cu
  have hl1 := World.block_lt_of_cell? w _ ca
  simp only at hl1
  have d3 := (rb_cells (rb_new w (.cells #[.slice (some ⟨b, o, none⟩) 1 c1, .slice p2 n2 cc2] 31))).1
  have h2 := h.below hHB
  have HX := containsR_ok 14 #[.pointer (some ⟨w.heap.size, 0, none⟩)] (isTop (txt u)) p n c l _ ent_31 h2.at_.at_ (fun W y hy hW => by
    obtain ⟨k, hk, e⟩ := List.mem_iff_getElem.1 hy
    obtain ⟨y', u', b', o', c', hy', _, e1, hc', _⟩ := (h2.below hW).row (k := k) (by rw [← h.len]; exact hk)
    rw [List.getElem?_eq_getElem hk, e] at hy'
    obtain rfl := Option.some.inj hy'
    exact isTop_ok y w.heap.size b o c1 b' o' c' (txt u') (txt u) W ((hW.cell (World.block_lt_of_cell? _ _ d3)).trans d3) ((hW.cell (World.block_lt_of_cell? _ _ d2)).trans d2) e1 hc')
  rw [isTop_any h2 hu] at HX
  have HXX := Lib.hid HX
  have HHB := Lib.hid hHB
  clear HX h h2 hHB ca cu d2 d3 hu
  simp only [Hd.v]
  go_enter Try.func13, Try.ntmps13
  go_wp2_with (go_at_call 12; refine HXX.out.mono ?_; rintro e w' ⟨rfl, hb⟩; have HB := Lib.hid hb; clear hb)
  go_ret
  exact ⟨rfl, HHB.out.trans (HB.out.mono HHB.out.size)⟩
end Go.Proofs.Ytoiolepengcagaa
namespace Go.Proofs.Ytoiolepengcagaa
open Go.RowKit Go.Shelf Go.Maps
theorem run_geqO {x y : ByteArray} (h : Op.bytesLess x.toList y.toList = true) (w : World) : (binOp .geq 9 (.string x) (.string y)).run Try.prog w = .ok (.bool false) w := by
  simp [binOp, Op.stringOp, h]

theorem join_any (p : Option Addr) (n c : Nat) (l : List (Hd × Hd)) (w : World) (hR : RulesIn w p n c l) :
    Calls Try.prog 6 #[.slice p n c] w fun e w' => (∃ v E, e = .returned (.tuple #[v, .int .i64 E])) ∧ Below w.heap.size w w' := by
  refine (JoinR_ok p n c l w hR).mono ?_
  rintro e w' ⟨v, E, rfl, _, _, hb, _⟩
  exact ⟨⟨v, E, rfl⟩, hb⟩
theorem join_tab (p : Option Addr) (n c : Nat) (l : List (Hd × Hd)) (w : World) (hR : RulesIn w p n c l) (h0 : joinRE (l.map rl) = 0) :
    Calls Try.prog 6 #[.slice p n c] w fun e w' => (∃ (q : Option Addr) (d : Nat) (rs : List (Hd × Hd)), e = .returned (.tuple #[.slice q (usF (l.map rl)).length d, .int .i64 0]) ∧ RTab w' q (usF (l.map rl)).length d rs (usF (l.map rl)) (jF (l.map rl))) ∧ Below w.heap.size w w' := by
  refine (join_reads p n c l w hR h0).mono ?_
  rintro e w' ⟨⟨q, d, h, rs, rfl, hr, hm, _⟩, hb⟩
  refine ⟨⟨q, d, rs, rfl, hr, ?_⟩, hb⟩
  have := congrArg (List.map fun x : List ByteArray × Hd => (x.1, x.2.zs)) hm
  rw [List.map_map, List.map_map] at this
  refine Eq.trans (Eq.trans ?_ this) ?_
  · rfl
  · refine List.map_congr_left fun u _ => ?_
    show ([txt u], (hdOf (h u) (jF (l.map rl) u)).zs) = _
    rw [hdOf_zs]
theorem eqq {w : World} {p q : Option Addr} {n c d k : Nat} {zs : List ByteArray} (h : NLw w p n c zs) (h2 : NLw w q n d zs) :
    Calls Try.prog 8 #[.slice p n c, .slice q n d] (w.drewN k) fun e w' => e = .returned (.bool true) ∧ ∃ m, w' = w.drewN m := by
  refine (nlw_equal (h.drew k) (h2.drew k)).mono ?_
  rintro e w' ⟨rfl, m, rfl⟩
  exact ⟨rfl, k + m, by simp [World.drewN, Nat.add_assoc]⟩
set_option maxHeartbeats 16000000 in
set_option maxRecDepth 100000 in
theorem inferOnce_ok (p q s : Option Addr) (n c mI dI t f : Nat) (rs : List (Hd × Hd)) (l : List Inf) (zs : List ByteArray) (w : World) (hR : RulesIn w p n c rs) (hI : InfsIn w q mI dI l) (hZ : NL w s t f zs) (hzb : t ≤ 1048576) :
    Calls Try.prog 3 #[.slice p n c, .slice q mI dI, .slice s t f] w fun e w' => e = .returned (.bool true) ∧ Below w.heap.size w w' := by
  have HF := Lib.hid (infers_below w)
  have HFI := fun u (hu : Below w.heap.size w u) => Fill_ok p q s n c mI dI t f rs l zs u (hR.below hu) (hI.below hu) (hZ.below hu) hzb
  by_cases hE : fillE (rs.map rl) l zs = 0
  case neg =>
    have HJ := Lib.hid (fun u (hu : Below w.heap.size w u) => join_any p n c rs u (hR.below hu))
    have HFB : Hid (∀ u, Below w.heap.size w u → Calls Try.prog 5 #[.slice p n c, .slice q mI dI, .slice s t f] u fun e w' => e = .returned (.tuple #[.slice none 0 0, .int .i64 (fillE (rs.map rl) l zs)]) ∧ Below u.heap.size u w') := by
      intro u hu
      refine (HFI u hu).mono ?_
      rintro e w' ⟨⟨v, rfl, hv, _⟩, hb⟩
      rw [hv hE]
      exact ⟨rfl, hb⟩
    obtain ⟨i1, i2⟩ := int_ne' hE
    clear HFI hR hI hZ hzb hE
    generalize fillE (rs.map rl) l zs = E at *
    go_enter Try.func3, Try.ntmps3
    go_wp2_with (first
      | (go_at_call 4; refine HF.out.mono ?_; rintro e w1 ⟨rfl, hb⟩; have HB1 := Lib.hid hb; clear hb)
      | (go_at_call 5; refine (HFB.out _ HB1.out).mono ?_; rintro e w2 ⟨rfl, hb⟩; have HB2 := Lib.hid (HB1.out.trans (hb.mono HB1.out.size)); clear hb)
      | (go_at_call 6; have hBA := HB2.out.alloc HB2.out.size (.cells #[.slice none 0 0] 22); refine (HJ.out _ hBA).mono ?_; rintro e w3 ⟨⟨vj, ej, rfl⟩, hb⟩; have hbx : w3.cell? ⟨w2.heap.size, 0, none⟩ = some (.slice none 0 0) := (hb.cell (p := ⟨w2.heap.size, 0, none⟩) (by simp)).trans (by simp); have HB3 := Lib.hid (hBA.trans (hb.mono hBA.size)); clear hb hBA))
    go_ret
    exact ⟨rfl, HB3.out⟩
  case pos =>
  obtain ⟨hJ, hI0, hN, _⟩ := fillE_zero hE
  obtain ⟨_, hru, hj64, hu64⟩ := joinRE_zero hJ
  have HFG : Hid (∀ u, Below w.heap.size w u → Calls Try.prog 5 #[.slice p n c, .slice q mI dI, .slice s t f] u fun e w' => (∃ (pa : Option Addr) (ca : Nat) (la : List (Hd × Hd)), e = .returned (.tuple #[.slice pa (endK (rs.map rl) l zs).length ca, .int .i64 0]) ∧ RTab w' pa (endK (rs.map rl) l zs).length ca la (endK (rs.map rl) l zs) (needR (rs.map rl) l zs)) ∧ Below u.heap.size u w') := by
    intro u hu
    refine (HFI u hu).mono ?_
    rintro e w' ⟨⟨v, rfl, _, hz⟩, hb⟩
    obtain ⟨pa, ca, la, rfl, hri, hm⟩ := hz hE
    rw [hE]
    exact ⟨⟨pa, ca, la, rfl, hri, hm⟩, hb⟩
  have HJG := Lib.hid (fun u (hu : Below w.heap.size w u) => join_tab p n c rs u (hR.below hu) hJ)
  have HG1 : Hid (∀ u, 0 < (jF (rs.map rl) u).length → needR (rs.map rl) l zs u = jF (rs.map rl) u) := fun u h => need_said h
  have HG2 : Hid (∀ u, jF (rs.map rl) u = [] → needR (rs.map rl) l zs u = [] ∨ ∃ need, needR (rs.map rl) l zs u = [need] ∧ l.any (isInf (stA (txt u)) (stB (txt u)) need) = true) := fun u h => by
    rcases need_one (l := l) (there := zs) h with h1 | ⟨x, h1⟩
    · exact .inl h1
    · exact .inr ⟨x, h1, isInf_any h h1⟩
  have HSUB : Hid (∀ u ∈ usF (rs.map rl), u ∈ endK (rs.map rl) l zs) := fun u h => end_has h
  have HFN : Hid (∀ u, fnd (usF (rs.map rl)) (jF (rs.map rl)) (txt u) = jF (rs.map rl) u) := fun u => fnd_join
  have HSTR := Lib.hid (endK_strict (rs.map rl) l zs)
  have HNAM : Hid (∀ u ∈ endK (rs.map rl) l zs, (txt u).size ≤ 40) := fun u h => nameE_size (endK_names hru h)
  have HIS := Lib.hid (infE_size hI0)
  have HI := Lib.hid (fun u (hu : Below w.heap.size w u) => hI.below hu)
  clear HFI hE hJ hI0 hN hru hj64 hu64 hR hI hZ hzb
  generalize endK (rs.map rl) l zs = us at *
  generalize needR (rs.map rl) l zs = G at *
  generalize usF (rs.map rl) = ws at *
  generalize jF (rs.map rl) = J at *
  go_enter Try.func3, Try.ntmps3
  go_wp2_with (first
    | (go_at_call 4; refine HF.out.mono ?_; rintro e w1 ⟨rfl, hb⟩; have HB1 := Lib.hid hb; clear hb)
    | (go_at_call 5; refine (HFG.out _ HB1.out).mono ?_; rintro e w2 ⟨⟨pa, ca, la, rfl, hta⟩, hb⟩; have HTA := Lib.hid hta; have HB2 := Lib.hid (HB1.out.trans (hb.mono HB1.out.size)); clear hb hta)
    | (go_at_call 6; have hBA := below1I w2 (.cells #[.slice pa us.length ca] 22); refine (HJG.out _ (HB2.out.trans (hBA.mono HB2.out.size))).mono ?_; rintro e w3 ⟨⟨pw, cw, lw, rfl, htw⟩, hb⟩; have HTW := Lib.hid htw; have hbx : w3.cell? ⟨w2.heap.size, 0, none⟩ = some (.slice pa us.length ca) := (hb.cell (p := ⟨w2.heap.size, 0, none⟩) (by simp)).trans (by simp); have HB23 := Lib.hid (hBA.trans (hb.mono hBA.size)); have HB3 := Lib.hid (HB2.out.trans (HB23.out.mono HB2.out.size)); have HBX := Lib.hid hbx; have HAS : Hid (w2.heap.size < w3.heap.size) := (show _ < _ by have := hb.size; simp at this; omega); clear hb hBA htw))
  have HTA3 := Lib.hid (HTA.out.below HB23.out)
  go_loopw [38] (fun i wr => ∃ k : Nat, k ≤ us.length ∧ i = .int .i64 k ∧ Hid (Below w3.heap.size w3 wr)) (fun i _ => us.length - (intOf i).toNat)
  case atStart => exact ⟨0, Nat.zero_le _, rfl, Below.refl _ _⟩
  case round =>
    obtain ⟨k, hk, rfl, HW⟩ := hrel
    have hel9 := HTA3.out.at_.at_.big
    by_cases hlt : k < us.length
    · obtain ⟨x, u, b, o, c1, hx, hu, e1, hc, e2, hok2, _, hbl⟩ := (HTA3.out.below HW.out).row hlt
      obtain ⟨b0, o0, rfl, hb0, f1, f2⟩ := (HTA3.out.below HW.out).at_.at_.cell hx
      obtain ⟨⟨p1, n1, cc1, T⟩, ⟨p2, n2, cc2, N⟩⟩ := x
      simp only at e1 e2
      injection e1 with g1 g2 g3 g4
      subst g1
      subst g2
      rw [← Nat.add_assoc] at f2
      simp only [rF, rG, Hd.v] at f1 f2
      clear g3 g4 hx
      have hk1 : (k : Int) < (us.length : Int) := by omega
      obtain ⟨W9, hW9⟩ : ∃ W9, W9 = wr.alloc (.cells #[.slice (some ⟨b, o, none⟩) 1 cc1, .slice p2 n2 cc2] 31) := ⟨_, rfl⟩
      have HB9 : Hid (Below wr.heap.size wr W9) := by rw [hW9]; exact below1I wr _
      have d1 : W9.cell? ⟨wr.heap.size, 0, none⟩ = some (.slice (some ⟨b, o, none⟩) 1 cc1) := by rw [hW9]; simp
      have d2 : W9.cell? ⟨wr.heap.size, 1, none⟩ = some (.slice p2 n2 cc2) := by rw [hW9]; simp
      have d3 : W9.cell? ⟨b, o, none⟩ = some (.string (txt u)) := (HB9.out.cell (p := ⟨b, o, none⟩) hbl).trans hc
      have h9s : wr.heap.size < W9.heap.size := by rw [hW9]; simp
      have HW39 := Lib.hid (HW.out.trans (HB9.out.mono HW.out.size))
      have hnd0 := needs_ok pw ws.length cw lw ws J (txt u) W9 (HTW.out.below HW39.out)
      have HND : Hid (Calls Try.prog 7 #[.slice pw ws.length cw, .string (txt u)] W9 fun e w' => (∃ (py : Option Addr) (ny cy : Nat) (zy : List ByteArray), e = .returned (.slice py ny cy) ∧ (⟨py, ny, cy, zy⟩ : Hd).ok w' ∧ zy = fnd ws J (txt u)) ∧ Below W9.heap.size W9 w') := by
        refine hnd0.mono ?_
        rintro e w' ⟨⟨⟨py, ny, cy, zy⟩, rfl, ho, hz⟩, hb⟩
        exact ⟨⟨py, ny, cy, zy, rfl, ho, hz⟩, hb⟩
      clear hnd0
      rw [HFN.out u] at HND
      have HD1 := Lib.hid d1
      have HD2 := Lib.hid d2
      have HD3 := Lib.hid d3
      have HH9 := Lib.hid h9s
      have HE2 := Lib.hid e2
      have HOK2 := Lib.hid hok2
      have HU := Lib.hid hu
      have HBL := Lib.hid hbl
      clear d2 h9s e2 hok2 hu hbl
      go_upto_region 11 with fail
      rw [← hW9]
      clear hW9
      go_upto_region 12 with (go_at_call 7; refine HND.out.mono ?_; rintro e w5 ⟨⟨py, ny, cy, zy, rfl, hyo, hyz⟩, hb⟩; have HB5 := Lib.hid hb; have HYO := Lib.hid hyo; have HYZ := Lib.hid hyz; clear hb hyo hyz)
      have HW5 := Lib.hid (HB9.out.trans (HB5.out.mono HB9.out.size))
      have HW35 := Lib.hid (HW39.out.trans (HB5.out.mono HW39.out.size))
      have z1 : w5.cell? ⟨wr.heap.size, 0, none⟩ = some (.slice (some ⟨b, o, none⟩) 1 cc1) := (HB5.out.cell (p := ⟨wr.heap.size, 0, none⟩) HH9.out).trans HD1.out
      have z2 : w5.cell? ⟨wr.heap.size, 1, none⟩ = some (.slice p2 n2 cc2) := (HB5.out.cell (p := ⟨wr.heap.size, 1, none⟩) HH9.out).trans HD2.out
      have z3 : w5.cell? ⟨b, o, none⟩ = some (.string (txt u)) := (HW5.out.cell (p := ⟨b, o, none⟩) HBL.out).trans hc
      have z4 : w5.cell? ⟨w2.heap.size, 0, none⟩ = some (.slice (some ⟨b0, o0, none⟩) us.length ca) := (HW35.out.cell (p := ⟨w2.heap.size, 0, none⟩) HAS.out).trans HBX.out
      have HOK5 := Lib.hid (HOK2.out.below HW5.out)
      have hyl := HYO.out.1.at_.len
      have hnl := HOK5.out.1.at_.len
      simp only at hyl hnl
      rw [HYZ.out] at hyl
      rw [HE2.out] at hnl
      have HYL := Lib.hid hyl
      have HNL := Lib.hid hnl
      clear d1 d3 hc hyl hnl
      have HPRE : Hid (∀ k', k = k' + 1 → ∃ (u' : Bs) (b' o' cc1' : Nat), w5.cell? ⟨b0, o0 + k' * 2, none⟩ = some (.slice (some ⟨b', o', none⟩) 1 cc1') ∧ w5.cell? ⟨b', o', none⟩ = some (.string (txt u')) ∧ ∀ v, (binOp .geq 9 (.string (txt u')) (.string (txt u))).run Try.prog v = .ok (.bool false) v) := by
        rintro k' rfl
        obtain ⟨x', u', b', o', c1', hx', hu', e1', hc', _, _, _, hbl'⟩ := (HTA3.out.below HW.out).row (k := k') (by omega)
        obtain ⟨bb, oo, hee, hbb, f1', _⟩ := (HTA3.out.below HW.out).at_.at_.cell hx'
        injection hee with hee
        injection hee with h1 h2
        subst h1
        subst h2
        simp only [rF] at f1'
        rw [e1'] at f1'
        refine ⟨u', b', o', c1', (HW5.out.cell (p := ⟨b0, o0 + k' * 2, none⟩) hbb).trans f1', (HW5.out.cell (p := ⟨b', o', none⟩) hbl').trans hc', ?_⟩
        have hlt' : u' < u := by
          have h1 := (List.getElem?_eq_some_iff.1 hu').2
          have h2 := (List.getElem?_eq_some_iff.1 HU.out).2
          rw [← h1, ← h2]
          exact List.pairwise_iff_getElem.1 HSTR.out k' (k' + 1) (by omega) hlt (by omega)
        refine run_geqO ?_
        rw [Proofs.bytesLess_eq, Lib.toList_data, Lib.toList_data, txt_list, txt_list]
        exact decide_eq_true hlt'
      clear f1 f2
      rcases Nat.eq_zero_or_pos ny with hny | hny
      · have hJ0 : J u = [] := List.length_eq_zero_iff.1 (by rw [HYL.out]; exact hny)
        rcases HG2.out u hJ0 with hG | ⟨need, hG, hany⟩
        · obtain rfl : n2 = 0 := by rw [← HNL.out, hG]; rfl
          have hnd : decide ((0 : Int) < (ny : Int)) = false := decide_eq_false (by omega)
          have hnn : decide (0 < ny) = false := decide_eq_false (by omega)
          clear hJ0 hG hny
          rcases Nat.eq_zero_or_pos k with hk0 | hk0
          · have hkd : decide ((0 : Int) < (k : Int)) = false := decide_eq_false (by omega)
            go_quiet (fail)
            go_wp2
            go_roundw
            case rel => exact ⟨k + 1, by omega, by go_num, HW.out.trans ((below_drawsP HW5.out _).mono HW.out.size)⟩
            case measure => simp [intOf]; omega
          · obtain ⟨k', rfl⟩ : ∃ k', k = k' + 1 := ⟨k - 1, by omega⟩
            have hkd : decide ((0 : Int) < ((k' + 1 : Nat) : Int)) = true := decide_eq_true (by omega)
            have hkn : decide (0 < k' + 1) = true := decide_eq_true (by omega)
            obtain ⟨u', b', o', cc1', y1, y2, hge⟩ := HPRE.out k' rfl
            have hkp : 0 < k' + 1 := by omega
            have s1 : IntKind.i64.wrap (k' : Int) = (k' : Int) := IntWalk.i64_in _ (by omega)
            have s3 : (0 : Int) ≤ (k' : Int) := by omega
            have s4 : (k' : Int) < (us.length : Int) := by omega
            go_quiet (fail)
            go_wp2
            go_roundw
            case rel => exact ⟨(k' + 1) + 1, by omega, by go_num, HW.out.trans ((below_drawsP HW5.out _).mono HW.out.size)⟩
            case measure => simp [intOf]; omega
        · obtain rfl : n2 = 1 := by rw [← HNL.out, hG]; rfl
          have hnd : decide ((0 : Int) < (ny : Int)) = false := decide_eq_false (by omega)
          have hnn : decide (0 < ny) = false := decide_eq_false (by omega)
          have hus := HNAM.out u (List.mem_of_getElem? HU.out)
          have hsta := stA_size (txt u)
          have HST : Hid (∀ v : World, Calls Try.prog 9 #[.string (txt u)] v fun e w' => e = .returned (.tuple #[.string (stA (txt u)), .string (stB (txt u))]) ∧ Below v.heap.size v w') := fun v => Stem_fn (txt u) (by omega) v
          obtain ⟨bn, on, cn, hxe, _, hcn⟩ := head_cell (x := ⟨p2, 1, cc2, N⟩) HOK5.out (show N = [need] by rw [HE2.out, hG])
          injection hxe with g1 g2 g3 g4
          subst g1
          subst g3
          have HCI : Hid (∀ w6, Below w5.heap.size w5 w6 → Calls Try.prog 10 #[.slice q mI dI, .func (.func 11) #[] #[.pointer (some ⟨w6.heap.size + 1, 0, none⟩), .pointer (some ⟨wr.heap.size, 0, none⟩), .pointer (some ⟨w6.heap.size, 0, none⟩)]] ((w6.alloc (.cells #[.string (stA (txt u))] 9)).alloc (.cells #[.string (stB (txt u))] 9)) fun e w' => e = .returned (.bool true) ∧ Below w5.heap.size w5 w') := by
            intro w6 h6
            have a1 : (w6.alloc (.cells #[.string (stA (txt u))] 9)).heap.size = w6.heap.size + 1 := by simp
            obtain ⟨W7, hW7⟩ : ∃ W7, W7 = (w6.alloc (.cells #[.string (stA (txt u))] 9)).alloc (.cells #[.string (stB (txt u))] 9) := ⟨_, rfl⟩
            have hb67 : Below w6.heap.size w6 W7 := by rw [hW7]; exact (below1I w6 _).alloc (by rw [a1]; omega) _
            have hb57 := h6.trans (hb67.mono h6.size)
            have c1 : W7.cell? ⟨w6.heap.size, 0, none⟩ = some (.string (stA (txt u))) := by
              rw [hW7]
              refine ((below1I (w6.alloc (.cells #[.string (stA (txt u))] 9)) _).cell (p := ⟨w6.heap.size, 0, none⟩) (by rw [a1]; exact Nat.lt_succ_self _)).trans ?_
              simp
            have c2 : W7.cell? ⟨w6.heap.size + 1, 0, none⟩ = some (.string (stB (txt u))) := by
              rw [hW7, ← a1]
              simp
            have c3 : W7.cell? ⟨wr.heap.size, 1, none⟩ = some (.slice (some ⟨bn, on, none⟩) 1 cc2) := (hb57.cell (p := ⟨wr.heap.size, 1, none⟩) (World.block_lt_of_cell? w5 _ z2)).trans z2
            have c4 : W7.cell? ⟨bn, on, none⟩ = some (.string need) := (hb57.cell (p := ⟨bn, on, none⟩) (World.block_lt_of_cell? w5 _ hcn)).trans hcn
            have hI7 := HI.out W7 (HB3.out.trans ((HW35.out.trans (hb57.mono HW35.out.size)).mono HB3.out.size))
            have hz := containsIA_ok 11 #[.pointer (some ⟨w6.heap.size + 1, 0, none⟩), .pointer (some ⟨wr.heap.size, 0, none⟩), .pointer (some ⟨w6.heap.size, 0, none⟩)] (isInf (stA (txt u)) (stB (txt u)) need) q mI dI l W7 ent_2 hI7.at_ (fun W y hy hW => isInf_ok y.1 y.2 _ _ _ bn on cc2 (stA (txt u)) (stB (txt u)) need W ((hW.cell (p := ⟨w6.heap.size + 1, 0, none⟩) (World.block_lt_of_cell? W7 _ c2)).trans c2) ((hW.cell (p := ⟨wr.heap.size, 1, none⟩) (World.block_lt_of_cell? W7 _ c3)).trans c3) ((hW.cell (p := ⟨w6.heap.size, 0, none⟩) (World.block_lt_of_cell? W7 _ c1)).trans c1) ((hW.cell (p := ⟨bn, on, none⟩) (World.block_lt_of_cell? W7 _ c4)).trans c4) (by omega) (HIS.out y hy))
            rw [hany] at hz
            rw [← hW7]
            refine hz.mono ?_
            rintro e w' ⟨rfl, hb⟩
            exact ⟨rfl, hb57.trans (hb.mono hb57.size)⟩
          clear hJ0 hny hG hany hus hsta hcn g2 g4
          rcases Nat.eq_zero_or_pos k with hk0 | hk0
          · have hkd : decide ((0 : Int) < (k : Int)) = false := decide_eq_false (by omega)
            go_quiet (fail)
            go_wp2_with (first
              | (go_at_call 9; refine (HST.out _).mono ?_; rintro e w6 ⟨rfl, hb⟩; have H56 := Lib.hid ((below_drawsP (Below.refl w5.heap.size w5) nq).trans (show Below w5.heap.size (w5.drewN nq) w6 from hb)); have z26 : w6.cell? ⟨wr.heap.size, 1, none⟩ = some (.slice (some ⟨bn, on, none⟩) 1 cc2) := (H56.out.cell (p := ⟨wr.heap.size, 1, none⟩) (World.block_lt_of_cell? w5 _ z2)).trans z2; have hl6 : wr.heap.size < w6.heap.size := World.block_lt_of_cell? w6 _ z26; clear hb)
              | (go_at_call 10; refine (HCI.out w6 H56.out).mono ?_; rintro e w7 ⟨rfl, hb⟩; have HB7 := Lib.hid hb; clear hb))
            go_roundw
            case rel => exact ⟨k + 1, by omega, by go_num, HW.out.trans ((HW5.out.trans (HB7.out.mono HW5.out.size)).mono HW.out.size)⟩
            case measure => simp [intOf]; omega
          · obtain ⟨k', rfl⟩ : ∃ k', k = k' + 1 := ⟨k - 1, by omega⟩
            have hkd : decide ((0 : Int) < ((k' + 1 : Nat) : Int)) = true := decide_eq_true (by omega)
            have hkn : decide (0 < k' + 1) = true := decide_eq_true (by omega)
            obtain ⟨u', b', o', cc1', y1, y2, hge⟩ := HPRE.out k' rfl
            have hkp : 0 < k' + 1 := by omega
            have s1 : IntKind.i64.wrap (k' : Int) = (k' : Int) := IntWalk.i64_in _ (by omega)
            have s3 : (0 : Int) ≤ (k' : Int) := by omega
            have s4 : (k' : Int) < (us.length : Int) := by omega
            go_quiet (fail)
            go_wp2_with (first
              | (go_at_call 9; refine (HST.out _).mono ?_; rintro e w6 ⟨rfl, hb⟩; have H56 := Lib.hid ((below_drawsP (Below.refl w5.heap.size w5) nq).trans (show Below w5.heap.size (w5.drewN nq) w6 from hb)); have z26 : w6.cell? ⟨wr.heap.size, 1, none⟩ = some (.slice (some ⟨bn, on, none⟩) 1 cc2) := (H56.out.cell (p := ⟨wr.heap.size, 1, none⟩) (World.block_lt_of_cell? w5 _ z2)).trans z2; have hl6 : wr.heap.size < w6.heap.size := World.block_lt_of_cell? w6 _ z26; clear hb)
              | (go_at_call 10; refine (HCI.out w6 H56.out).mono ?_; rintro e w7 ⟨rfl, hb⟩; have HB7 := Lib.hid hb; clear hb))
            go_roundw
            case rel => exact ⟨(k' + 1) + 1, by omega, by go_num, HW.out.trans ((HW5.out.trans (HB7.out.mono HW5.out.size)).mono HW.out.size)⟩
            case measure => simp [intOf]; omega
      · have hGJ : G u = J u := HG1.out u (by rw [HYL.out]; exact hny)
        obtain rfl : n2 = ny := by rw [← HNL.out, ← HYL.out, hGJ]
        have HQ1 := Lib.hid HYO.out.1
        have HQ2 := Lib.hid HOK5.out.1
        simp only at HQ1 HQ2
        rw [HYZ.out] at HQ1
        rw [HE2.out, hGJ] at HQ2
        have hnd : decide ((0 : Int) < (n2 : Int)) = true := decide_eq_true (by omega)
        have hnn : decide (0 < n2) = true := decide_eq_true (by omega)
        clear hGJ
        rcases Nat.eq_zero_or_pos k with hk0 | hk0
        · have hkd : decide ((0 : Int) < (k : Int)) = false := decide_eq_false (by omega)
          go_quiet ((go_at_call 8; exact eqq HQ1.out HQ2.out))
          go_wp2
          go_roundw
          case rel => exact ⟨k + 1, by omega, by go_num, HW.out.trans ((below_drawsP HW5.out _).mono HW.out.size)⟩
          case measure => simp [intOf]; omega
        · obtain ⟨k', rfl⟩ : ∃ k', k = k' + 1 := ⟨k - 1, by omega⟩
          have hkd : decide ((0 : Int) < ((k' + 1 : Nat) : Int)) = true := decide_eq_true (by omega)
          have hkn : decide (0 < k' + 1) = true := decide_eq_true (by omega)
          obtain ⟨u', b', o', cc1', y1, y2, hge⟩ := HPRE.out k' rfl
          have hkp : 0 < k' + 1 := by omega
          have s1 : IntKind.i64.wrap (k' : Int) = (k' : Int) := IntWalk.i64_in _ (by omega)
          have s3 : (0 : Int) ≤ (k' : Int) := by omega
          have s4 : (k' : Int) < (us.length : Int) := by omega
          go_quiet ((go_at_call 8; exact eqq HQ1.out HQ2.out))
          go_wp2
          go_roundw
          case rel => exact ⟨(k' + 1) + 1, by omega, by go_num, HW.out.trans ((below_drawsP HW5.out _).mono HW.out.size)⟩
          case measure => simp [intOf]; omega
    · obtain rfl : k = us.length := by omega
      have HRR := Lib.hid (HTW.out.below HW.out)
      have HCF : Hid (Calls Try.prog 12 #[.slice pw ws.length cw, .func (.func 13) #[] #[.pointer (some ⟨w2.heap.size, 0, none⟩)]] wr fun e w' => e = .returned (.bool false) ∧ Below wr.heap.size wr w') := by
        have := containsR_ok 13 #[.pointer (some ⟨w2.heap.size, 0, none⟩)] (fun _ => false) pw ws.length cw lw wr ent_3 HRR.out.at_.at_ (fun W y hy hW => by
          obtain ⟨j, hj, e⟩ := List.mem_iff_getElem.1 hy
          obtain ⟨y', u', b', o', c', hy', hu', e1, hc', _⟩ := (HRR.out.below hW).row (k := j) (by rw [← HRR.out.len]; exact hj)
          rw [List.getElem?_eq_getElem hj, e] at hy'
          obtain rfl := Option.some.inj hy'
          exact lacks_ok y w2.heap.size b' o' c' u' pa us.length ca la us G W (HTA3.out.below (HW.out.trans (hW.mono HW.out.size))) (((HW.out.trans (hW.mono HW.out.size)).cell (p := ⟨w2.heap.size, 0, none⟩) HAS.out).trans HBX.out) e1 hc' (HSUB.out u' (List.mem_of_getElem? hu')))
        rw [show lw.any (fun _ => false) = false from List.any_eq_false.2 (fun _ _ => by simp)] at this
        exact this
      go_wp2_with (go_at_call 12; refine HCF.out.mono ?_; rintro e w9 ⟨rfl, hb⟩; have HB9 := Lib.hid hb; clear hb)
      go_ret
      exact ⟨rfl, HB3.out.trans ((HW.out.trans (HB9.out.mono HW.out.size)).mono HB3.out.size)⟩
end Go.Proofs.Ytoiolepengcagaa
namespace Go.Proofs.Ytoiolepengcagaa
open Go.ChangeShapes Go.RowKit Go.WideShapes
theorem bulk_sum {A H : Type} (wt : A → Nat) : ∀ (l : List A) (ds : List (DataW H)), l.length = ds.length → (∀ (i : Nat) (q : A) (d : DataW H), l[i]? = some q → ds[i]? = some d → wt q ≤ Rows.uptoBulk d) → (l.map wt).sum ≤ Rows.uptoBulkAll ds
  | [], _, _, _ => by simp
  | q :: l, [], h, _ => by simp at h
  | q :: l, d :: ds, h, hb => by
    have h1 := hb 0 q d rfl rfl
    have h2 := bulk_sum wt l ds (by simpa using h) (fun i q' d' e1 e2 => hb (i + 1) q' d' (by simpa using e1) (by simpa using e2))
    simp only [List.map_cons, List.sum_cons, Rows.uptoBulkAll]
    omega
theorem sum_mem {A : Type} (wt : A → Nat) {l : List A} {x : A} (h : x ∈ l) : wt x ≤ (l.map wt).sum := by
  induction l with
  | nil => cases h
  | cons y l ih =>
    simp only [List.map_cons, List.sum_cons]
    rcases List.mem_cons.1 h with rfl | h
    · omega
    · have := ih h; omega
theorem sum_len {A : Type} (wt : A → Nat) {l : List A} (h : ∀ x, 1 ≤ wt x) : l.length ≤ (l.map wt).sum := by
  induction l with
  | nil => simp
  | cons y l ih =>
    simp only [List.map_cons, List.sum_cons, List.length_cons]
    have := h y
    omega
/-- the slice of pairs that a law is handed, and its bulk -/
theorem p2_bulk {A B H : Type} {enc : TypeId × Value → H} {P : Program} {W : World} {fuel len cap : Nat} {a : Option Addr} {d : DataW H} {p : List MemPlace} {t e : TypeId} {f0 f1 : Field} (F : A → Value) (G : B → Value) (wf : A → Nat) (wg : B → Nat)
    (ht : P.underlying t = some (.slice e)) (he : P.underlying e = some (.struct #[f0, f1])) (ce : P.cellsOf e = 2) (o0 : f0.offset = 0) (o1 : f1.offset = 1) (c0 : P.cellsOf f0.type = 1) (c1 : P.cellsOf f1.type = 1)
    (hF : ∀ n v x, DataW.trod enc P W 0 (fun _ => true) true n f0.type [v] = some x → ∃ a, v = F a ∧ wf a ≤ Rows.uptoBulk x.1) (hG : ∀ n v x, DataW.trod enc P W 0 (fun _ => true) true n f1.type [v] = some x → ∃ b, v = G b ∧ wg b ≤ Rows.uptoBulk x.1)
    (hby : 16 ≤ P.bytesOf e) (hf : DataW.trod enc P W 0 (fun _ => true) true fuel t [.slice a len cap] = some (d, p)) (hsz : ∀ n, n ∈ d.weights P t → n ≤ reachBytes) :
    ∃ l : List (A × B), P2At (fun x => F x.1) (fun x => G x.2) W a len cap l ∧ (l.map fun x => wf x.1 + wg x.2 + 1).sum ≤ Rows.uptoBulk d := by
  rcases Go.Deep.open_slice_pairs ht he ce o0 o1 c0 c1 hf with ⟨h1, h2⟩ | ⟨ad, ln, cp, m, n, V0, V1, D0, D1, P0, P1, h1, _, h3, _, h5, h6, h7⟩
  · injection h1 with h1 _
    injection h1 with e1 e2 e3
    subst e1 e2 e3
    exact ⟨[], ⟨rfl, fun h => by omega, by omega⟩, by simp⟩
  · injection h1 with h1 _
    injection h1 with e1 e2 e3
    subst e1 e2 e3
    simp only [if_true] at h5
    subst h5
    have hex : ∀ i, i < len → ∃ q : A × B, (W.cell? (ad.add (i * 2)) = some (F q.1) ∧ W.cell? (ad.add (i * 2 + 1)) = some (G q.2)) ∧ wf q.1 ≤ Rows.uptoBulk (D0 i) ∧ wg q.2 ≤ Rows.uptoBulk (D1 i) := by
      intro i hi
      obtain ⟨k1, k2, k3, k4⟩ := h7 i (by omega)
      obtain ⟨x, hx, wx⟩ := hF _ _ _ k3
      obtain ⟨y, hy, wy⟩ := hG _ _ _ k4
      exact ⟨(x, y), ⟨by rw [k1, hx], by rw [k2, hy]⟩, wx, wy⟩
    obtain ⟨l, hl, hq⟩ := list_of len _ hex
    injection h6 with h6 _
    have hb := hsz ((len + (m - len)) * P.bytesOf e) (by
      rw [h6, DataW.weights, ht]
      simp)
    have hrb : reachBytes < 2 ^ 47 := reachBytes_lt
    have hmul : (len + (m - len)) * 16 ≤ (len + (m - len)) * P.bytesOf e := Nat.mul_le_mul_left _ hby
    refine ⟨l, ⟨hl, fun hn => ?_, by omega⟩, ?_⟩
    · obtain ⟨b, o, s⟩ := ad
      have hs : s = none := by
        have h0 := (h7 0 (by omega)).1
        simpa [Addr.add] using World.cell?_spot h0
      subst hs
      refine ⟨b, o, rfl, ?_, fun k x hx => ?_⟩
      · have := World.block_lt_of_cell? W _ (h7 0 (by omega)).1
        rwa [block_of_add] at this
      · have := (hq k x hx).1
        rw [Addr.add_lit, Addr.add_lit] at this
        exact this
    · have hsum := bulk_sum (fun x : A × B => wf x.1 + wg x.2 + 1) l ((List.range len).map fun i => DataW.agg [D0 i, D1 i]) (by simp [hl]) (fun i q d' e1 e2 => by
        have hi : i < len := by have := (List.getElem?_eq_some_iff.1 e1).1; omega
        rw [List.getElem?_map, List.getElem?_range hi] at e2
        have e3 : DataW.agg [D0 i, D1 i] = d' := by simpa using e2
        subst e3
        obtain ⟨_, w1, w2⟩ := hq i q e1
        simp only [Rows.uptoBulk, Rows.uptoBulkAll]
        omega)
      rw [h6]
      simp only [Rows.uptoBulk]
      omega
end Go.Proofs.Ytoiolepengcagaa
namespace Go.Proofs.Ytoiolepengcagaa
open Go.RowKit Go.Shelf Go.ChangeShapes Go.WideShapes
def WkOk (W : World) (a : Option Addr) (len cap : Nat) : Prop := (∃ zs, NLw W a len cap zs) ∧ len ≤ cap
theorem nlw_any {H : Type} {enc : TypeId × Value → H} {W : World} {fuel : Nat} {v : Value} {d : DataW H} {p : List MemPlace}
    (hf : DataW.trod enc Try.prog W 0 (fun _ => true) true fuel 24 [v] = some (d, p))
    (hsz : ∀ n, n ∈ d.weights Try.prog 24 → n ≤ reachBytes) : ∃ a len cap, v = .slice a len cap ∧ WkOk W a len cap := by
  have ht := Try.underlying24
  have he := Try.underlying9
  have hc : Try.prog.cellsOf 9 = 1 := by kernel_rfl
  rcases open_strings ht he hc hf with ⟨h1, h2⟩ | ⟨ad, ln, cp, zs, h1, h2, h3, h4, h5, h6, h7, h8⟩
  · injection h1 with h1 _
    subst h1
    exact ⟨none, 0, 0, rfl, ⟨[], ⟨rfl, Reads.none_, fun s hs => (by cases hs), by omega⟩, fun h => by omega, by omega⟩, Nat.le_refl _⟩
  · injection h1 with h1 _
    subst h1
    obtain ⟨ss, hS⟩ := str_arg ht he hc hf hsz
    refine ⟨some ad, ln, cp, rfl, ⟨ss, hS, fun h0 ad' e => ?_, ?_⟩, ?_⟩
    · injection e with e
      subst e
      obtain ⟨b, o, s⟩ := ad
      have h5' := h5
      simp only [if_true] at h5'
      have hcell := h7 0 (by omega)
      have hs : s = none := by simpa [Addr.add] using World.cell?_spot hcell
      subst hs
      refine ⟨b, o, rfl, ?_⟩
      have := World.block_lt_of_cell? W _ hcell
      rwa [block_of_add] at this
    · injection h6 with h6 h6'
      have hw : d.weights Try.prog 24 = ((strs (H := H) (zs.take ln)).length + (strs (H := H) (zs.drop ln)).length) * Try.prog.bytesOf 9 :: (DataW.weightsAll Try.prog 9 (strs (H := H) (zs.take ln)) ++ DataW.weightsAll Try.prog 9 (strs (H := H) (zs.drop ln))) := by
        rw [h6, DataW.weights, ht]
      have hb := hsz _ (by rw [hw]; exact List.mem_cons_self)
      have hby : Try.prog.bytesOf 9 = 16 := by kernel_rfl
      rw [hby] at hb
      unfold reachBytes at hb
      simp only [if_true] at h5
      have hl1 : (strs (H := H) (zs.take ln)).length = ln := by unfold strs; rw [List.length_map, List.length_take]; omega
      rw [hl1] at hb
      omega
    · omega
theorem weightsAll_mem {H : Type} {P : Program} {e : TypeId} {d : DataW H} {n : Nat} (hn : n ∈ d.weights P e) : ∀ {ds : List (DataW H)}, d ∈ ds → n ∈ DataW.weightsAll P e ds := by
  intro ds
  induction ds with
  | nil => intro h; cases h
  | cons x ds ih =>
    intro h
    rw [DataW.weightsAll]
    rcases List.mem_cons.1 h with rfl | h
    · exact List.mem_append_left _ hn
    · exact List.mem_append_right _ (ih h)
/-- the slice of pairs that a law is handed, each field of a weight that is told -/
theorem p2_argw {A B H : Type} {enc : TypeId × Value → H} {P : Program} {W : World} {fuel len cap : Nat} {a : Option Addr} {d : DataW H} {p : List MemPlace} {t e : TypeId} {f0 f1 : Field} (F : A → Value) (G : B → Value)
    (ht : P.underlying t = some (.slice e)) (he : P.underlying e = some (.struct #[f0, f1])) (ce : P.cellsOf e = 2) (o0 : f0.offset = 0) (o1 : f1.offset = 1) (c0 : P.cellsOf f0.type = 1) (c1 : P.cellsOf f1.type = 1)
    (hF : ∀ n v x, DataW.trod enc P W 0 (fun _ => true) true n f0.type [v] = some x → (∀ k, k ∈ x.1.weights P f0.type → k ≤ reachBytes) → ∃ a, v = F a)
    (hG : ∀ n v x, DataW.trod enc P W 0 (fun _ => true) true n f1.type [v] = some x → (∀ k, k ∈ x.1.weights P f1.type → k ≤ reachBytes) → ∃ b, v = G b)
    (hby : 16 ≤ P.bytesOf e) (hf : DataW.trod enc P W 0 (fun _ => true) true fuel t [.slice a len cap] = some (d, p)) (hsz : ∀ n, n ∈ d.weights P t → n ≤ reachBytes) :
    ∃ l : List (A × B), P2At (fun x => F x.1) (fun x => G x.2) W a len cap l := by
  rcases Go.Deep.open_slice_pairs ht he ce o0 o1 c0 c1 hf with ⟨h1, _⟩ | ⟨ad, ln, cp, m, n, V0, V1, D0, D1, P0, P1, h1, _, h3, _, h5, h6, h7⟩
  · injection h1 with h1 _
    injection h1 with e1 e2 e3
    subst e1 e2 e3
    exact ⟨[], rfl, fun h => by omega, by omega⟩
  · injection h1 with h1 _
    injection h1 with e1 e2 e3
    subst e1 e2 e3
    simp only [if_true] at h5
    subst h5
    injection h6 with h6 _
    have hel : ∀ i, i < len → ∀ k, k ∈ (DataW.agg [D0 i, D1 i]).weights P e → k ≤ reachBytes := by
      intro i hi k hk
      refine hsz k ?_
      rw [h6, DataW.weights, ht]
      refine List.mem_cons_of_mem _ (List.mem_append_left _ (weightsAll_mem hk ?_))
      exact List.mem_map.2 ⟨i, List.mem_range.2 hi, rfl⟩
    have hex : ∀ i, i < len → ∃ q : A × B, W.cell? (ad.add (i * 2)) = some (F q.1) ∧ W.cell? (ad.add (i * 2 + 1)) = some (G q.2) := by
      intro i hi
      obtain ⟨k1, k2, k3, k4⟩ := h7 i (by omega)
      obtain ⟨x, hx⟩ := hF _ _ _ k3 (fun k hk => hel i hi k (by simp only [DataW.weights, he, List.map_cons, List.map_nil, DataW.weightsEach, List.mem_append]; exact .inl hk))
      obtain ⟨y, hy⟩ := hG _ _ _ k4 (fun k hk => hel i hi k (by simp only [DataW.weights, he, List.map_cons, List.map_nil, DataW.weightsEach, List.mem_append]; exact .inr (.inl hk)))
      exact ⟨(x, y), by rw [k1, hx], by rw [k2, hy]⟩
    obtain ⟨l, hl, hq⟩ := list_of len _ hex
    have hb := hsz ((len + (m - len)) * P.bytesOf e) (by
      rw [h6, DataW.weights, ht]
      simp)
    have hrb : reachBytes < 2 ^ 47 := reachBytes_lt
    have hmul : (len + (m - len)) * 16 ≤ (len + (m - len)) * P.bytesOf e := Nat.mul_le_mul_left _ hby
    refine ⟨l, hl, fun hn => ?_, by omega⟩
    obtain ⟨b, o, s⟩ := ad
    have hs : s = none := by
      have h0 := (h7 0 (by omega)).1
      simpa [Addr.add] using World.cell?_spot h0
    subst hs
    refine ⟨b, o, rfl, ?_, fun k x hx => ?_⟩
    · have := World.block_lt_of_cell? W _ (h7 0 (by omega)).1
      rwa [block_of_add] at this
    · have := hq k x hx
      rw [Addr.add_lit, Addr.add_lit] at this
      exact this
def RulesAt (w : World) (v : Value) (_ : Unit) : Prop := ∃ p n c l, v = .slice p n c ∧ RulesIn w p n c l
set_option maxRecDepth 100000 in
theorem rules_arg {H : Type} {enc : TypeId × Value → H} {W : World} {r : Reach} {b0 : Nat} {v : Value} {d : DataW H} {p : List MemPlace}
    (hok : Value.okWide Try.prog W r b0 22 v) (hf : DataW.Trod enc Try.prog W 0 (fun _ => true) true 22 v d p)
    (hsz : ∀ n, n ∈ d.weights Try.prog 22 → n ≤ reachBytes) : ∃ g, RulesAt W v g := by
  obtain ⟨a0, n0, c0, rfl⟩ := Go.WideShapes.okWide_slice Try.underlying22 hok
  obtain ⟨fuel, hf⟩ := hf
  have hS : ∀ n v x, DataW.trod enc Try.prog W 0 (fun _ => true) true n 24 [v] = some x → (∀ k, k ∈ x.1.weights Try.prog 24 → k ≤ reachBytes) → ∃ a : {x : Hd // x.ok W}, v = a.1.v := by
    rintro n v ⟨d, p⟩ h hw
    obtain ⟨a, len, cap, rfl, ⟨zs, hN⟩, hc⟩ := nlw_any h hw
    exact ⟨⟨⟨a, len, cap, zs⟩, hN, hc⟩, rfl⟩
  obtain ⟨l, hE⟩ := p2_argw (A := {x : Hd // x.ok W}) (B := {x : Hd // x.ok W}) (fun a => a.1.v) (fun a => a.1.v) Try.underlying22 Try.underlying31 (by kernel_rfl) rfl rfl (by kernel_rfl) (by kernel_rfl) hS hS (by decide +kernel) hf hsz
  refine ⟨(), a0, n0, c0, l.map (fun x => (x.1.1, x.2.1)), rfl, ⟨by rw [List.length_map]; exact hE.len, fun h0 => ?_, hE.big⟩, fun x hx => ?_, slice_capI Try.underlying22 hok⟩
  · obtain ⟨b, o, e, hb, hc⟩ := hE.at_ h0
    refine ⟨b, o, e, hb, fun k x hx => ?_⟩
    rw [List.getElem?_map, Option.map_eq_some_iff] at hx
    obtain ⟨y, hy, rfl⟩ := hx
    exact hc k y hy
  · obtain ⟨y, _, rfl⟩ := List.mem_map.1 hx
    exact ⟨y.1.2, y.2.2⟩
end Go.Proofs.Ytoiolepengcagaa
namespace Go.Proofs.Ytoiolepengcagaa
open Go.RowKit Go.Shelf Go.ChangeShapes Go.WideShapes
def wk (l : List ByteArray) : Nat := (l.map fun z => z.size + 1).sum
theorem wk_strs {H : Type} (l : List ByteArray) : wk l = Rows.uptoBulkAll (strs (H := H) l) := by
  induction l with
  | nil => rfl
  | cons a l ih =>
    show a.size + 1 + wk l = _
    rw [ih]
    unfold strs
    simp only [List.map_cons, Rows.uptoBulkAll, Rows.uptoBulk]
    rw [Lib.size_eq]
set_option maxRecDepth 100000 in
theorem nlw_bulk {H : Type} {enc : TypeId × Value → H} {W : World} {fuel : Nat} {v : Value} {d : DataW H} {p : List MemPlace}
    (hf : DataW.trod enc Try.prog W 0 (fun _ => true) true fuel 24 [v] = some (d, p))
    (hsz : ∀ n, n ∈ d.weights Try.prog 24 → n ≤ reachBytes) : ∃ a len cap zs, v = .slice a len cap ∧ NLw W a len cap zs ∧ len ≤ cap ∧ wk zs + 1 ≤ Rows.uptoBulk d := by
  have ht := Try.underlying24
  have he := Try.underlying9
  have hc : Try.prog.cellsOf 9 = 1 := by kernel_rfl
  obtain ⟨a, len, cap, rfl, ⟨zs, hN⟩, hcap⟩ := nlw_any hf hsz
  refine ⟨a, len, cap, zs, rfl, hN, hcap, ?_⟩
  have hl := hN.at_.len
  rcases open_strings ht he hc hf with ⟨h1, h2⟩ | ⟨ad, ln, cp, ss, h1, h2, h3, h4, h5, h6, h7, h8⟩
  · injection h1 with h1 _
    injection h1 with e1 e2 e3
    subst e1 e2 e3
    injection h2 with h2 _
    subst h2
    have : zs = [] := List.length_eq_zero_iff.1 hl
    subst this
    exact Nat.le_refl _
  · injection h1 with h1 _
    injection h1 with e1 e2 e3
    subst e1 e2 e3
    injection h6 with h6 _
    simp only [if_true] at h5
    have hz : zs = ss.take len := by
      refine List.ext_getElem (by rw [List.length_take]; omega) fun i hi1 hi2 => ?_
      have h0 : 0 < len := by omega
      obtain ⟨b, o, e, _⟩ := hN.plain h0 _ rfl
      subst e
      have k1 := hN.cellAt i hi1
      have k2 := h7 i (by rw [List.length_take] at hi2; omega)
      rw [Addr.add_lit, k1] at k2
      injection k2 with k2
      injection k2 with k2
      rw [List.getD_eq_getElem?_getD, List.getD_eq_getElem?_getD, List.getElem?_eq_getElem hi1, List.getElem?_eq_getElem (by rw [List.length_take] at hi2; omega)] at k2
      rw [List.getElem_take]
      exact k2
    rw [h6, hz, wk_strs (H := H)]
    simp only [Rows.uptoBulk]
    omega

/-- a slice of texts, of bounded bulk -/
def NLBig (w : World) (v : Value) (_ : Unit) : Prop := ∃ p n c zs, v = .slice p n c ∧ NL w p n c zs ∧ n ≤ 1048576
set_option maxRecDepth 100000 in
theorem nlbig_arg_upto {H : Type} {enc : TypeId × Value → H} {W : World} {r : Reach} {b0 : Nat} {v : Value} {d : DataW H} {p : List MemPlace}
    (_hok : Value.okWide Try.prog W r b0 24 v) (hf : DataW.Trod enc Try.prog W 0 (fun _ => true) true 24 v d p)
    (hsz : ∀ n, n ∈ d.weights Try.prog 24 → n ≤ reachBytes) (hbk : Rows.uptoBulk d ≤ 1048576) : ∃ g, NLBig W v g := by
  obtain ⟨a0, n0, c0, rfl⟩ := Go.WideShapes.okWide_slice Try.underlying24 _hok
  obtain ⟨fuel, hf⟩ := hf
  obtain ⟨zs0, hL⟩ := nl_arg _hok Try.underlying24 Try.underlying9 (by kernel_rfl) hf hsz
  obtain ⟨a, len, cap, zs, hv, hN, hc, hw⟩ := nlw_bulk hf hsz
  injection hv with h1 h2 h3
  refine ⟨(), a0, n0, c0, zs0, rfl, hL, ?_⟩
  have hl := hN.at_.len
  have hk : zs.length ≤ wk zs := by
    unfold wk
    clear hN hL hf hw hl
    induction zs with
    | nil => exact Nat.le_refl _
    | cons z zs ih => simp only [List.map_cons, List.sum_cons, List.length_cons]; omega
  omega
theorem inferOnce_law (w : World) (v0 v1 v2 : Value) (h0 : ∃ g, RulesAt w v0 g) (h1 : ∃ g, InfsAt w v1 g) (h2 : ∃ g, NLBig w v2 g) :
    Calls Try.prog 3 #[v0, v1, v2] w fun e w' => e = .returned (.bool true) ∧ Below w.heap.size w w' := by
  obtain ⟨_, p, n, c, l, rfl, hR⟩ := h0
  obtain ⟨_, q, m, d, k, rfl, hI, _⟩ := h1
  obtain ⟨_, s, t, f, zs, rfl, hZ, ht⟩ := h2
  exact inferOnce_ok p q s n c m d t f l k zs w hR hI hZ ht
end Go.Proofs.Ytoiolepengcagaa
