/- Texts joined: StaleClosedW, NLArg, GraphArg, GenArg. Conditions: theirs. -/
import Derived.Test.YtcgimnokdicmcaaDoorStaleLawsM3
import Derived.Deep.LoopGhost
import Derived.Deep.DeepCutAuto
import Derived.BigQuiet
import Derived.Test.YtcgimnokdicmcaaDoorNamesW
import Derived.WideShapes
import Derived.Test.YtcgimnokdicmcaaDoorGraphW
import Derived.Test.YtcgimnokdicmcaaDoorGraphCheckW
import Derived.ChangeArms
import Derived.Test.YtcgimnokdicmcaaDoorMem
import Derived.ChangeSlices
import Derived.SizedLaws
namespace Go.Proofs.YtcgimnokdicmcaaDoor
open Go.RowKit Go.Shelf
theorem hasI_nat (s : B) (j : Nat) : hasI s (j : Int) = has s j := by simp [hasI]
theorem hasq {s : B} {n : Int} {v : Bool} {w : World} {k : Nat} (h : hasI s n = v) : Calls Tryd.prog 37 #[.int .u64 (un s), .int .i64 n] (w.drewN k) fun e w' => e = .returned (.bool v) ∧ ∃ m, w' = w.drewN m :=
  (has_ok s n _).mono fun _ _ ⟨h1, h2⟩ => ⟨by rw [h1, h], k, h2.symm⟩
/-- whether an edge of a number makes it stale -/
def any1 (x : SD) (s : B) (n a b : Nat) : Bool := decide (a = n) && (has x.dirty b || (decide (x.at_.getD n 0 < x.at_.getD b 0) || has s b))
def isK (g : GD) (x : SD) (s : B) (n j : Nat) : Bool :=
  (decide (x.at_.getD n 0 < 0) || has g.phony n) || (g.edges.take j).any fun e => any1 x s n e.1.toNat e.2.toNat
theorem isK_next {g : GD} {x : SD} {s : B} {n j a b : Nat} (hj : j < g.edges.length) (he : g.edges.getD j (0, 0) = ((a : Int), (b : Int))) :
    isK g x s n (j + 1) = (isK g x s n j || any1 x s n a b) := by
  have h1 : g.edges.take (j + 1) = g.edges.take j ++ [((a : Int), (b : Int))] := by
    rw [List.take_succ_eq_append_getElem hj, ← he, List.getD_eq_getElem?_getD, List.getElem?_eq_getElem hj]; rfl
  unfold isK
  rw [h1, List.any_append]
  simp [Bool.or_assoc]
theorem isK_all {g : GD} {x : SD} {s : B} {n : Nat} (hg : Good g) : isK g x s n g.edges.length = true ↔ Why g x s n := by
  unfold isK Why
  rw [List.take_length, Bool.or_eq_true, Bool.or_eq_true, List.any_eq_true]
  constructor
  · rintro ((h | h) | ⟨⟨a, b⟩, h1, h2⟩)
    · exact .inl (of_decide_eq_true h)
    · exact .inr (.inl h)
    · obtain ⟨e1, e2, e3, e4⟩ := hg.edges _ h1
      simp only at e1 e2 e3 e4
      obtain ⟨a, rfl⟩ := Int.eq_ofNat_of_zero_le e1
      obtain ⟨b, rfl⟩ := Int.eq_ofNat_of_zero_le e3
      simp only [any1, Int.toNat_natCast, Bool.and_eq_true, Bool.or_eq_true, decide_eq_true_eq] at h2
      obtain ⟨rfl, h2⟩ := h2
      refine .inr (.inr ⟨b, (has_rws hg).2 h1, ?_⟩)
      rcases h2 with h2 | h2 | h2
      · exact .inl h2
      · exact .inr (.inr h2)
      · exact .inr (.inl h2)
  · rintro (h | h | ⟨k, h1, h2⟩)
    · exact .inl (.inl (decide_eq_true h))
    · exact .inl (.inr h)
    · refine .inr ⟨((n : Int), (k : Int)), (has_rws hg).1 h1, ?_⟩
      simp only [any1, Int.toNat_natCast, Bool.and_eq_true, Bool.or_eq_true, decide_eq_true_eq, true_and]
      rcases h2 with h2 | h2 | h2
      · exact .inl h2
      · exact .inr (.inr h2)
      · exact .inr (.inl h2)
theorem closed_eq {b i m : Bool} {P Q : Prop} (h : b = true ↔ P ∧ m = true ∧ Q) (h2 : i = true ↔ Q) (hp : P) : b = (i && m) := by
  rw [← h2] at h
  rw [Bool.eq_iff_iff, h, Bool.and_eq_true]
  exact ⟨fun h => ⟨h.2.2, h.2.1⟩, fun h => ⟨hp, h.2, h.1⟩⟩
set_option maxHeartbeats 8000000 in
set_option maxRecDepth 100000 in
theorem staleClosed_walk (v u : Value) (g : GD) (x : SD) (w : World) (h : GrAt w v g) (hx : SnAt w u x) (hT : Tab w) :
    Calls Tryd.prog 8 #[v, u] w fun e w' => e = .returned (.bool true) ∧ Below w.heap.size w w' := by
  have hGr := h
  have hSn := hx
  obtain ⟨p, n, c, q, m, d, rfl, hN, hE⟩ := h.at_
  obtain ⟨p2, n2, c2, rfl, hx1, hx2, hx3⟩ := hx.at_
  have hln := hN.at_.len
  have hlm := hE.len
  subst hln hlm hx1
  have hbn := hN.at_.big
  have hbm := hE.big
  obtain ⟨W, hW, hBW, hS, hC⟩ := args2 w (.slice p g.names.length c) (.slice q g.edges.length d) (.int .u64 (un g.phony : Int)) (.int .u64 (un g.made : Int)) (.slice p2 x.at_.length c2) (.int .u64 (un x.dirty : Int))
  have HC := Lib.hid hC
  have HGr := Lib.hid (hGr.below hBW)
  have HSn := Lib.hid (hSn.below hBW)
  have HT := Lib.hid (hT.below hBW)
  have HE := Lib.hid (hE.below hBW)
  have HXR : Hid (Reads W W.heap.size 1 p2 x.at_.length (iv x.at_)) := by show Reads _ _ _ _ _ _; exact (hx2.below hBW).more hBW.size
  have HFIN : Hid (∀ u, Below W.heap.size W u → Below w.heap.size w u) := by show ∀ u, _; exact fun u hu => hBW.trans (hu.mono (by omega))
  have HSZ : Hid (W.heap.size = w.heap.size + 2) := hS
  obtain ⟨k0, k1, k2, k3, k4, k5⟩ := HC.out W (Below.refl _ _)
  rw [hW] at k0 k1 k2 k3 k4 k5
  clear h hx hGr hSn hT hBW hS hC hx2 hN hE
  go_enter Tryd.func8, Tryd.ntmps8
  go_wp2_with fail
  rw [← hW]
  clear hW k0 k1 k2 k3 k4 k5
  refine (stales_below W HT.out).mono ?_
  rintro e w1 ⟨rfl, hb1⟩
  have HB1 := Lib.hid hb1
  obtain ⟨k0, k1, k2, k3, k4, k5⟩ := HC.out w1 hb1
  clear hb1
  go_wp2_with fail
  refine (Set_ok _ _ g x w1 (HGr.out.below HB1.out) (HSn.out.below HB1.out) (HT.out.belowB (Tab.lt HT.out) HB1.out)).mono ?_
  rintro e w2 ⟨hcase, hb2⟩
  have HB2 := Lib.hid (HB1.out.trans (hb2.mono HB1.out.size))
  clear hb2 k0 k1 k2 k3 k4 k5
  obtain ⟨k0, k1, k2, k3, k4, k5⟩ := HC.out w2 HB2.out
  rcases hcase with ⟨hR, s, o, _, hS, rfl⟩ | ⟨_, E, hE0, rfl⟩
  · have HR := Lib.hid hR
    have HS := Lib.hid hS
    have h64 := hR.good.names
    have hxl := hR.len
    have HXL : Hid (x.at_.length = g.names.length) := hxl
    clear hR hS
    obtain ⟨xl, hxl2⟩ : ∃ xl, xl = x.at_.length := ⟨_, rfl⟩
    rw [← hxl2] at HSn k4 HC HXR hxl ⊢
    have HXL2 : Hid (xl = g.names.length) := hxl
    clear hxl2 hxl
    go_wp2_with fail
    go_loopg [26] g.names.length (fun k i wr => ∃ j : Nat, k + j = g.names.length ∧ i = .int .i64 j ∧ Hid (Below W.heap.size W wr))
    case atStart => exact ⟨0, by omega, rfl, HB2⟩
    case round =>
      obtain ⟨j, hj, rfl, HW⟩ := hrel
      clear k0 k1 k2 k3 k4 k5
      obtain ⟨k0, k1, k2, k3, k4, k5⟩ := HC.out wr HW.out
      by_cases hlt : j < g.names.length
      · obtain ⟨ada, rfl, _, hat⟩ := iv_at ((HXR.out.below HW.out).more HW.out.size) (show j < xl by have := HXL2.out; omega)
        have hi1 : (j : Int) < (xl : Int) := by have := HXL2.out; omega
        have hbp := bit_eqS g.phony j
        have HI0 : Hid (isK g x s j 0 = (decide (x.at_.getD j 0 < 0) || has g.phony j)) := by show _ = _; unfold isK; simp
        have HAL : Hid (isK g x s j g.edges.length = true ↔ Why g x s j) := by show _ ↔ _; exact isK_all HR.out.good
        have HST : Hid (has s j = true ↔ j < g.names.length ∧ has (g.made ||| g.phony) j = true ∧ Why g x s j) := by show _ ↔ _; exact HS.out j
        have HNX : Hid (∀ j2 a b : Nat, j2 < g.edges.length → g.edges.getD j2 (0, 0) = ((a : Int), (b : Int)) → isK g x s j (j2 + 1) = (isK g x s j j2 || (decide (a = j) && (has x.dirty b || (decide (x.at_.getD j 0 < x.at_.getD b 0) || has s b))))) := by
          show ∀ j2 a b : Nat, _
          exact fun j2 a b h1 h2 => isK_next h1 h2
        obtain ⟨t, ht⟩ : ∃ t, t = x.at_.getD j 0 := ⟨_, rfl⟩
        rw [← ht] at hat HI0 HNX
        have HTJ := Lib.hid ht
        clear ht
        go_upto_region 9 with fail
        go_cut [8] (fun b wx => b = .bool (decide (t < 0) || has g.phony j) ∧ wx = wr)
        case first =>
          by_cases t1 : t < 0
          · have hd : decide (t < 0) = true := decide_eq_true t1
            go_wp2_with fail
            go_meet
            exact ⟨by rw [hd]; rfl, rfl⟩
          · have hd : decide (t < 0) = false := decide_eq_false t1
            cases hph : has g.phony j <;> rw [hph] at hbp
            all_goals
              have HPH := Lib.hid hph
              clear hph
              go_wp2_with fail
              go_meet
              exact ⟨by rw [hd, HPH.out]; rfl, rfl⟩
        case rest =>
          obtain ⟨rfl, rfl⟩ := hcut
          generalize hB0 : (decide (t < 0) || has g.phony j) = B0 at *
          clear hB0 hbp
          go_wp2_with fail
          go_loopg [46, 8] g.edges.length (fun k i b wi => ∃ j2 : Nat, k + j2 = g.edges.length ∧ i = .int .i64 j2 ∧ b = .bool (isK g x s j j2) ∧ Hid (Below W.heap.size W wi))
          case atStart => exact ⟨0, by omega, rfl, by rw [HI0.out], HW⟩
          case round =>
            obtain ⟨j2, hj2, rfl, rfl, HWi⟩ := hrel
            clear k0 k1 k2 k3 k4 k5 hat
            by_cases hlt2 : j2 < g.edges.length
            · obtain ⟨bb, o, rfl, hbb, hca, hcb⟩ := (HE.out.below HWi.out).cell (getD_some (0, 0) hlt2)
              have hin : EIn g.names.length (g.edges.getD j2 (0, 0)) := HR.out.good.edges _ (by rw [List.getD_eq_getElem?_getD, List.getElem?_eq_getElem hlt2]; exact List.getElem_mem hlt2)
              have HNy := Lib.hid (HNX.out j2 · · hlt2)
              generalize g.edges.getD j2 (0, 0) = y at *
              obtain ⟨y1, y2⟩ := y
              obtain ⟨h1, h2, h3, h4⟩ := hin
              simp only at h1 h2 h3 h4
              obtain ⟨a1, rfl⟩ := Int.eq_ofNat_of_zero_le h1
              obtain ⟨a2, rfl⟩ := Int.eq_ofNat_of_zero_le h3
              have HN1 := Lib.hid (HNy.out a1 a2 rfl)
              clear HNy h1 h3
              simp only [eF, eG] at hca hcb
              have hca2 : wr.cell? ⟨bb, o + j2 * 2 + 1, none⟩ = some (.int .i64 (a2 : Int)) := hcb
              have ha2 : a2 < xl := by have := HXL2.out; omega
              have hi2 : (a2 : Int) < (xl : Int) := by omega
              obtain ⟨X, hX⟩ : ∃ X : World, X = wr.alloc (.cells #[.int .i64 (a1 : Int), .int .i64 (a2 : Int)] 31) := ⟨_, rfl⟩
              have hBX : Below W.heap.size W X := by rw [hX]; exact HWi.out.alloc HWi.out.size _
              have d1 : X.cell? ⟨wr.heap.size, 0, none⟩ = some (.int .i64 (a1 : Int)) := by rw [hX, World.cell?_alloc_at _ _ _ _ rfl]; rfl
              have d2 : X.cell? ⟨wr.heap.size, 1, none⟩ = some (.int .i64 (a2 : Int)) := by rw [hX, World.cell?_alloc_at _ _ _ _ rfl]; rfl
              obtain ⟨k0, k1, k2, k3, k4, k5⟩ := HC.out wr HWi.out
              go_upto_region 13 with fail
              rw [← hX]
              clear hX k0 k1 k2 k3 k4 k5 hca hca2 hcb
              obtain ⟨k0, k1, k2, k3, k4, k5⟩ := HC.out X hBX
              have hat : X.cell? (ada.add j) = some (.int .i64 t) ∧ X.cell? (ada.add a2) = some (.int .i64 (x.at_.getD a2 0)) := by
                have hxr : Reads X X.heap.size 1 (some ada) xl (iv x.at_) := (HXR.out.below hBX).more hBX.size
                obtain ⟨q1, e1, _, z1⟩ := iv_at hxr (show j < xl by have := HXL2.out; omega)
                obtain ⟨q2, e2, _, z2⟩ := iv_at hxr ha2
                injection e1 with e1
                injection e2 with e2
                subst e1 e2
                rw [← HTJ.out] at z1
                exact ⟨z1, z2⟩
              obtain ⟨hat1, hat2⟩ := hat
              have HBX := Lib.hid hBX
              clear hBX
              obtain ⟨t2, ht2⟩ : ∃ t2, t2 = x.at_.getD a2 0 := ⟨_, rfl⟩
              rw [← ht2] at hat2 HN1
              clear ht2
              cases hk0 : isK g x s j j2
              · have HK0 := Lib.hid hk0
                clear hk0
                by_cases e1 : a1 = j
                · have ed : ((a1 : Int) == (j : Int)) = true := by rw [e1]; simp
                  have HED := Lib.hid (decide_eq_true e1)
                  clear e1
                  cases hd1 : has x.dirty a2
                  · have HD1 : Hid (hasI x.dirty (a2 : Int) = false) := by show _ = _; rw [hasI_nat, hd1]
                    have HD := Lib.hid hd1
                    clear hd1
                    by_cases tt : t < t2
                    · have hdt : decide (t < t2) = true := decide_eq_true tt
                      have HR1 : Hid (isK g x s j (j2 + 1) = true) := by show _ = _; rw [HN1.out, HK0.out, HED.out, HD.out, hdt]; rfl
                      clear HN1
                      go_quiet ((go_at_call 37; exact hasq HD1.out))
                      go_wp2
                      go_roundg (g.edges.length - (j2 + 1))
                      case measure => omega
                      case rel => exact ⟨j2 + 1, by omega, by go_num, by rw [HR1.out], below_drawsP HBX.out _⟩
                    · have hdt : decide (t < t2) = false := decide_eq_false tt
                      obtain ⟨bs, hbs⟩ : ∃ bs, bs = has s a2 := ⟨_, rfl⟩
                      have HSS : Hid (hasI s (a2 : Int) = bs) := by show _ = _; rw [hasI_nat, hbs]
                      have HR1 : Hid (isK g x s j (j2 + 1) = bs) := by show _ = _; rw [HN1.out, HK0.out, HED.out, HD.out, hdt, hbs]; simp
                      clear HN1 hbs
                      go_quiet (first | (go_at_call 37; exact hasq HD1.out) | (go_at_call 37; exact hasq HSS.out))
                      go_wp2
                      go_roundg (g.edges.length - (j2 + 1))
                      case measure => omega
                      case rel => exact ⟨j2 + 1, by omega, by go_num, by rw [HR1.out], below_drawsP HBX.out _⟩
                  · have HD1 : Hid (hasI x.dirty (a2 : Int) = true) := by show _ = _; rw [hasI_nat, hd1]
                    have HR1 : Hid (isK g x s j (j2 + 1) = true) := by show _ = _; rw [HN1.out, HK0.out, HED.out, hd1]; rfl
                    clear HN1 hd1
                    go_quiet ((go_at_call 37; exact hasq HD1.out))
                    go_wp2
                    go_roundg (g.edges.length - (j2 + 1))
                    case measure => omega
                    case rel => exact ⟨j2 + 1, by omega, by go_num, by rw [HR1.out], below_drawsP HBX.out _⟩
                · have ed : ((a1 : Int) == (j : Int)) = false := by rw [beq_eq_false_iff_ne]; omega
                  have HR1 : Hid (isK g x s j (j2 + 1) = false) := by show _ = _; rw [HN1.out, HK0.out, decide_eq_false e1]; rfl
                  clear e1 HN1
                  go_quiet (fail)
                  go_wp2
                  go_roundg (g.edges.length - (j2 + 1))
                  case measure => omega
                  case rel => exact ⟨j2 + 1, by omega, by go_num, by rw [HR1.out], below_drawsP HBX.out _⟩
              · have HR1 : Hid (isK g x s j (j2 + 1) = true) := by show _ = _; rw [HN1.out, hk0]; rfl
                clear HN1
                go_quiet (fail)
                go_wp2
                go_roundg (g.edges.length - (j2 + 1))
                case measure => omega
                case rel => exact ⟨j2 + 1, by omega, by go_num, by rw [HR1.out], below_drawsP HBX.out _⟩
            · obtain rfl : j2 = g.edges.length := by omega
              obtain ⟨k0, k1, k2, k3, k4, k5⟩ := HC.out wr HWi.out
              have HI1 : Hid (hasI s (j : Int) = (isK g x s j g.edges.length && has (g.made ||| g.phony) j)) := by
                show _ = _
                rw [hasI_nat]
                exact closed_eq HST.out HAL.out hlt
              have HI2 : Hid (hasI (g.made ||| g.phony) (j : Int) = has (g.made ||| g.phony) j) := by show _ = _; exact hasI_nat _ _
              clear HAL HST HNX HI0
              cases hi : isK g x s j g.edges.length
              · rw [hi, Bool.false_and] at HI1
                clear hi
                go_wp2_with (go_at_call 37; refine (has_ok _ _ _).mono ?_; rintro e w' ⟨rfl, rfl⟩; rw [HI1.out])
                go_roundg (g.names.length - (j + 1))
                case measure => omega
                case rel => exact ⟨j + 1, by omega, by go_num, HWi⟩
              · rw [hi, Bool.true_and] at HI1
                clear hi
                generalize has (g.made ||| g.phony) j = bm at *
                go_wp2_with (go_at_call 37; refine (has_ok _ _ _).mono ?_; rintro e w' ⟨rfl, rfl⟩; (first | rw [HI1.out] | rw [HI2.out]))
                cases bm
                all_goals
                  go_wp2
                  go_roundg (g.names.length - (j + 1))
                  case measure => omega
                  case rel => exact ⟨j + 1, by omega, by go_num, HWi⟩
      · obtain rfl : j = g.names.length := by omega
        go_wp2
        go_ret
        exact ⟨rfl, HFIN.out _ HW.out⟩
  · obtain ⟨i1, i2⟩ := int_ne' hE0
    go_wp2
    go_ret
    exact ⟨rfl, HFIN.out _ HB2.out⟩
end Go.Proofs.YtcgimnokdicmcaaDoor
namespace Go.Proofs.YtcgimnokdicmcaaDoor
open Go.RowKit Go.ChangeShapes
theorem shape_lt {w : World} {b : Nat} {r : TypeId × Nat} (h : w.shape? b = some r) : b < w.heap.size := by
  unfold World.shape? at h
  rcases Nat.lt_or_ge b w.heap.size with hb | hb
  · exact hb
  · rw [Array.getElem?_eq_none hb] at h; cases h
theorem slice_plain {P : Program} {W : World} {b0 : Nat} {r : Reach} {a : Option Addr} {len cap : Nat} {t e : TypeId} (ht : P.underlying t = some (.slice e)) (h : Value.okWide P W r b0 t (.slice a len cap)) :
    (a = none → cap = 0) ∧ ∀ ad, a = some ad → ∃ b off, ad = ⟨b, off, none⟩ ∧ b < W.heap.size := by
  simp only [Value.okWide, ht, Cell.okWide] at h
  unfold Cell.ok at h
  rw [ht] at h
  cases a with
  | none =>
    refine ⟨fun _ => ?_, fun ad h => by cases h⟩
    revert h
    cases len <;> cases cap <;> simp
  | some ad =>
    refine ⟨fun h => (by cases h), fun ad' h' => ?_⟩
    injection h' with h'
    subst h'
    obtain ⟨_, _, _, hs, row, cells, hsh, _⟩ := h
    obtain ⟨b, o, s⟩ := ad
    simp only at hs
    subst hs
    exact ⟨b, o, rfl, shape_lt hsh⟩
def NLArg (w : World) (p : Option Addr) (n c : Nat) : Prop := ∃ zs, NL w p n c zs
set_option maxRecDepth 100000 in
theorem nl_arg {H : Type} {enc : TypeId × Value → H} {W : World} {r : Reach} {b0 fuel len cap : Nat} {a : Option Addr} {d : DataW H} {p : List MemPlace}
    (hok : Value.okWide Tryd.prog W r b0 22 (.slice a len cap))
    (ht : Tryd.prog.underlying 22 = some (.slice 9)) (he : Tryd.prog.underlying 9 = some .string) (hc : Tryd.prog.cellsOf 9 = 1)
    (hf : DataW.trod enc Tryd.prog W 0 (fun _ => true) true fuel 22 [.slice a len cap] = some (d, p))
    (hsz : ∀ n, n ∈ d.weights Tryd.prog 22 → n ≤ reachBytes) : NLArg W a len cap := by
  obtain ⟨ss, hS⟩ := str_arg ht he hc hf hsz
  obtain ⟨h1, h2⟩ := slice_plain ht hok
  refine ⟨ss, hS, h1, h2, ?_⟩
  rcases open_strings ht he hc hf with ⟨h1, h2⟩ | ⟨ad, ln, cp, zs, h1, h2, h3, h4, h5, h6, h7, h8⟩
  · injection h1 with h1 _
    injection h1 with e1 e2 e3
    subst e1 e2 e3
    omega
  · injection h1 with h1 _
    injection h1 with e1 e2 e3
    subst e1 e2 e3
    injection h6 with h6 h6'
    have hw : d.weights Tryd.prog 22 = ((strs (H := H) (zs.take len)).length + (strs (H := H) (zs.drop len)).length) * Tryd.prog.bytesOf 9 :: (DataW.weightsAll Tryd.prog 9 (strs (H := H) (zs.take len)) ++ DataW.weightsAll Tryd.prog 9 (strs (H := H) (zs.drop len))) := by
      rw [h6, DataW.weights, ht]
    have hb := hsz _ (by rw [hw]; exact List.mem_cons_self)
    have hby : Tryd.prog.bytesOf 9 = 16 := by kernel_rfl
    rw [hby] at hb
    unfold reachBytes at hb
    simp only [if_true] at h5
    have hl1 : (strs (H := H) (zs.take len)).length = len := by unfold strs; rw [List.length_map, List.length_take]; omega
    rw [hl1] at hb
    omega
end Go.Proofs.YtcgimnokdicmcaaDoor
namespace Go.Proofs.YtcgimnokdicmcaaDoor
open Go.RowKit Go.ChangeShapes Go.WideShapes
set_option maxRecDepth 100000 in
theorem graph_arg {H : Type} {enc : TypeId × Value → H} {W : World} {r : Reach} {b0 : Nat} {v : Value} {d : DataW H} {p : List MemPlace}
    (hok : Value.okWide Tryd.prog W r b0 26 v) (hf : DataW.Trod enc Tryd.prog W 0 (fun _ => true) true 26 v d p)
    (hsz : ∀ n, n ∈ d.weights Tryd.prog 26 → n ≤ reachBytes) : ∃ g, GrAt W v g := by
  have ht := Tryd.underlying26
  have hok2 := hok
  simp only [Value.okWide, ht] at hok2
  obtain ⟨cs, rfl, hcs, ts, hts, _, hcell⟩ := hok2
  have hc4 : cs.size = 4 := by rw [hcs]; kernel_rfl
  have hts4 : Tryd.prog.cellTypes Tryd.prog.depth 26 = some [22, 23, 24, 24] := by kernel_rfl
  rw [hts] at hts4
  injection hts4 with hts4
  subst hts4
  obtain ⟨fuel, hf⟩ := hf
  obtain ⟨xs, k, _, hxy, hlen, hxl, hff⟩ := DataW.trod_struct ht hf
  obtain ⟨l, rfl⟩ : ∃ l : List Value, cs = l.toArray := ⟨cs.toList, by simp⟩
  have hl4 : l.length = 4 := by simpa using hc4
  match l, hl4, xs, hxl with
  | [v0, v1, v2, v3], _, [y0, y1, y2, y3], _ =>
    have s0 : Tryd.prog.cellsOf 22 = 1 := by kernel_rfl
    have s1 : Tryd.prog.cellsOf 23 = 1 := by kernel_rfl
    have s2 : Tryd.prog.cellsOf 24 = 1 := by kernel_rfl
    have g0 := hff 0 _ rfl
    have g1 := hff 1 _ rfl
    have g2 := hff 2 _ rfl
    have g3 := hff 3 _ rfl
    simp [s0, s1, s2, Value.cells] at g0 g1 g2 g3
    obtain ⟨u0, hu0, o0⟩ := hcell 0 v0 rfl
    obtain ⟨u1, hu1, o1⟩ := hcell 1 v1 rfl
    injection hu0 with hu0
    injection hu1 with hu1
    subst hu0 hu1
    obtain ⟨z2, e2, _, w2⟩ := DataW.trod_int Tryd.underlying24 g2
    obtain ⟨z3, e3, _, w3⟩ := DataW.trod_int Tryd.underlying24 g3
    injection e2 with e2 _
    injection e3 with e3 _
    subst e2 e3
    obtain ⟨m2, rfl⟩ := un_of w2
    obtain ⟨m3, rfl⟩ := un_of w3
    injection hxy with hd _
    have hwt : ∀ n, (n ∈ y0.1.weights Tryd.prog 22 ∨ n ∈ y1.1.weights Tryd.prog 23) → n ≤ reachBytes := by
      intro n hn
      refine hsz n ?_
      rw [hd]
      simp only [DataW.weights, ht, List.map_cons, List.map_nil, DataW.weightsEach, List.mem_append]
      rcases hn with hn | hn
      · exact .inl hn
      · exact .inr (.inl hn)
    obtain ⟨d0, p0⟩ := y0
    obtain ⟨d1, p1⟩ := y1
    have ok0 : Value.okWide Tryd.prog W r b0 22 v0 := by
      simp only [Value.okWide, Tryd.underlying22]; exact o0
    have ok1 : Value.okWide Tryd.prog W r b0 23 v1 := by
      simp only [Value.okWide, Tryd.underlying23]; exact o1
    obtain ⟨a0, n0, c0, rfl⟩ := okWide_slice Tryd.underlying22 ok0
    obtain ⟨a1, n1, c1, rfl⟩ := okWide_slice Tryd.underlying23 ok1
    obtain ⟨zs, hN⟩ := nl_arg ok0 Tryd.underlying22 Tryd.underlying9 (by kernel_rfl) g0 (fun n hn => hwt n (.inl hn))
    have hI : ∀ n v x, DataW.trod enc Tryd.prog W 0 (fun _ => true) true n 3 [v] = some x → ∃ a : Int, v = Value.int .i64 a := by
      intro n v x h
      obtain ⟨z, e, _⟩ := DataW.trod_int Tryd.underlying3 h
      injection e with e _
      exact ⟨z, e⟩
    obtain ⟨es, hE⟩ := p2_arg (Value.int .i64) (Value.int .i64) Tryd.underlying23 Tryd.underlying31 (by kernel_rfl) rfl rfl (by kernel_rfl) (by kernel_rfl) hI hI (by decide +kernel) g1 (fun n hn => hwt n (.inr hn))
    exact ⟨⟨zs, es, m2, m3⟩, ⟨a0, n0, c0, a1, n1, c1, rfl, hN, hE⟩⟩
end Go.Proofs.YtcgimnokdicmcaaDoor
namespace Go.Proofs.YtcgimnokdicmcaaDoor
open Go.RowKit Go.ChangeShapes
/-- a slice whose elements are one cell each: its cells -/
theorem gen_arg {H : Type} {enc : TypeId × Value → H} {P : Program} {W : World} {t e : TypeId} {fuel len cap : Nat} {a : Option Addr} {x : DataW H × List MemPlace} {R : Value → Prop}
    (ht : P.underlying t = some (.slice e)) (hc : P.cellsOf e = 1)
    (hel : ∀ n cs y, DataW.trod enc P W 0 (fun _ => true) true n e cs = some y → ∃ u, cs = [u] ∧ R u)
    (hf : DataW.trod enc P W 0 (fun _ => true) true fuel t [.slice a len cap] = some x) :
    len ≤ cap ∧ cap ≤ maxLen ∧ (cap = 0 ∨ ∃ els rest, x.1 = .slice els rest ∧ els.length + rest.length = cap) ∧ ∃ vs : List Value, vs.length = len ∧ Reads W W.heap.size 1 a len vs ∧ ∀ v ∈ vs, R v := by
  rcases DataW.trod_slice ht hf with ⟨h1, h2⟩ | ⟨ad, ln, cp, elems, rest, n, _, h1, rfl, hb, hl, hm, hlen, hel', hsp, _⟩
  · injection h1 with h1 _
    injection h1 with e1 e2 e3
    subst e1 e2 e3
    exact ⟨Nat.le_refl _, Nat.zero_le _, .inl rfl, [], rfl, Reads.none_, fun v hv => by cases hv⟩
  · injection h1 with h1 _
    injection h1 with e1 e2 e3
    subst e1 e2 e3
    have cell : ∀ i, i < len → ∃ u, W.cell? (ad.add i) = some u ∧ R u := fun i hi => by
      have h3 := hel' i hi
      have hi' : i < elems.length := by omega
      rw [List.getElem?_eq_getElem hi', hc, Nat.mul_one, Option.bind_eq_some_iff] at h3
      obtain ⟨cs, h4, h5⟩ := h3
      obtain ⟨u, rfl, hr⟩ := hel _ _ _ h5
      exact ⟨u, cell_of_cells?_one h4, hr⟩
    refine ⟨hl, hm, .inr ⟨_, _, rfl, ?_⟩, (List.range len).map (fun i => (W.cell? (ad.add i)).getD undef), by simp, ⟨by simp, fun hn => ⟨ad, rfl, ?_, fun j u hj => ?_⟩⟩, fun v hv => ?_⟩
    · rw [List.length_map, List.length_map, hlen, (hsp rfl).1]; omega
    · obtain ⟨u, h4, _⟩ := cell 0 hn
      have := World.block_lt_of_cell? W _ h4
      rwa [block_of_add] at this
    · rw [List.getElem?_map, Option.map_eq_some_iff] at hj
      obtain ⟨i, hi, rfl⟩ := hj
      obtain ⟨hi1, hi2⟩ := List.getElem?_eq_some_iff.1 hi
      rw [List.getElem_range] at hi2
      subst hi2
      obtain ⟨u, h4, _⟩ := cell j (by simpa using hi1)
      rw [h4]; rfl
    · rw [List.mem_map] at hv
      obtain ⟨i, hi, rfl⟩ := hv
      obtain ⟨u, h4, hr⟩ := cell i (by simpa using hi)
      rw [h4]; exact hr
end Go.Proofs.YtcgimnokdicmcaaDoor
