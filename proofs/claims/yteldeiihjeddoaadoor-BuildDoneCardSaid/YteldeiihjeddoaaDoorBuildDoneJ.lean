/- Texts joined: UsersP0, UsersG, BuildDoneW, BuildLaws2. Conditions: theirs. -/
import Derived.Test.YteldeiihjeddoaaDoorBuildLawsM7
import Derived.Test.YteldeiihjeddoaaDoorBuildLawsM3
import Derived.Test.YteldeiihjeddoaaDoorGraphCheckW
import Derived.Test.YteldeiihjeddoaaDoorNLSetW
import Derived.Test.YteldeiihjeddoaaDoorBuildLawsM6
namespace Go.Proofs.YteldeiihjeddoaaDoor
theorem good_turn {g : GD} {ts : List E2} (hG : Good g) (ht : TurnOf g.edges ts) : Good ⟨g.names, ts, g.phony, g.made⟩ :=
  ⟨hG.names, hG.ok, hG.rise, fun x hx => by
    have h := hG.edges _ ((ht.mem x).1 hx)
    exact ⟨h.2.2.1, h.2.2.2, h.1, h.2.1⟩, ht.rise, hG.sets⟩
end Go.Proofs.YteldeiihjeddoaaDoor
namespace Go.Proofs.YteldeiihjeddoaaDoor
open Go.RowKit Go.Shelf
/-- the empty graph -/
def G00 : GD := ⟨[], [], 0#64, 0#64⟩
theorem grat_zero (w : World) : GrAt w (.agg #[.slice none 0 0, .slice none 0 0, .int .u64 0, .int .u64 0]) G00 :=
  ⟨none, 0, 0, none, 0, 0, rfl, ⟨⟨rfl, Reads.none_, fun s hs => (by cases hs), by omega⟩, fun _ => rfl, fun ad h => (by cases h), by omega⟩, ⟨rfl, fun h => absurd h (by omega), by omega⟩⟩
theorem good_sizes {g : GD} (hG : Good g) : ∀ s ∈ g.names, s.size ≤ 4611686018427387904 := fun s hs => by
  have h1 := (okN_mem rfl).1 hG.ok s hs
  have h2 := nameE_size h1
  omega
/-- a graph of a call's own, as it can be read -/
theorem grat_own {w : World} {b1 b2 n m : Nat} {g : GD} {p q : Option Addr} {c d : Nat} (hG : Good g) (hb : m ≤ 8796093022208)
    (ho : w.ownsRow b1 9 1 (.slice p n c) n (strsV g.names)) (he : w.ownsRow b2 35 2 (.slice q m d) m (cells2 eF eG g.edges)) :
    GrAt w (.agg #[.slice p n c, .slice q m d, .int .u64 (un g.phony : Int), .int .u64 (un g.made : Int)]) g := by
  have hl : g.names.length = n := by have := ho.1; simpa [strsV] using this
  have h64 := hG.names
  exact ⟨p, _, c, q, _, d, rfl, NL_own ho (good_sizes hG) (by omega), P2At.own he hb⟩
end Go.Proofs.YteldeiihjeddoaaDoor
namespace Go.Proofs.YteldeiihjeddoaaDoor
open Go.RowKit Go.Shelf
set_option maxHeartbeats 400000 in
theorem Below_no (n : Nat) (hn : 64 < n) (w : World) : Calls Tryd.prog 19 #[.int .i64 (n : Int)] w fun e w' => e = .returned (.tuple #[.int .u64 0, .int .i64 4]) ∧ w = w' := by
  have h1 : (64 : Int) < (n : Int) := by omega
  go_enter Tryd.func19, Tryd.ntmps19
  go_wp2
  go_ret2
  exact ⟨rfl, rfl⟩
/-- Below's answer, whatever is asked -/
theorem Below_any (n : Nat) : ∃ (A : B) (E : Int), ((E = 0 ∧ n ≤ 64 ∧ A = belowB n) ∨ (E ≠ 0 ∧ 64 < n)) ∧
    ∀ w, Calls Tryd.prog 19 #[.int .i64 (n : Int)] w fun e w' => e = .returned (.tuple #[.int .u64 (un A : Int), .int .i64 E]) ∧ w = w' := by
  rcases Nat.lt_or_ge 64 n with h | h
  · exact ⟨0#64, 4, .inr ⟨by decide, h⟩, fun w => Below_no n h w⟩
  · exact ⟨belowB n, 0, .inl ⟨rfl, h, rfl⟩, fun w => Below_ok n h w⟩
/-- all that is stale is made -/
theorem mset_all {g : GD} {x : SD} {s : B} (hs : Stale g x s) (h64 : g.names.length ≤ 64) : mset g (belowB g.names.length) s = s := by
  refine has_ext fun n => ?_
  unfold mset
  rw [has_and]
  cases hn : has s n
  · simp
  · have hlt := ((hs n).1 hn).1
    have : has (cls (rws g) (belowB g.names.length)) n = true := has_cls.2 ⟨n, by rw [has_below _ n (by omega)]; exact decide_eq_true hlt, Rch.refl n⟩
    rw [this]; rfl
theorem turn_rows {g : GD} {ts : List E2} (hG : Good g) (ht : TurnOf g.edges ts) {a b : Nat} (h : has (row (rws g) a) b = true) : has (row (rws ⟨g.names, ts, g.phony, g.made⟩) b) a = true :=
  (has_rws (good_turn hG ht)).2 ((ht.mem _).2 ((has_rws hG).1 h))
theorem good_phony {g : GD} (hG : Good g) {k : Nat} (h : has g.phony k = true) : k < g.names.length := by
  have := inB_iff.1 (by have h2 := hG.sets; unfold inB; exact decide_eq_true h2) k (by rw [has_or, h]; rfl)
  exact this
set_option maxHeartbeats 8000000 in
set_option maxRecDepth 100000 in
theorem buildDone_walk (v u : Value) (g : GD) (x : SD) (now : Int) (w : World) (h : GrAt w v g) (hx : SnAt w u x) (hT : Tab w) :
    Calls Tryd.prog 11 #[v, u, .int .i64 now] w fun e w' => e = .returned (.bool true) ∧ Below w.heap.size w w' := by
  have hGr := h
  have hSn := hx
  obtain ⟨p, n, c, q, m, d, rfl, hN, hE⟩ := h.at_
  obtain ⟨p2, n2, c2, rfl, hx1, hx2, hx3⟩ := hx.at_
  have hln := hN.at_.len
  have hlm := hE.len
  subst hln hlm hx1
  have hbm := hE.big
  have hbn := hN.at_.big
  obtain ⟨W, hW, hBW, hS, hC⟩ := args2 w (.slice p g.names.length c) (.slice q g.edges.length d) (.int .u64 (un g.phony : Int)) (.int .u64 (un g.made : Int)) (.slice p2 x.at_.length c2) (.int .u64 (un x.dirty : Int))
  have HC := Lib.hid hC
  have HGr := Lib.hid (hGr.below hBW)
  have HSn := Lib.hid (hSn.below hBW)
  have HT := Lib.hid (hT.below hBW)
  have HFIN : Hid (∀ u, Below W.heap.size W u → Below w.heap.size w u) := by show ∀ u, _; exact fun u hu => hBW.trans (hu.mono (by omega))
  obtain ⟨A, EA, hA, hBL⟩ := Below_any g.names.length
  have HA := Lib.hid hA
  have HBL := Lib.hid hBL
  obtain ⟨k0, k1, k2, k3, k4, k5⟩ := HC.out W (Below.refl _ _)
  rw [hW] at k0 k1 k2 k3 k4 k5
  clear h hx hGr hSn hT hBW hS hC hx2 hN hE hA hBL
  go_enter Tryd.func11, Tryd.ntmps11
  go_wp2_with fail
  rw [← hW]
  clear hW k0 k1 k2 k3 k4 k5
  refine (builds_below W HT.out).mono ?_
  rintro e w1 ⟨rfl, hb1⟩
  have HB1 := Lib.hid hb1
  obtain ⟨k0, k1, k2, k3, k4, k5⟩ := HC.out w1 hb1
  clear hb1
  go_wp2_with (go_at_call 19; refine (HBL.out _).mono ?_; rintro e w' ⟨rfl, rfl⟩)
  refine (Run_ok _ _ g x A now w1 (HGr.out.below HB1.out) (HSn.out.below HB1.out) (HT.out.belowB (Tab.lt HT.out) HB1.out)).mono ?_
  rintro e w2 ⟨hcase, hb2⟩
  have HB2 := Lib.hid (HB1.out.trans (hb2.mono HB1.out.size))
  clear hb2 k0 k1 k2 k3 k4 k5
  rcases hcase with ⟨s, o, pr, pa, cr, da, rfl, hR⟩ | ⟨hno, E, hE0, rfl⟩
  · have hF := hR.fit.1
    have h64 := hF.1.good.names
    have hEA : EA = 0 ∧ A = belowB g.names.length := by
      rcases HA.out with ⟨h1, _, h2⟩ | ⟨_, h2⟩
      · exact ⟨h1, h2⟩
      · omega
    obtain ⟨rfl, rfl⟩ := hEA
    have hms := mset_all hR.stale h64
    have hat := hR.at_
    rw [hms] at hat ⊢
    obtain ⟨T, hTd⟩ : ∃ T, T = ran x s o now := ⟨_, rfl⟩
    have hTl : T.length = x.at_.length := by rw [hTd, ran_len]
    have HXL : Hid (x.at_.length = g.names.length) := hF.1.len
    have HG := Lib.hid hF.1.good
    have HRT : Hid (Right g ⟨T, 0#64⟩) := by show Right _ _; rw [hTd]; exact ran_right hF.1 hR.ord hR.fit.2.2.1 hR.fit.2.2.2.1
    have HFT : Hid (Fit g ⟨T, 0#64⟩) := by show Fit _ _; exact ⟨HRT.out, o, hR.ord⟩
    have HDONE : Hid (∀ (t : B) (ts : List E2), TurnOf g.edges ts → Stale g ⟨T, 0#64⟩ t → t &&& ~~~cls (rws ⟨g.names, ts, g.phony, g.made⟩) g.phony = 0#64) := by
      show ∀ (t : B) (ts : List E2), _
      intro t ts hts ht
      rw [hTd] at ht
      exact build_done hF.1 hR.ord hR.fit.2.2.1 (fun n hn => hR.fit.2.2.2.2 n (by rw [HXL.out]; exact hn)) hR.stale ht (fun a b hab => turn_rows HG.out hts hab) (fun n hn => hn)
    have HAT : Hid (w2.ownsRow w1.heap.size 2 1 (.slice pa x.at_.length da) x.at_.length (iv T)) := by show World.ownsRow _ _ _ _ _ _ _; rw [hTd]; exact hat
    have HTL := Lib.hid hTl
    generalize (mrow o s).length = rl at *
    clear hF hR hat hms hTd hTl
    obtain ⟨X, hX, hXH, hXB, hXS⟩ := laid_made w2 (.slice pr rl cr) (.slice pa x.at_.length da)
    have HBX : Hid (Below W.heap.size W X) := by show Below _ _ _; exact HB2.out.trans (hXB.mono HB2.out.size)
    have HAX : Hid (Reads X X.heap.size 1 pa x.at_.length (iv T)) := by show Reads _ _ _ _ _ _; exact Reads.of_own (own_below HAT.out hXB)
    have HCX : Hid (∀ y : World, Below X.heap.size X y → (y.cell? ⟨w.heap.size, 0, none⟩ = some (.slice p g.names.length c) ∧ y.cell? ⟨w.heap.size, 1, none⟩ = some (.slice q g.edges.length d) ∧ y.cell? ⟨w.heap.size, 2, none⟩ = some (.int .u64 (un g.phony : Int)) ∧ y.cell? ⟨w.heap.size, 3, none⟩ = some (.int .u64 (un g.made : Int)) ∧
        y.cell? ⟨w.heap.size + 1, 0, none⟩ = some (.slice p2 x.at_.length c2) ∧ y.cell? ⟨w.heap.size + 1, 1, none⟩ = some (.int .u64 (un x.dirty : Int))) ∧ y.cell? ⟨w2.heap.size, 0, none⟩ = some (.slice pr rl cr) ∧ y.cell? ⟨w2.heap.size, 1, none⟩ = some (.slice pa x.at_.length da)) := by
      show ∀ y : World, _
      intro y hy
      have hb := (hy.block w2.heap.size (by omega)).trans hXH
      obtain ⟨z0, z1, _, _⟩ := bx2 hb
      exact ⟨HC.out y (HBX.out.trans (hy.mono HBX.out.size)), z0, z1⟩
    clear HAT hXB hXS hXH
    go_upto_region 5 with fail
    rw [← hX]
    clear hX
    have HOK : Hid (allOk [0, 0] = true) := by show _ = _; rfl
    have hXY : Below X.heap.size X (X.alloc (.cells #[.int .i64 0, .int .i64 0] 31)) := (Below.refl _ _).alloc (Nat.le_refl _) _
    obtain ⟨⟨k0, k1, k2, k3, k4, k5⟩, m0, m1⟩ := HCX.out _ hXY
    go_wp2_with (go_at_call 18; refine (good2 _ _ _).mono ?_; rw [HOK.out]; rintro e w' ⟨rfl, rfl⟩)
    obtain ⟨Y, hY⟩ : ∃ Y, Y = X.alloc (.cells #[.int .i64 0, .int .i64 0] 31) := ⟨_, rfl⟩
    have HXY : Hid (Below X.heap.size X Y) := by show Below _ _ _; rw [hY]; exact hXY
    rw [← hY]
    clear hY hXY k0 k1 k2 k3 k4 k5 m0 m1
    have HBY : Hid (Below W.heap.size W Y) := by show Below _ _ _; exact HBX.out.trans (HXY.out.mono HBX.out.size)
    have hsn : SnAt Y (.agg #[.slice pa x.at_.length da, .int .u64 (un (SD.mk T 0#64).dirty : Int)]) ⟨T, 0#64⟩ := ⟨pa, x.at_.length, da, rfl, HTL.out, (HAX.out.below HXY.out).more HXY.out.size, hx3⟩
    refine (Set_ok _ _ g ⟨T, 0#64⟩ Y (HGr.out.below HBY.out) hsn (HT.out.belowB (Tab.lt HT.out) HBY.out)).mono ?_
    rintro e w3 ⟨hcase, hb3⟩
    have HX3 := Lib.hid (HXY.out.trans (hb3.mono HXY.out.size))
    clear hb3 hsn
    rcases hcase with ⟨_, t, o2, _, hSt, rfl⟩ | ⟨hnf, _⟩
    · have HST := Lib.hid hSt
      clear hSt
      have HB3 : Hid (Below W.heap.size W w3) := by show Below _ _ _; exact HBX.out.trans (HX3.out.mono HBX.out.size)
      obtain ⟨⟨k0, k1, k2, k3, k4, k5⟩, m0, m1⟩ := HCX.out w3 HX3.out
      go_wp2_with fail
      refine (Turn_ok _ g w3 (HGr.out.below HB3.out)).mono ?_
      rintro e w7 ⟨hcase, hb7⟩
      have HX7 := Lib.hid (HX3.out.trans (hb7.mono HX3.out.size))
      clear hb7 k0 k1 k2 k3 k4 k5 m0 m1
      rcases hcase with ⟨_, pt, qt, ct, dt, ts, hts, _, rfl, hon, hoe⟩ | ⟨hno, _⟩
      · have hGt : GrAt w7 (.agg #[.slice pt g.names.length ct, .slice qt g.edges.length dt, .int .u64 (un g.phony : Int), .int .u64 (un g.made : Int)]) ⟨g.names, ts, g.phony, g.made⟩ := grat_own (g := ⟨g.names, ts, g.phony, g.made⟩) (good_turn HG.out hts) hbm hon hoe
        have HTO := Lib.hid hts
        obtain ⟨Z, hZ⟩ : ∃ Z, Z = w7.alloc (.cells #[.slice pt g.names.length ct, .slice qt g.edges.length dt, .int .u64 (un g.phony : Int), .int .u64 (un g.made : Int)] 26) := ⟨_, rfl⟩
        have hBZ : Below w7.heap.size w7 Z := by rw [hZ]; exact (Below.refl _ _).alloc (Nat.le_refl _) _
        have HGt := Lib.hid (hGt.below hBZ)
        have HXZ : Hid (Below X.heap.size X Z) := by show Below _ _ _; exact HX7.out.trans (hBZ.mono HX7.out.size)
        have hxc := box4 (w := Z) (b := w7.heap.size) (by rw [hZ]; exact han _ _)
        obtain ⟨k0, k1, k2, k3, _⟩ := hxc
        rw [hZ] at k0 k1 k2 k3
        clear hts hon hoe hGt hBZ
        go_wp2_with fail
        rw [← hZ]
        clear hZ k0 k1 k2 k3
        refine (Rows2_ok _ _ Z HGt.out).mono ?_
        rintro e w8 ⟨hcase, hb8⟩
        have HX8 := Lib.hid (HXZ.out.trans (hb8.mono HXZ.out.size))
        clear hb8
        rcases hcase with ⟨_, pq, cq, rfl, hown⟩ | ⟨hno, _⟩
        · have hown2 : w8.ownsRow Z.heap.size 24 1 (.slice pq g.names.length cq) g.names.length (u64sG (rws ⟨g.names, ts, g.phony, g.made⟩)) := hown
          have HRA := Lib.hid (rows_at hown2 h64)
          clear hown hown2
          have HOK3 : Hid (allOk [0, 0, 0] = true) := by show _ = _; rfl
          obtain ⟨V, hV⟩ : ∃ V, V = w8.alloc (.cells #[.int .i64 0, .int .i64 0, .int .i64 0] 31) := ⟨_, rfl⟩
          have h8V : Below w8.heap.size w8 V := by rw [hV]; exact (Below.refl _ _).alloc (Nat.le_refl _) _
          have HXV : Hid (Below X.heap.size X V) := by show Below _ _ _; exact HX8.out.trans (h8V.mono HX8.out.size)
          have HRV := Lib.hid (HRA.out.below h8V)
          have HBV : Hid (Below W.heap.size W V) := by show Below _ _ _; exact HBX.out.trans (HXV.out.mono HBX.out.size)
          obtain ⟨⟨k0, k1, k2, k3, k4, k5⟩, m0, m1⟩ := HCX.out V HXV.out
          rw [hV] at k0 k1 k2 k3 k4 k5 m0 m1
          have HCK : Hid (chks (rws ⟨g.names, ts, g.phony, g.made⟩) [g.phony] = 0) := by
            show _ = _
            refine chks_bits (valid_rws (good_turn HG.out HTO.out)) fun y hy k hk => ?_
            have : y = g.phony := by simpa using hy
            subst this
            rw [rws_len]
            exact good_phony HG.out hk
          have HZ0 := Lib.hid (HDONE.out t ts HTO.out HST.out)
          clear h8V
          go_wp2_with (go_at_call 18; refine (good3 _ _ _ w8).mono ?_; rw [HOK3.out]; rintro e w' ⟨rfl, rfl⟩)
          rw [← hV]
          clear hV k0 k1 k2 k3 k4 k5 m0 m1
          refine (From_yes _ _ cq (rws ⟨g.names, ts, g.phony, g.made⟩) g.phony HCK.out V HRV.out (HT.out.belowB (Tab.lt HT.out) HBV.out)).mono ?_
          rintro e w9 ⟨rfl, hb9⟩
          have HB9 := Lib.hid (HBV.out.trans (hb9.mono HBV.out.size))
          have hzz : ((un (t &&& ~~~cls (rws ⟨g.names, ts, g.phony, g.made⟩) g.phony) : Int) == 0) = true := by rw [HZ0.out]; rfl
          clear hb9
          go_wp2
          go_ret
          exact ⟨by simp, HFIN.out _ HB9.out⟩
        · exact absurd (good_turn HG.out HTO.out) hno
      · exact absurd HG.out hno
    · exact absurd HFT.out hnf
  · obtain ⟨i1, i2⟩ := int_ne' hE0
    have HOK : Hid (allOk [EA, E] = false) := by show _ = _; simp [allOk, hE0]
    obtain ⟨X, hX, hXH, hXB, hXS⟩ := laid_made w2 (.slice none 0 0) (.slice none 0 0)
    have HBX : Hid (Below W.heap.size W X) := by show Below _ _ _; exact HB2.out.trans (hXB.mono HB2.out.size)
    have hXY : Below X.heap.size X (X.alloc (.cells #[.int .i64 EA, .int .i64 E] 31)) := (Below.refl _ _).alloc (Nat.le_refl _) _
    obtain ⟨m0, m1, _, _⟩ := bx2 ((hXY.block w2.heap.size (by omega)).trans hXH)
    have HBY : Hid (Below W.heap.size W (X.alloc (.cells #[.int .i64 EA, .int .i64 E] 31))) := by show Below _ _ _; exact HBX.out.trans (hXY.mono HBX.out.size)
    clear hXB hXS hXH hXY
    go_upto_region 5 with fail
    rw [← hX]
    clear hX
    go_wp2_with (go_at_call 18; refine (good2 _ _ _).mono ?_; rw [HOK.out]; rintro e w' ⟨rfl, rfl⟩)
    go_ret
    exact ⟨by simp, HFIN.out _ HBY.out⟩
end Go.Proofs.YteldeiihjeddoaaDoor
namespace Go.Proofs.YteldeiihjeddoaaDoor
open Go.RowKit
theorem buildDone_law (v u : Value) (now : Int) (w : World) (hT : Tab w) (h : ∃ g, GrAt w v g) (hx : ∃ x, SnAt w u x) :
    Calls Tryd.prog 11 #[v, u, .int .i64 now] w fun e w' => e = .returned (.bool true) ∧ Below w.heap.size w w' := by
  obtain ⟨g, hg⟩ := h
  obtain ⟨x, hx⟩ := hx
  exact buildDone_walk v u g x now w hg hx hT
end Go.Proofs.YteldeiihjeddoaaDoor
