/- Texts joined: WhyArg, ErrP, ErrGW, ErrSW, WhySoundW, WhyLawB. Conditions: theirs. -/
import Derived.Test.YteldeiihjeddoaaDoorWhyLawAM7
import Derived.Test.YteldeiihjeddoaaDoorWhyLawAM2
import Derived.ChangeArms
import Derived.WideShapes
import Derived.Test.YteldeiihjeddoaaDoorWhyLawAM6
namespace Go.Proofs.YteldeiihjeddoaaDoor
open Go.RowKit Go.ChangeShapes Go.WideShapes
theorem add_plain3 (b o j : Nat) : (⟨b, o, none⟩ : Addr).add j = ⟨b, o + j, none⟩ := by
  unfold Addr.add
  split
  · rename_i h; subst h; rfl
  · rfl
set_option maxRecDepth 100000 in
theorem why_read {H : Type} {enc : TypeId × Value → H} {W : World} : ∀ (fuel : Nat) (cs : List Value) (d : DataW H) (p : List MemPlace),
    DataW.trod enc Tryd.prog W 0 (fun _ => true) true fuel 52 cs = some (d, p) →
    ∃ (a : WE) (t : List WE), cs = [.int .i64 a.num, .int .i64 a.cause, .int .i64 a.need, .slice a.p a.many a.cap] ∧ WLinks W (a :: t) := by
  intro fuel
  induction fuel using Nat.strongRecOn with
  | _ fuel ih =>
    intro cs d p hf
    have ht := Tryd.underlying52
    obtain ⟨xs, k, hfu, hxy, hlen, hxl, hff⟩ := DataW.trod_struct ht hf
    have hc4 : Tryd.prog.cellsOf 52 = 4 := by kernel_rfl
    have s0 : Tryd.prog.cellsOf 3 = 1 := by kernel_rfl
    have s3 : Tryd.prog.cellsOf 50 = 1 := by kernel_rfl
    rw [hc4] at hlen
    match cs, hlen, xs, hxl with
    | [v0, v1, v2, v3], _, [y0, y1, y2, y3], _ =>
      have g0 := hff 0 _ rfl
      have g1 := hff 1 _ rfl
      have g2 := hff 2 _ rfl
      have g3 := hff 3 _ rfl
      simp [s0, s3] at g0 g1 g2 g3
      obtain ⟨z0, e0, _, _⟩ := DataW.trod_int Tryd.underlying3 g0
      obtain ⟨z1, e1, _, _⟩ := DataW.trod_int Tryd.underlying3 g1
      obtain ⟨z2, e2, _, _⟩ := DataW.trod_int Tryd.underlying3 g2
      injection e0 with e0 _
      injection e1 with e1 _
      injection e2 with e2 _
      subst e0 e1 e2
      rcases DataW.trod_slice Tryd.underlying50 g3 with ⟨h, _⟩ | ⟨ad, len, cap, elems, rest, n, hk, h, _, _, _, _, hel, hi, _, _⟩
      · injection h with h _
        subst h
        exact ⟨⟨z0, z1, z2, none, 0, 0⟩, [], rfl, rfl⟩
      · injection h with h _
        subst h
        rcases Nat.eq_zero_or_pos len with h0 | h0
        · subst h0
          exact ⟨⟨z0, z1, z2, some ad, 0, cap⟩, [], rfl, rfl⟩
        · have hx := hi 0 h0
          obtain ⟨x0, hx0⟩ : ∃ x0, elems[0]? = some x0 := ⟨_, List.getElem?_eq_getElem (by omega)⟩
          rw [hx0, Nat.zero_mul, hc4] at hx
          obtain ⟨cs2, hcs2, htr⟩ := Option.bind_eq_some_iff.1 hx
          obtain ⟨_, hl2, hcell⟩ := World.cells?_some hcs2
          obtain ⟨b, t, hb, hw⟩ := ih n (by omega) cs2 _ _ htr
          subst hb
          have a0 : ad.add 0 = ad := by unfold Addr.add; simp
          rw [a0] at hcell
          have c0 := hcell 0 (by omega)
          have c1 := hcell 1 (by omega)
          have c2 := hcell 2 (by omega)
          have c3 := hcell 3 (by omega)
          obtain ⟨kb, o, s⟩ := ad
          have hs : s = none := by
            rw [a0] at c0
            exact World.cell?_spot c0
          subst hs
          rw [add_plain3] at c0 c1 c2 c3
          exact ⟨⟨z0, z1, z2, some ⟨kb, o, none⟩, len, cap⟩, b :: t, rfl, h0, ⟨kb, o, rfl, World.block_lt_of_cell? W _ c0, c0, c1, c2, c3⟩, hw⟩
/-- the reason of a law -/
def WhyAt (w : World) (v : Value) (a : WE) (t : List WE) : Prop := v = a.v ∧ WLinks w (a :: t)
set_option maxRecDepth 100000 in
theorem why_arg {H : Type} {enc : TypeId × Value → H} {W : World} {r : Reach} {b0 : Nat} {v : Value} {d : DataW H} {p : List MemPlace}
    (hok : Value.okWide Tryd.prog W r b0 52 v) (hf : DataW.Trod enc Tryd.prog W 0 (fun _ => true) true 52 v d p) : ∃ a t, WhyAt W v a t := by
  have ht := Tryd.underlying52
  have hok2 := hok
  simp only [Value.okWide, ht] at hok2
  obtain ⟨cs, rfl, _, _⟩ := hok2
  obtain ⟨fuel, hf⟩ := hf
  obtain ⟨a, t, h1, h2⟩ := why_read fuel _ d p hf
  obtain ⟨l, rfl⟩ : ∃ l : List Value, cs = l.toArray := ⟨cs.toList, by simp⟩
  refine ⟨a, t, ?_, h2⟩
  have : l = [.int .i64 a.num, .int .i64 a.cause, .int .i64 a.need, .slice a.p a.many a.cap] := by simpa [Value.cells] using h1
  rw [this]; rfl
end Go.Proofs.YteldeiihjeddoaaDoor
namespace Go.Proofs.YteldeiihjeddoaaDoor
open Classical in
/-- what graph.Check answers -/
noncomputable def errG (g : GD) : Int :=
  if g.names.length ≤ 64 then if okN g.names g.names.length then if Rise g.names then if ∀ x ∈ g.edges, EIn g.names.length x then if ERise g.edges then if (g.phony ||| g.made) &&& ~~~belowB g.names.length = 0#64 then 0 else 4 else 3 else 4 else 3 else 3 else 2
theorem errG_len {g : GD} (h : ¬ g.names.length ≤ 64) : errG g = 2 := by unfold errG; rw [if_neg h]
theorem errG_ok {g : GD} (h1 : g.names.length ≤ 64) (h : ¬ okN g.names g.names.length) : errG g = 3 := by unfold errG; rw [if_pos h1, if_neg h]
theorem errG_rise {g : GD} (h1 : g.names.length ≤ 64 ∧ okN g.names g.names.length) (h : ¬ Rise g.names) : errG g = 3 := by unfold errG; rw [if_pos h1.1, if_pos h1.2, if_neg h]
theorem errG_in {g : GD} (h1 : g.names.length ≤ 64 ∧ okN g.names g.names.length) (h2 : Rise g.names) {k : Nat} (hk : k < g.edges.length) (h : ¬ EIn g.names.length (g.edges.getD k (0, 0))) : errG g = 4 := by
  unfold errG
  rw [if_pos h1.1, if_pos h1.2, if_pos h2, if_neg]
  intro hall
  exact h (hall _ (by rw [List.getD_eq_getElem?_getD, List.getElem?_eq_getElem hk]; exact List.getElem_mem hk))
theorem errG_erise {g : GD} (h1 : g.names.length ≤ 64 ∧ okN g.names g.names.length) (h2 : Rise g.names) (h3 : ∀ x ∈ g.edges, EIn g.names.length x) (h : ¬ ERise g.edges) : errG g = 3 := by
  unfold errG; rw [if_pos h1.1, if_pos h1.2, if_pos h2, if_pos h3, if_neg h]
theorem errG_sets {g : GD} (h1 : g.names.length ≤ 64 ∧ okN g.names g.names.length) (h2 : Rise g.names) (h3 : ∀ x ∈ g.edges, EIn g.names.length x) (h4 : ERise g.edges) (h : ¬ (g.phony ||| g.made) &&& ~~~belowB g.names.length = 0#64) : errG g = 4 := by
  unfold errG; rw [if_pos h1.1, if_pos h1.2, if_pos h2, if_pos h3, if_pos h4, if_neg h]
theorem errG_good {g : GD} (h : Good g) : errG g = 0 := by
  unfold errG; rw [if_pos h.names, if_pos h.ok, if_pos h.rise, if_pos h.edges, if_pos h.erise, if_pos h.sets]
theorem errG_zero {g : GD} (h : errG g = 0) : Good g := by
  refine Classical.byContradiction fun hn => ?_
  revert h
  unfold errG
  split
  · split
    · split
      · split
        · split
          · split
            · rename_i h1 h2 h3 h4 h5 h6; exact absurd ⟨h1, h2, h3, h4, h5, h6⟩ hn
            · decide
          · decide
        · decide
      · decide
    · decide
  · decide
open Classical in
/-- what stale.Check answers -/
noncomputable def errS (g : GD) (x : SD) : Int :=
  if Good g then if x.at_.length = g.names.length then if RTo x x.at_.length then if ∀ k, has x.dirty k = true → k < g.names.length then if ∃ o, KOrd (rws g) o 0#64 then if ThereTo g x x.at_.length then 0 else 5 else 8 else 4 else 4 else 1 else errG g
theorem errS_g {g : GD} {x : SD} (h : ¬ Good g) : errS g x = errG g := by unfold errS; rw [if_neg h]
theorem errS_len {g : GD} {x : SD} (h1 : Good g) (h : ¬ x.at_.length = g.names.length) : errS g x = 1 := by unfold errS; rw [if_pos h1, if_neg h]
theorem errS_rng {g : GD} {x : SD} (h1 : Good g) (h2 : x.at_.length = g.names.length) {k : Nat} (hk : k < x.at_.length) (h : x.at_.getD k 0 < -1 ∨ 1099511627776 < x.at_.getD k 0) : errS g x = 4 := by
  unfold errS
  rw [if_pos h1, if_pos h2, if_neg]
  intro hr
  have := hr k hk
  omega
theorem errS_dirty {g : GD} {x : SD} (h1 : Good g) (h2 : x.at_.length = g.names.length) (h3 : RTo x x.at_.length) (h : ¬ ∀ k, has x.dirty k = true → k < g.names.length) : errS g x = 4 := by
  unfold errS; rw [if_pos h1, if_pos h2, if_pos h3, if_neg h]
theorem errS_ord {g : GD} {x : SD} (h1 : Good g) (h2 : x.at_.length = g.names.length) (h3 : RTo x x.at_.length) (h4 : ∀ k, has x.dirty k = true → k < g.names.length) {o : List Nat} {left : B} (h : KOrd (rws g) o left) (hs : Stuck (rws g) left) (h0 : left ≠ 0#64) : errS g x = 8 := by
  unfold errS
  rw [if_pos h1, if_pos h2, if_pos h3, if_pos h4, if_neg]
  rintro ⟨o2, h5⟩
  exact h0 ((stuck_zero_iff h hs h5 (fun n hn => by simp [has_zero] at hn)).2 rfl)
theorem errS_there {g : GD} {x : SD} (h1 : Good g) (h2 : x.at_.length = g.names.length) (h3 : RTo x x.at_.length) (h4 : ∀ k, has x.dirty k = true → k < g.names.length) {o : List Nat} (h5 : KOrd (rws g) o 0#64) {k : Nat} (hk : k < x.at_.length) (ht : x.at_.getD k 0 < 0) (hh : has (g.made ||| g.phony) k = false) : errS g x = 5 := by
  unfold errS
  rw [if_pos h1, if_pos h2, if_pos h3, if_pos h4, if_pos ⟨o, h5⟩, if_neg]
  intro hall
  have := hall k hk ht
  rw [hh] at this
  cases this
theorem errS_ne {g : GD} {x : SD} (hF : ¬ Fit g x) : errS g x ≠ 0 := by
  unfold errS
  split
  · rename_i h1
    split
    · rename_i h2
      split
      · rename_i h3
        split
        · rename_i h4
          split
          · rename_i h5
            split
            · rename_i h6
              exact absurd ⟨⟨h1, h2, fun n hn => h3 n (by rw [h2]; exact hn), h4, fun n hn => h6 n (by rw [h2]; exact hn)⟩, h5⟩ hF
            · decide
          · decide
        · decide
      · decide
    · decide
  · rename_i h1
    exact fun h => h1 (errG_zero h)
end Go.Proofs.YteldeiihjeddoaaDoor
namespace Go.Proofs.YteldeiihjeddoaaDoor
open Go.RowKit Go.Shelf
set_option maxHeartbeats 4000000 in
set_option maxRecDepth 100000 in
theorem CheckGE_ok (v : Value) (g : GD) (w : World) (h : GrAt w v g) :
    Calls Tryd.prog 34 #[v] w fun e w' => e = .returned (.int .i64 (errG g)) ∧ Below w.heap.size w w' := by
  obtain ⟨p, n, c, q, m, d, rfl, hN, hE⟩ := h.at_
  have hln := hN.at_.len
  have hlm := hE.len
  subst hln hlm
  have hbn := hN.at_.big
  have hbm := hE.big
  obtain ⟨W, hW⟩ : ∃ W, W = w.alloc (.cells #[.slice p g.names.length c, .slice q g.edges.length d, .int .u64 (un g.phony : Int), .int .u64 (un g.made : Int)] 26) := ⟨_, rfl⟩
  have hBW : Below w.heap.size w W := by rw [hW]; exact (Below.refl _ _).alloc (Nat.le_refl _) _
  have HS : Hid (w.heap.size < W.heap.size) := by show _ < _; rw [hW]; simp
  have HC : Hid (∀ u : World, Below W.heap.size W u → u.cell? ⟨w.heap.size, 0, none⟩ = some (.slice p g.names.length c) ∧ u.cell? ⟨w.heap.size, 1, none⟩ = some (.slice q g.edges.length d) ∧ u.cell? ⟨w.heap.size, 2, none⟩ = some (.int .u64 (un g.phony : Int)) ∧ u.cell? ⟨w.heap.size, 3, none⟩ = some (.int .u64 (un g.made : Int))) := by
    show ∀ u : World, _ → _
    intro u hu
    rw [hu.cell HS.out, hu.cell HS.out, hu.cell HS.out, hu.cell HS.out, hW]
    refine ⟨?_, ?_, ?_, ?_⟩ <;> (rw [World.cell?_alloc_at _ _ _ _ rfl]; rfl)
  have HN := Lib.hid (hN.below hBW)
  have HE := Lib.hid (hE.below hBW)
  have HBW := Lib.hid hBW
  obtain ⟨k0, k1, k2, k3⟩ := HC.out W (Below.refl _ _)
  rw [hW] at k0 k1 k2 k3
  clear hN hE hBW h
  by_cases h64 : g.names.length ≤ 64
  · by_cases hok : okN g.names g.names.length
    · go_enter Tryd.func34, Tryd.ntmps34
      go_wp2_with fail
      rw [← hW]
      clear hW k0 k1 k2 k3
      refine (Sort_yes _ _ _ g.names _ HN.out hok).mono ?_
      rintro e w2 ⟨gg, cg, rfl, _, hb2⟩
      have HB2 := Lib.hid hb2
      obtain ⟨k0, k1, k2, k3⟩ := HC.out w2 hb2
      clear hb2
      go_wp2_with fail
      refine (risesS_ok _ _ _ g.names _ (HN.out.below HB2.out)).mono ?_
      rintro e w3 ⟨hcase, qq, rfl⟩
      rcases hcase with ⟨rfl, hr⟩ | ⟨rfl, hr⟩
      · have HR := Lib.hid hr
        have HB3 : Hid (Below W.heap.size W (w2.drewN qq)) := by show Below _ _ _; exact below_drawsP HB2.out qq
        clear hr
        obtain ⟨w3, hw3⟩ : ∃ w3, w3 = w2.drewN qq := ⟨_, rfl⟩
        rw [← hw3] at HB3 ⊢
        clear hw3 HB2 k0 k1 k2 k3
        obtain ⟨k0, k1, k2, k3⟩ := HC.out w3 HB3.out
        generalize (sortN g.names).length = sl at *
        have HH : Hid (g.names.length ≤ 64 ∧ okN g.names g.names.length) := by show _ ∧ _; exact ⟨h64, hok⟩
        clear hok
        go_wp2
        go_loopw [31] (fun i wr => ∃ k : Nat, k ≤ g.edges.length ∧ i = .int .i64 k ∧ Hid (EAll g k) ∧ Hid (Below W.heap.size W wr)) (fun i _ => g.edges.length - (intOf i).toNat)
        case atStart => exact ⟨0, Nat.zero_le _, rfl, show EAll g 0 from fun x hx => by simp at hx, HB3⟩
        case round =>
          clear k0 k1 k2 k3
          obtain ⟨k, hk, rfl, HA, HW⟩ := hrel
          have HFIN : Hid (∀ u, Below W.heap.size W u → Below w.heap.size w u) := by show ∀ u, _; exact fun u hu => HBW.out.trans (hu.mono (Nat.le_of_lt HS.out))
          by_cases hlt : k < g.edges.length
          · obtain ⟨b, o, rfl, hb, hca, hcb⟩ := (HE.out.below HW.out).cell (getD_some (0, 0) hlt)
            have HX := Lib.hid (eall_next hlt HA.out)
            have HY := Lib.hid (errG_in HH.out HR.out hlt)
            generalize g.edges.getD k (0, 0) = x at *
            obtain ⟨x1, x2⟩ := x
            simp only [eF, eG] at hca hcb
            have hca2 : wr.cell? ⟨b, o + k * 2 + 1, none⟩ = some (.int .i64 x2) := hcb
            have HB4 : Hid (Below W.heap.size W (wr.alloc (.cells #[.int .i64 x1, .int .i64 x2] 35))) := by show Below _ _ _; exact HW.out.alloc HW.out.size _
            clear hcb
            by_cases g1 : x1 < 0
            · have HN4 := Lib.hid (HY.out (fun h => by have := h.1; simp only at this; omega))
              clear HX HY
              go_wp2
              go_ret
              exact ⟨by rw [HN4.out]; rfl, HFIN.out _ HB4.out⟩
            by_cases g2 : (g.names.length : Int) ≤ x1
            · have HN4 := Lib.hid (HY.out (fun h => by have := h.2.1; simp only at this; omega))
              clear HX HY
              go_wp2
              go_ret
              exact ⟨by rw [HN4.out]; rfl, HFIN.out _ HB4.out⟩
            by_cases g3 : x2 < 0
            · have HN4 := Lib.hid (HY.out (fun h => by have := h.2.2.1; simp only at this; omega))
              clear HX HY
              go_wp2
              go_ret
              exact ⟨by rw [HN4.out]; rfl, HFIN.out _ HB4.out⟩
            by_cases g4 : (g.names.length : Int) ≤ x2
            · have HN4 := Lib.hid (HY.out (fun h => by have := h.2.2.2; simp only at this; omega))
              clear HX HY
              go_wp2
              go_ret
              exact ⟨by rw [HN4.out]; rfl, HFIN.out _ HB4.out⟩
            have HN4 := Lib.hid (HX.out ⟨by simp only; omega, by simp only; omega, by simp only; omega, by simp only; omega⟩)
            clear HX HY
            go_wp2
            go_roundw
            case rel => exact ⟨k + 1, by omega, by go_num, HN4.out, HB4.out⟩
            case measure => simp [intOf]; omega
          · obtain rfl : k = g.edges.length := by omega
            obtain ⟨k0, k1, k2, k3⟩ := HC.out wr HW.out
            have HAll : Hid (∀ x ∈ g.edges, EIn g.names.length x) := by
              show ∀ x ∈ g.edges, _
              have := HA.out
              unfold EAll at this
              rw [List.take_length] at this
              exact this
            go_wp2_with fail
            refine (risesE_ok _ _ _ g.edges _ (HE.out.below HW.out)).mono ?_
            rintro e w5 ⟨hcase, hb5⟩
            have HB5 := Lib.hid (HW.out.trans (hb5.mono HW.out.size))
            clear hb5 k0 k1 k2 k3
            obtain ⟨k0, k1, k2, k3⟩ := HC.out w5 HB5.out
            rcases hcase with ⟨rfl, hr⟩ | ⟨rfl, hr⟩
            · have HR5 := Lib.hid hr
              clear hr
              by_cases hz : (g.phony ||| g.made) &&& ~~~belowB g.names.length = 0#64
              · have HG : Hid (Good g) := by show Good g; exact ⟨HH.out.1, HH.out.2, HR.out, HAll.out, HR5.out, hz⟩
                have hzz : (((un ((g.phony ||| g.made) &&& ~~~belowB g.names.length) : Nat) : Int) != 0) = false := by rw [hz]; rfl
                clear hz
                go_wp2_with (go_at_call 19; refine (Below_ok _ h64 _).mono ?_; rintro e w' ⟨rfl, rfl⟩)
                go_ret
                exact ⟨by rw [errG_good HG.out]; rfl, HFIN.out _ HB5.out⟩
              · have HG : Hid (errG g = 4) := by show _ = _; exact errG_sets HH.out HR.out HAll.out HR5.out hz
                have hzz : (((un ((g.phony ||| g.made) &&& ~~~belowB g.names.length) : Nat) : Int) != 0) = true := by
                  rw [bne_iff_ne]
                  intro e
                  exact hz (un_inj (by rw [show un 0#64 = 0 from rfl]; omega))
                clear hz
                go_wp2_with (go_at_call 19; refine (Below_ok _ h64 _).mono ?_; rintro e w' ⟨rfl, rfl⟩)
                go_ret
                exact ⟨by rw [HG.out]; rfl, HFIN.out _ HB5.out⟩
            · have HG : Hid (errG g = 3) := by show _ = _; exact errG_erise HH.out HR.out HAll.out hr
              clear hr
              go_wp2
              go_ret
              exact ⟨by rw [HG.out]; rfl, HFIN.out _ HB5.out⟩
      · have HG : Hid (errG g = 3) := by show _ = _; exact errG_rise ⟨h64, hok⟩ hr
        clear hr
        go_wp2
        go_ret
        exact ⟨by rw [HG.out]; rfl, HBW.out.trans ((below_drawsP HB2.out qq).mono (Nat.le_of_lt HS.out))⟩
    · have HG : Hid (errG g = 3) := by show _ = _; exact errG_ok h64 hok
      go_enter Tryd.func34, Tryd.ntmps34
      go_wp2_with fail
      rw [← hW]
      clear hW k0 k1 k2 k3
      refine (Sort_no _ _ _ g.names _ HN.out.at_ hok).mono ?_
      rintro e w2 ⟨rfl, rfl⟩
      go_wp2
      go_ret
      exact ⟨by rw [HG.out]; rfl, HBW.out⟩
  · have HG : Hid (errG g = 2) := by show _ = _; exact errG_len h64
    go_enter Tryd.func34, Tryd.ntmps34
    go_wp2
    go_ret
    rw [← hW]
    exact ⟨by rw [HG.out]; rfl, HBW.out⟩
set_option maxHeartbeats 2000000 in
set_option maxRecDepth 100000 in
theorem Rows_no (v : Value) (g : GD) (w : World) (h : GrAt w v g) (hN : ¬ Good g) : Calls Tryd.prog 22 #[v] w fun e w' => e = .returned (.tuple #[.slice none 0 0, .int .i64 (errG g)]) ∧ Below w.heap.size w w' := by
  have hGr := h
  obtain ⟨p, n, c, q, m, d, rfl, _, _⟩ := h.at_
  obtain ⟨W, hW⟩ : ∃ W, W = w.alloc (.cells #[.slice p n c, .slice q m d, .int .u64 (un g.phony : Int), .int .u64 (un g.made : Int)] 26) := ⟨_, rfl⟩
  have hBW : Below w.heap.size w W := by rw [hW]; exact (Below.refl _ _).alloc (Nat.le_refl _) _
  have hs : w.heap.size ≤ W.heap.size := hBW.size
  have HCk := Lib.hid (CheckGE_ok _ g W (hGr.below hBW))
  have HFIN : Hid (∀ u, Below W.heap.size W u → Below w.heap.size w u) := by show ∀ u, _; exact fun u hu => hBW.trans (hu.mono hs)
  obtain ⟨k0, k1, k2, k3⟩ : W.cell? ⟨w.heap.size, 0, none⟩ = some (.slice p n c) ∧ W.cell? ⟨w.heap.size, 1, none⟩ = some (.slice q m d) ∧ W.cell? ⟨w.heap.size, 2, none⟩ = some (.int .u64 (un g.phony : Int)) ∧ W.cell? ⟨w.heap.size, 3, none⟩ = some (.int .u64 (un g.made : Int)) := by
    rw [hW]
    refine ⟨?_, ?_, ?_, ?_⟩ <;> (rw [World.cell?_alloc_at _ _ _ _ rfl]; rfl)
  rw [hW] at k0 k1 k2 k3
  obtain ⟨i1, i2⟩ := int_ne' (fun h => hN (errG_zero h))
  clear h hGr hBW hs hN
  go_enter Tryd.func22, Tryd.ntmps22
  go_wp2_with fail
  rw [← hW]
  clear hW k0 k1 k2 k3
  refine HCk.out.mono ?_
  rintro e w2 ⟨rfl, hb2⟩
  have HB2 := Lib.hid hb2
  clear hb2
  obtain ⟨E, hE⟩ : ∃ E, E = errG g := ⟨_, rfl⟩
  have HEQ := Lib.hid hE
  rw [← hE] at i1 i2 ⊢
  clear hE
  go_wp2
  go_ret2
  exact ⟨by rw [← HEQ.out]; rfl, HFIN.out _ HB2.out⟩
end Go.Proofs.YteldeiihjeddoaaDoor
namespace Go.Proofs.YteldeiihjeddoaaDoor
open Go.RowKit Go.Shelf
set_option maxHeartbeats 4000000 in
set_option maxRecDepth 100000 in
theorem scheck_err (v u : Value) (g : GD) (x : SD) (w : World) (h : GrAt w v g) (hx : SnAt w u x) (hT : Tab w) : Calls Tryd.prog 45 #[v, u] w fun e w' => (Fit g x ∨ e = .returned (.tuple #[.slice none 0 0, .slice none 0 0, .int .i64 (errS g x)])) ∧ Below w.heap.size w w' := by
  have hGr := h
  obtain ⟨p, n, c, q, m, d, rfl, hN, hE⟩ := h.at_
  obtain ⟨p2, n2, c2, rfl, hx1, hx2, hx3⟩ := hx.at_
  have hln := hN.at_.len
  have hlm := hE.len
  subst hln hlm hx1
  have hbn := hN.at_.big
  have hbm := hE.big
  obtain ⟨W, hW⟩ : ∃ W, W = (w.alloc (.cells #[.slice p g.names.length c, .slice q g.edges.length d, .int .u64 (un g.phony : Int), .int .u64 (un g.made : Int)] 26)).alloc (.cells #[.slice p2 x.at_.length c2, .int .u64 (un x.dirty : Int)] 29) := ⟨_, rfl⟩
  have hBW : Below w.heap.size w W := by rw [hW]; exact ((Below.refl _ _).alloc (Nat.le_refl _) _).alloc (by simp) _
  have HS : Hid (w.heap.size + 1 < W.heap.size) := by show _ < _; rw [hW]; simp
  have HS0 : Hid (w.heap.size < W.heap.size) := by show _ < _; rw [hW]; simp; omega
  have HC : Hid (∀ u : World, Below W.heap.size W u → u.cell? ⟨w.heap.size, 0, none⟩ = some (.slice p g.names.length c) ∧ u.cell? ⟨w.heap.size, 1, none⟩ = some (.slice q g.edges.length d) ∧ u.cell? ⟨w.heap.size, 2, none⟩ = some (.int .u64 (un g.phony : Int)) ∧ u.cell? ⟨w.heap.size, 3, none⟩ = some (.int .u64 (un g.made : Int)) ∧
      u.cell? ⟨w.heap.size + 1, 0, none⟩ = some (.slice p2 x.at_.length c2) ∧ u.cell? ⟨w.heap.size + 1, 1, none⟩ = some (.int .u64 (un x.dirty : Int))) := by
    show ∀ u : World, _ → _
    intro u hu
    rw [hu.cell HS0.out, hu.cell HS0.out, hu.cell HS0.out, hu.cell HS0.out, hu.cell HS.out, hu.cell HS.out, hW]
    refine ⟨?_, ?_, ?_, ?_, ?_, ?_⟩
    all_goals first
      | (rw [World.cell?_alloc_lt _ _ _ (by simp), World.cell?_alloc_at _ _ _ _ rfl]; rfl)
      | (rw [World.cell?_alloc_at _ _ _ _ (by simp)]; rfl)
  have hrows : Calls Tryd.prog 22 #[.agg #[.slice p g.names.length c, .slice q g.edges.length d, .int .u64 (un g.phony : Int), .int .u64 (un g.made : Int)]] W fun e w' => ((Good g ∧ ∃ (pr : Option Addr) (cr : Nat), e = .returned (.tuple #[.slice pr g.names.length cr, .int .i64 0]) ∧ w'.ownsRow W.heap.size 24 1 (.slice pr g.names.length cr) g.names.length (u64sG (rws g))) ∨ (¬ Good g ∧ e = .returned (.tuple #[.slice none 0 0, .int .i64 (errG g)]))) ∧ Below W.heap.size W w' := by
    by_cases hgd : Good g
    · refine (Rows2_ok _ g W (hGr.below hBW)).mono ?_
      rintro e w' ⟨hc, hb⟩
      rcases hc with ⟨_, pr, cr, rfl, ho⟩ | ⟨hno, _⟩
      · exact ⟨.inl ⟨hgd, pr, cr, rfl, ho⟩, hb⟩
      · exact absurd hgd hno
    · exact (Rows_no _ g W (hGr.below hBW) hgd).mono fun e w' h => ⟨.inr ⟨hgd, h.1⟩, h.2⟩
  have HRows := Lib.hid hrows
  clear hrows
  have HBW := Lib.hid hBW
  have HXR : Hid (Reads W W.heap.size 1 p2 x.at_.length (iv x.at_)) := by show Reads _ _ _ _ _ _; exact (hx2.below hBW).more hBW.size
  have HT := Lib.hid (hT.below hBW)
  have HFIN : Hid (∀ u, Below W.heap.size W u → Below w.heap.size w u) := by show ∀ u, _; exact fun u hu => HBW.out.trans (hu.mono (Nat.le_of_lt HS0.out))
  obtain ⟨k0, k1, k2, k3, k4, k5⟩ := HC.out W (Below.refl _ _)
  rw [hW] at k0 k1 k2 k3 k4 k5
  clear hN hE hBW h hGr hx hx2 hT
  go_enter Tryd.func45, Tryd.ntmps45
  go_wp2_with fail
  rw [← hW]
  clear hW k0 k1 k2 k3 k4 k5
  refine HRows.out.mono ?_
  rintro e w2 ⟨hcase, hb2⟩
  have HB2 := Lib.hid hb2
  obtain ⟨k0, k1, k2, k3, k4, k5⟩ := HC.out w2 hb2
  clear hb2
  rcases hcase with ⟨hG, pr, cr, rfl, hown⟩ | ⟨hnG, rfl⟩
  · have HG := Lib.hid hG
    have h64 := hG.names
    have HRA := Lib.hid (rows_at hown hG.names)
    clear hown hG
    by_cases g1 : x.at_.length = g.names.length
    · have hb1 : ((x.at_.length : Int) != (g.names.length : Int)) = false := by rw [g1]; simp
      have HG1 := Lib.hid g1
      clear g1
      have HXR2 : Hid (Reads w2 w2.heap.size 1 p2 x.at_.length (iv x.at_)) := by show Reads _ _ _ _ _ _; exact (HXR.out.below HB2.out).more HB2.out.size
      go_wp2
      go_loop [35] (fun i => ∃ k : Nat, k ≤ x.at_.length ∧ i = .int .i64 k ∧ Hid (RTo x k)) (fun i => x.at_.length - (intOf i).toNat)
      case atStart => exact ⟨0, Nat.zero_le _, rfl, show RTo x 0 from fun n hn => by omega⟩
      case round =>
        obtain ⟨k, hk, rfl, HRT⟩ := hrel
        by_cases hlt : k < x.at_.length
        · obtain ⟨ad, rfl, _, hcx⟩ := iv_at HXR2.out hlt
          have HRn := Lib.hid (rto_next HRT.out)
          have HER : Hid (x.at_.getD k 0 < -1 ∨ 1099511627776 < x.at_.getD k 0 → errS g x = 4) := by
            show _ → _
            exact fun h => errS_rng HG.out HG1.out hlt h
          generalize x.at_.getD k 0 = t at *
          by_cases t1 : t < -1
          · go_wp2
            go_ret3
            exact ⟨.inr (by rw [HER.out (.inl t1)]; rfl), HFIN.out _ HB2.out⟩
          by_cases t2 : (1099511627776 : Int) < t
          · go_wp2
            go_ret3
            exact ⟨.inr (by rw [HER.out (.inr t2)]; rfl), HFIN.out _ HB2.out⟩
          have HRT2 := Lib.hid (HRn.out ⟨by omega, by omega⟩)
          clear HRn HER HRT
          go_wp2
          go_round
          case rel => exact ⟨k + 1, by omega, by go_num, HRT2.out⟩
          case measure => simp [intOf]; omega
        · obtain rfl : k = x.at_.length := by omega
          by_cases hz : x.dirty &&& ~~~belowB g.names.length = 0#64
          · have HD : Hid (∀ k, has x.dirty k = true → k < g.names.length) := by
              show ∀ k, _ → _
              exact inB_iff.1 (by unfold inB; exact decide_eq_true hz)
            have hzz : (((un (x.dirty &&& ~~~belowB g.names.length) : Nat) : Int) != 0) = false := by rw [hz]; rfl
            clear hz
            go_wp2_with (first
              | (go_at_call 19; refine (Below_ok _ h64 _).mono ?_; rintro e w' ⟨rfl, rfl⟩)
              | fail)
            refine (Order_yes pr g.names.length cr (rws g) (chkR_zero.2 (valid_rws HG.out)) _ HRA.out (HT.out.belowB (Tab.lt HT.out) HB2.out)).mono ?_
            rintro e w3 hO
            rcases hO with ⟨o, go, co, rfl, hK, _, hown, hb3⟩ | ⟨o, left, rfl, hl0, hKo, hSt, hb3⟩
            · have HK := Lib.hid hK
              have HOR := Lib.hid (Reads.of_own hown)
              have HB3 := Lib.hid (HB2.out.trans (hb3.mono HB2.out.size))
              have HRA3 := Lib.hid (HRA.out.below hb3)
              have HXR3 : Hid (Reads w3 w3.heap.size 1 p2 x.at_.length (iv x.at_)) := by show Reads _ _ _ _ _ _; exact (HXR2.out.below hb3).more hb3.size
              clear k0 k1 k2 k3 k4 k5 hown hb3 hK
              obtain ⟨k0, k1, k2, k3, k4, k5⟩ := HC.out w3 HB3.out
              obtain ⟨ol, hol⟩ : ∃ ol, ol = o.length := ⟨_, rfl⟩
              rw [← hol] at HOR ⊢
              have HOL := Lib.hid hol
              clear hol
              go_wp2
              go_loop [68] (fun i => ∃ k : Nat, k ≤ x.at_.length ∧ i = .int .i64 k ∧ Hid (ThereTo g x k)) (fun i => x.at_.length - (intOf i).toNat)
              case atStart => exact ⟨0, Nat.zero_le _, rfl, show ThereTo g x 0 from fun n hn => by omega⟩
              case round =>
                obtain ⟨k, hk, rfl, HTh⟩ := hrel
                by_cases hlt : k < x.at_.length
                · obtain ⟨ad, rfl, _, hcx⟩ := iv_at HXR3.out hlt
                  have HNx := Lib.hid (there_next HTh.out)
                  have HER : Hid (x.at_.getD k 0 < 0 → has (g.made ||| g.phony) k = false → errS g x = 5) := by
                    show _ → _ → _
                    exact fun h h2 => errS_there HG.out HG1.out HRT.out HD.out HK.out hlt h h2
                  generalize x.at_.getD k 0 = t at *
                  by_cases t1 : t < 0
                  · have hbz := bit_zero (g.made ||| g.phony) k
                    cases hh : has (g.made ||| g.phony) k
                    · rw [hh] at hbz
                      have HNF := Lib.hid (HER.out t1 hh)
                      clear hh HNx
                      go_wp2
                      go_ret3
                      exact ⟨.inr (by rw [HNF.out]; rfl), HFIN.out _ HB3.out⟩
                    · rw [hh] at hbz
                      have HNy := Lib.hid (HNx.out fun _ => hh)
                      clear hh HNx
                      go_wp2
                      go_round
                      case rel => exact ⟨k + 1, by omega, by go_num, HNy.out⟩
                      case measure => simp [intOf]; omega
                  · have HNy := Lib.hid (HNx.out fun h => absurd h t1)
                    clear HNx
                    go_wp2
                    go_round
                    case rel => exact ⟨k + 1, by omega, by go_num, HNy.out⟩
                    case measure => simp [intOf]; omega
                · obtain rfl : k = x.at_.length := by omega
                  go_wp2
                  go_ret3
                  have hol := HOL.out
                  subst hol
                  exact ⟨.inl ⟨⟨HG.out, HG1.out, fun n hn => HRT.out n (by rw [HG1.out]; exact hn), HD.out, fun n hn => HTh.out n (by rw [HG1.out]; exact hn)⟩, o, HK.out⟩, HFIN.out _ HB3.out⟩
            · have HB3 := Lib.hid (HB2.out.trans (hb3.mono HB2.out.size))
              have HNF : Hid (errS g x = 8) := by show _ = _; exact errS_ord HG.out HG1.out HRT.out HD.out hKo hSt hl0
              clear hl0 hKo hSt
              go_wp2
              go_ret3
              exact ⟨.inr (by rw [HNF.out]; rfl), HFIN.out _ HB3.out⟩
          · have hzz : (((un (x.dirty &&& ~~~belowB g.names.length) : Nat) : Int) != 0) = true := by
              rw [bne_iff_ne]
              intro e
              exact hz (un_inj (by rw [show un 0#64 = 0 from rfl]; omega))
            have HNF : Hid (errS g x = 4) := by
              show _ = _
              refine errS_dirty HG.out HG1.out HRT.out fun hd => ?_
              have := inB_iff.2 hd
              unfold inB at this
              exact hz (of_decide_eq_true this)
            clear hz
            go_wp2_with (go_at_call 19; refine (Below_ok _ h64 _).mono ?_; rintro e w' ⟨rfl, rfl⟩)
            go_ret3
            exact ⟨.inr (by rw [HNF.out]; rfl), HFIN.out _ HB2.out⟩
    · have hb1 : ((x.at_.length : Int) != (g.names.length : Int)) = true := by rw [bne_iff_ne]; omega
      have HNF : Hid (errS g x = 1) := by show _ = _; exact errS_len HG.out g1
      go_wp2
      go_ret3
      exact ⟨.inr (by rw [HNF.out]; rfl), HFIN.out _ HB2.out⟩
  · obtain ⟨i1, i2⟩ := int_ne' (fun h => hnG (errG_zero h))
    have HNF : Hid (errS g x = errG g) := by show _ = _; exact errS_g hnG
    clear hnG
    obtain ⟨E, hE⟩ : ∃ E, E = errG g := ⟨_, rfl⟩
    have HEQ := Lib.hid hE
    rw [← hE] at i1 i2 ⊢
    clear hE
    go_wp2
    go_ret3
    exact ⟨.inr (by rw [HNF.out, ← HEQ.out]; rfl), HFIN.out _ HB2.out⟩
set_option maxHeartbeats 2000000 in
set_option maxRecDepth 100000 in
theorem Set_no (v u : Value) (g : GD) (x : SD) (w : World) (h : GrAt w v g) (hx : SnAt w u x) (hT : Tab w) (hF : ¬ Fit g x) : Calls Tryd.prog 15 #[v, u] w fun e w' => e = .returned (.tuple #[.int .u64 0, .int .i64 (errS g x)]) ∧ Below w.heap.size w w' := by
  have hGr := h
  have hSn := hx
  obtain ⟨p, n, c, q, m, d, rfl, _, _⟩ := h.at_
  obtain ⟨p2, n2, c2, rfl, _, _, _⟩ := hx.at_
  obtain ⟨W, hW, hBW, hS, hC⟩ := args2 w (.slice p n c) (.slice q m d) (.int .u64 (un g.phony : Int)) (.int .u64 (un g.made : Int)) (.slice p2 n2 c2) (.int .u64 (un x.dirty : Int))
  have HCH := Lib.hid (scheck_err _ _ g x W (hGr.below hBW) (hSn.below hBW) (hT.below hBW))
  have HFIN : Hid (∀ u, Below W.heap.size W u → Below w.heap.size w u) := by show ∀ u, _; exact fun u hu => hBW.trans (hu.mono (by omega))
  obtain ⟨k0, k1, k2, k3, k4, k5⟩ := hC W (Below.refl _ _)
  rw [hW] at k0 k1 k2 k3 k4 k5
  obtain ⟨i1, i2⟩ := int_ne' (errS_ne hF)
  have HF := Lib.hid hF
  clear h hx hGr hSn hT hBW hS hC hF
  go_enter Tryd.func15, Tryd.ntmps15
  go_wp2_with fail
  rw [← hW]
  clear hW k0 k1 k2 k3 k4 k5
  refine HCH.out.mono ?_
  rintro e w2 ⟨hcase, hb2⟩
  have HB2 := Lib.hid hb2
  clear hb2
  rcases hcase with hF | rfl
  · exact absurd hF HF.out
  obtain ⟨E, hE⟩ : ∃ E, E = errS g x := ⟨_, rfl⟩
  have HEQ := Lib.hid hE
  rw [← hE] at i1 i2 ⊢
  clear hE
  go_wp2
  go_ret2
  exact ⟨by rw [← HEQ.out]; rfl, HFIN.out _ HB2.out⟩
set_option maxHeartbeats 2000000 in
set_option maxRecDepth 100000 in
theorem SCheck_no (v u : Value) (g : GD) (x : SD) (w : World) (h : GrAt w v g) (hx : SnAt w u x) (hT : Tab w) (hF : ¬ Fit g x) : Calls Tryd.prog 20 #[v, u] w fun e w' => e = .returned (.int .i64 (errS g x)) ∧ Below w.heap.size w w' := by
  have hGr := h
  have hSn := hx
  obtain ⟨p, n, c, q, m, d, rfl, _, _⟩ := h.at_
  obtain ⟨p2, n2, c2, rfl, _, _, _⟩ := hx.at_
  obtain ⟨W, hW, hBW, hS, hC⟩ := args2 w (.slice p n c) (.slice q m d) (.int .u64 (un g.phony : Int)) (.int .u64 (un g.made : Int)) (.slice p2 n2 c2) (.int .u64 (un x.dirty : Int))
  have HCH := Lib.hid (scheck_err _ _ g x W (hGr.below hBW) (hSn.below hBW) (hT.below hBW))
  have HFIN : Hid (∀ u, Below W.heap.size W u → Below w.heap.size w u) := by show ∀ u, _; exact fun u hu => hBW.trans (hu.mono (by omega))
  obtain ⟨k0, k1, k2, k3, k4, k5⟩ := hC W (Below.refl _ _)
  rw [hW] at k0 k1 k2 k3 k4 k5
  obtain ⟨i1, i2⟩ := int_ne' (errS_ne hF)
  have HF := Lib.hid hF
  clear h hx hGr hSn hT hBW hS hC hF
  go_enter Tryd.func20, Tryd.ntmps20
  go_wp2_with fail
  rw [← hW]
  clear hW k0 k1 k2 k3 k4 k5
  refine HCH.out.mono ?_
  rintro e w2 ⟨hcase, hb2⟩
  have HB2 := Lib.hid hb2
  clear hb2
  rcases hcase with hF | rfl
  · exact absurd hF HF.out
  obtain ⟨E, hE⟩ : ∃ E, E = errS g x := ⟨_, rfl⟩
  have HEQ := Lib.hid hE
  rw [← hE] at i1 i2 ⊢
  clear hE
  go_wp2
  go_ret
  exact ⟨by rw [← HEQ.out]; rfl, HFIN.out _ HB2.out⟩
end Go.Proofs.YteldeiihjeddoaaDoor
namespace Go.Proofs.YteldeiihjeddoaaDoor
open Go.RowKit Go.Shelf
set_option maxHeartbeats 4000000 in
set_option maxRecDepth 100000 in
theorem Holds_no (gv xv : Value) (g : GD) (x : SD) (a : WE) (w : World) (h : GrAt w gv g) (hx : SnAt w xv x) (hT : Tab w) (hF : ¬ Fit g x) :
    Calls Tryd.prog 26 #[gv, xv, a.v] w fun e w' => e = .returned (.tuple #[.bool false, .int .i64 (errS g x)]) ∧ Below w.heap.size w w' := by
  have hGr := h
  have hSn := hx
  obtain ⟨p, n, c, q, m, d, rfl, _, _⟩ := h.at_
  obtain ⟨p2, n2, c2, rfl, _, _, _⟩ := hx.at_
  obtain ⟨W, hW, hBW, hS, hC⟩ := args3 w (.slice p n c) (.slice q m d) (.int .u64 (un g.phony : Int)) (.int .u64 (un g.made : Int)) (.slice p2 n2 c2) (.int .u64 (un x.dirty : Int)) (.int .i64 a.num) (.int .i64 a.cause) (.int .i64 a.need) (.slice a.p a.many a.cap)
  have HSC := Lib.hid (SCheck_no _ _ g x W (hGr.below hBW) (hSn.below hBW) (hT.below hBW) hF)
  have HFIN : Hid (∀ u, Below W.heap.size W u → Below w.heap.size w u) := by show ∀ u, _; exact fun u hu => hBW.trans (hu.mono (by omega))
  obtain ⟨k0, k1, k2, k3, k4, k5, a0, a1, a2, a3⟩ := hC W (Below.refl _ _)
  rw [hW] at k0 k1 k2 k3 k4 k5 a0 a1 a2 a3
  obtain ⟨i1, i2⟩ := int_ne' (errS_ne hF)
  clear h hx hGr hSn hT hBW hS hC hF
  unfold WE.v
  go_enter Tryd.func26, Tryd.ntmps26
  go_wp2_with fail
  rw [← hW]
  clear hW k0 k1 k2 k3 k4 k5 a0 a1 a2 a3
  refine HSC.out.mono ?_
  rintro e w2 ⟨rfl, hb2⟩
  have HB2 := Lib.hid hb2
  clear hb2
  obtain ⟨E, hE⟩ : ∃ E, E = errS g x := ⟨_, rfl⟩
  have HEQ := Lib.hid hE
  rw [← hE] at i1 i2 ⊢
  clear hE
  go_wp2
  go_ret2
  exact ⟨by rw [← HEQ.out]; rfl, HFIN.out _ HB2.out⟩
set_option maxHeartbeats 8000000 in
set_option maxRecDepth 100000 in
theorem whySound_walk (v u : Value) (g : GD) (x : SD) (a : WE) (t : List WE) (w : World) (h : GrAt w v g) (hx : SnAt w u x) (hl : WLinks w (a :: t)) (hT : Tab w) :
    Calls Tryd.prog 8 #[v, u, a.v] w fun e w' => e = .returned (.bool true) ∧ Below w.heap.size w w' := by
  have hGr := h
  have hSn := hx
  obtain ⟨p, n, c, q, m, d, rfl, _, _⟩ := h.at_
  obtain ⟨p2, n2, c2, rfl, _, _, _⟩ := hx.at_
  obtain ⟨W, hW, hBW, hS, hC⟩ := args3 w (.slice p n c) (.slice q m d) (.int .u64 (un g.phony : Int)) (.int .u64 (un g.made : Int)) (.slice p2 n2 c2) (.int .u64 (un x.dirty : Int)) (.int .i64 a.num) (.int .i64 a.cause) (.int .i64 a.need) (.slice a.p a.many a.cap)
  have HC := Lib.hid hC
  have HGr := Lib.hid (hGr.below hBW)
  have HSn := Lib.hid (hSn.below hBW)
  have HT := Lib.hid (hT.below hBW)
  have HLk := Lib.hid (hl.below hBW)
  have HFIN : Hid (∀ u, Below W.heap.size W u → Below w.heap.size w u) := by show ∀ u, _; exact fun u hu => hBW.trans (hu.mono (by omega))
  obtain ⟨k0, k1, k2, k3, k4, k5, a0, a1, a2, a3⟩ := HC.out W (Below.refl _ _)
  rw [hW] at k0 k1 k2 k3 k4 k5 a0 a1 a2 a3
  clear h hx hGr hSn hT hBW hS hC hl
  unfold WE.v
  go_enter Tryd.func8, Tryd.ntmps8
  go_wp2_with fail
  rw [← hW]
  clear hW k0 k1 k2 k3 k4 k5 a0 a1 a2 a3
  refine (whys_below W HT.out).mono ?_
  rintro e w1 ⟨rfl, hb1⟩
  have HB1 := Lib.hid hb1
  obtain ⟨k0, k1, k2, k3, k4, k5, a0, a1, a2, a3⟩ := HC.out w1 hb1
  clear hb1
  by_cases hF : Fit g x
  · have HF := Lib.hid hF
    clear hF
    go_wp2_with fail
    refine (Holds_ok _ _ g x a t w1 (HGr.out.below HB1.out) (HSn.out.below HB1.out) (HT.out.belowB (Tab.lt HT.out) HB1.out) (HLk.out.below HB1.out)).mono ?_
    rintro e w2 ⟨hcase, hb2⟩
    have HB2 := Lib.hid (HB1.out.trans (hb2.mono HB1.out.size))
    clear hb2 k0 k1 k2 k3 k4 k5 a0 a1 a2 a3
    obtain ⟨k0, k1, k2, k3, k4, k5, a0, a1, a2, a3⟩ := HC.out w2 HB2.out
    have he : (e = .returned (.tuple #[.bool true, .int .i64 0]) ∧ HoldsC g x (a :: t)) ∨ e = .returned (.tuple #[.bool false, .int .i64 0]) := by
      rcases hcase with ⟨_, hc⟩ | ⟨hno, _⟩
      · rcases hc with h | h
        · exact .inl h
        · exact .inr h.1
      · exact absurd HF.out hno
    clear hcase
    rcases he with ⟨rfl, hh⟩ | rfl
    · have HH := Lib.hid hh
      clear hh
      go_wp2_with fail
      refine (Set_ok _ _ g x w2 (HGr.out.below HB2.out) (HSn.out.below HB2.out) (HT.out.belowB (Tab.lt HT.out) HB2.out)).mono ?_
      rintro e w3 ⟨hcase, hb3⟩
      have HB3 := Lib.hid (HB2.out.trans (hb3.mono HB2.out.size))
      clear hb3 k0 k1 k2 k3 k4 k5 a0 a1 a2 a3
      obtain ⟨k0, k1, k2, k3, k4, k5, a0, a1, a2, a3⟩ := HC.out w3 HB3.out
      rcases hcase with ⟨_, s, o, _, hs, rfl⟩ | ⟨hno, _⟩
      · have HS : Hid (hasI s a.num = true) := by
          show _ = _
          have h1 := holds_stale hs HLk.out HH.out
          obtain ⟨j, hj⟩ := Int.eq_ofNat_of_zero_le HH.out.2.1.num.1
          rw [hj] at h1 ⊢
          rw [hasI_of]
          simpa using h1
        clear hs
        go_wp2_with (go_at_call 16; refine (has_is HS.out).mono ?_; rintro e w' ⟨rfl, rfl⟩)
        go_ret
        exact ⟨rfl, HFIN.out _ HB3.out⟩
      · exact absurd HF.out hno
    · go_wp2_with fail
      refine (Set_ok _ _ g x w2 (HGr.out.below HB2.out) (HSn.out.below HB2.out) (HT.out.belowB (Tab.lt HT.out) HB2.out)).mono ?_
      rintro e w3 ⟨hcase, hb3⟩
      have HB3 := Lib.hid (HB2.out.trans (hb3.mono HB2.out.size))
      clear hb3 k0 k1 k2 k3 k4 k5 a0 a1 a2 a3
      rcases hcase with ⟨_, s, o, _, hs, rfl⟩ | ⟨hno, _⟩
      · clear hs
        go_wp2
        go_ret
        exact ⟨rfl, HFIN.out _ HB3.out⟩
      · exact absurd HF.out hno
  · have HF := Lib.hid hF
    obtain ⟨i1, i2⟩ := int_ne' (errS_ne hF)
    clear hF
    go_wp2_with fail
    refine (Holds_no _ _ g x a w1 (HGr.out.below HB1.out) (HSn.out.below HB1.out) (HT.out.belowB (Tab.lt HT.out) HB1.out) HF.out).mono ?_
    rintro e w2 ⟨rfl, hb2⟩
    have HB2 := Lib.hid (HB1.out.trans (hb2.mono HB1.out.size))
    clear hb2 k0 k1 k2 k3 k4 k5 a0 a1 a2 a3
    obtain ⟨k0, k1, k2, k3, k4, k5, a0, a1, a2, a3⟩ := HC.out w2 HB2.out
    have HSE := Lib.hid (Set_no _ _ g x w2 (HGr.out.below HB2.out) (HSn.out.below HB2.out) (HT.out.belowB (Tab.lt HT.out) HB2.out) HF.out)
    generalize errS g x = E at *
    go_wp2_with fail
    refine HSE.out.mono ?_
    rintro e w3 ⟨rfl, hb3⟩
    have HB3 := Lib.hid (HB2.out.trans (hb3.mono HB2.out.size))
    clear hb3 k0 k1 k2 k3 k4 k5 a0 a1 a2 a3
    go_wp2
    go_ret
    exact ⟨rfl, HFIN.out _ HB3.out⟩
end Go.Proofs.YteldeiihjeddoaaDoor
namespace Go.Proofs.YteldeiihjeddoaaDoor
open Go.RowKit
theorem whySound_law (v u r : Value) (w : World) (hT : Tab w) (h : ∃ g, GrAt w v g) (hx : ∃ x, SnAt w u x) (hr : ∃ a t, WhyAt w r a t) :
    Calls Tryd.prog 8 #[v, u, r] w fun e w' => e = .returned (.bool true) ∧ Below w.heap.size w w' := by
  obtain ⟨g, hg⟩ := h
  obtain ⟨x, hx⟩ := hx
  obtain ⟨a, t, rfl, hl⟩ := hr
  exact whySound_walk v u g x a t w hg hx hl hT
end Go.Proofs.YteldeiihjeddoaaDoor
