/- Texts joined: GraphW, GraphCheckW, GraphRowsW, Door, LowW. Conditions: theirs. -/
import Derived.Test.YteefncohknclcaaGreatDoorAskBoundLWM1
import Derived.Test.YteefncohknclcaaGreatDoorBitsW
import Derived.Test.YteefncohknclcaaGreatDoorRows
import Derived.Test.YteefncohknclcaaGreatDoorShelf
import Derived.Test.YteefncohknclcaaGreatDoorMem
import Derived.Test.YteefncohknclcaaGreatDoorUn
import Derived.WalkKit
import Derived.ProofKit
import Derived.LaidMore
import Derived.OpenShut
import Derived.Stop.Joined
import Derived.Lib.LaidTab
import Derived.FnData
import Derived.Shelf.Spec.TrailingZeros
import Derived.Lib.Split
import Derived.Test.YteefncohknclcaaGreatDoorPopW
import Derived.Test.YteefncohknclcaaGreatDoorSets
namespace Go.Proofs.YteefncohknclcaaGreatDoor
open Go.RowKit Go.Shelf
def eF (x : E2) : Value := .int .i64 x.1
def eG (x : E2) : Value := .int .i64 x.2
abbrev EsAt (w : World) (p : Option Addr) (n c : Nat) (es : List E2) : Prop := P2At eF eG w p n c es
theorem ordE_neg {a b : E2} : ordE a b < 0 ↔ elt a b := by
  have key : ∀ x y : Int, (x < y ∧ Lib.compareInt x y = -1) ∨ (x = y ∧ Lib.compareInt x y = 0) ∨ (y < x ∧ Lib.compareInt x y = 1) := by
    intro x y
    unfold Lib.compareInt
    rcases Int.lt_trichotomy x y with h | h | h
    · exact .inl ⟨h, if_pos h⟩
    · exact .inr (.inl ⟨h, by rw [if_neg (by omega), if_neg (by omega)]⟩)
    · exact .inr (.inr ⟨h, by rw [if_neg (by omega), if_pos h]⟩)
  unfold ordE elt
  rcases key a.1 b.1 with ⟨h, e⟩ | ⟨h, e⟩ | ⟨h, e⟩
  · rw [e, if_pos (by decide)]; omega
  · rw [e, if_neg (by decide)]
    rcases key a.2 b.2 with ⟨g, f⟩ | ⟨g, f⟩ | ⟨g, f⟩ <;> rw [f] <;> omega
  · rw [e, if_pos (by decide)]; omega
def ERiseTo (es : List E2) (k : Nat) : Prop := ∀ i, i < k → elt (es.getD i (0, 0)) (es.getD (i + 1) (0, 0))
theorem erise_next {es : List E2} {k : Nat} (h : ERiseTo es k) (hk : ordE (es.getD k (0, 0)) (es.getD (k + 1) (0, 0)) < 0) : ERiseTo es (k + 1) := fun i hi => by
  rcases Nat.lt_or_ge i k with h1 | h1
  · exact h i h1
  · rw [show i = k from by omega]; exact ordE_neg.1 hk
theorem getD_some {α : Type} {l : List α} {k : Nat} (d : α) (h : k < l.length) : l[k]? = some (l.getD k d) := by
  rw [List.getD_eq_getElem?_getD, List.getElem?_eq_getElem h]; rfl
set_option maxHeartbeats 1000000 in
set_option maxRecDepth 100000 in
theorem risesE_ok (p : Option Addr) (n c : Nat) (es : List E2) (w : World) (h : EsAt w p n c es) :
    Calls Tryz.prog 78 #[.slice p n c, .func (.func 51) #[] #[]] w fun e w' => ((e = .returned (.bool true) ∧ ERise es) ∨ (e = .returned (.bool false) ∧ ¬ ERise es)) ∧ Below w.heap.size w w' := by
  have hl := h.len
  have hbig := h.big
  subst hl
  have HN := Lib.hid h
  clear h
  go_enter Tryz.func78, Tryz.ntmps78
  go_wp2
  go_loopw [9] (fun i wr => ∃ k : Nat, i = .int .i64 k ∧ (k = 0 ∨ k < es.length) ∧ Hid (ERiseTo es k) ∧ Hid (Below w.heap.size w wr)) (fun i _ => es.length - (intOf i).toNat)
  case atStart => exact ⟨0, rfl, .inl rfl, show ERiseTo es 0 from fun i hi => by omega, show Below _ _ _ from Below.refl _ _⟩
  case round =>
    obtain ⟨k, rfl, hk, HR, HW⟩ := hrel
    by_cases hlt : (k : Int) < (es.length : Int) - 1
    · have HNw := Lib.hid (HN.out.below HW.out)
      obtain ⟨b, o, rfl, hb, hca, hcb⟩ := HNw.out.cell (getD_some (0, 0) (show k < es.length by omega))
      obtain ⟨b', o', hbo, _, hcc, hcd⟩ := HNw.out.cell (getD_some (0, 0) (show k + 1 < es.length by omega))
      injection hbo with hbo
      injection hbo with e1 e2
      subst e1 e2
      have HX : Hid (ordE (es.getD k (0, 0)) (es.getD (k + 1) (0, 0)) < 0 → ERiseTo es (k + 1)) := by show _ → _; exact erise_next HR.out
      have HY : Hid (¬ ordE (es.getD k (0, 0)) (es.getD (k + 1) (0, 0)) < 0 → ¬ ERise es) := by
        show _ → _
        intro h1 h2
        exact h1 (ordE_neg.2 (h2 k (by omega)))
      generalize es.getD k (0, 0) = x at *
      generalize es.getD (k + 1) (0, 0) = y at *
      have HO := Lib.hid (eorder_ok x y)
      obtain ⟨z, hz⟩ : ∃ z, ordE x y = z := ⟨_, rfl⟩
      rw [hz] at HX HY HO
      clear hz
      obtain ⟨x1, x2⟩ := x
      obtain ⟨y1, y2⟩ := y
      simp only [eF, eG] at hca hcb hcc hcd
      have hl1 : (k : Int) < (es.length : Int) := by omega
      have hl2 : (k : Int) + 1 < (es.length : Int) := by omega
      have hl3 : (0 : Int) ≤ (k : Int) + 1 := by omega
      have htn : ((k : Int) + 1).toNat = k + 1 := by omega
      have hwr : IntKind.i64.wrap ((k : Int) + 1) = (k : Int) + 1 := by rw [IntKind.wrap_i64]; omega
      go_wp2
      refine wp_region_still_tail 10 (by kernel_rfl) (by kernel_rfl) ?_
      simp only [List.take_succ_cons, List.take_zero, List.drop_succ_cons, List.drop_zero]
      obtain ⟨W2, hW2⟩ : ∃ W2 : World, W2 = { heap := wr.heap, tape := wr.tape, drawn := wr.drawn + 1, os := wr.os, output := wr.output } := ⟨_, rfl⟩
      have HB2 : Hid (Below w.heap.size w W2) := by
        show Below _ _ _
        rw [hW2]; exact HW.out.drew
      have d1 : W2.cell? ⟨b, o + k * 2, none⟩ = some (.int .i64 x1) := by rw [hW2]; exact hca
      have d2 : W2.cell? ⟨b, o + k * 2 + 1, none⟩ = some (.int .i64 x2) := by rw [hW2]; exact hcb
      have d3 : W2.cell? ⟨b, o + (k + 1) * 2, none⟩ = some (.int .i64 y1) := by rw [hW2]; exact hcc
      have d4 : W2.cell? ⟨b, o + (k + 1) * 2 + 1, none⟩ = some (.int .i64 y2) := by rw [hW2]; exact hcd
      rw [← hW2]
      clear hW2 hca hcb hcc hcd
      repeat still_step
      refine wpStill_nil ?_
      clear d1 d2 d3 d4
      unfold e2V at HO
      by_cases h0 : (0 : Int) ≤ z
      · go_wp2_with (go_at_call 51; refine (HO.out _).mono ?_; rintro e w' ⟨rfl, hb'⟩; have HB3 := Lib.hid (HB2.out.trans (hb'.mono HB2.out.size)); clear hb')
        go_ret
        exact ⟨.inr ⟨rfl, HY.out (by omega)⟩, HB3.out⟩
      · go_wp2_with (go_at_call 51; refine (HO.out _).mono ?_; rintro e w' ⟨rfl, hb'⟩; have HB3 := Lib.hid (HB2.out.trans (hb'.mono HB2.out.size)); clear hb')
        go_roundw
        case rel => exact ⟨k + 1, by go_num, by omega, HX.out (by omega), HB3.out⟩
        case measure => simp [intOf]; omega
    · go_wp2
      go_ret
      refine ⟨.inl ⟨rfl, fun i hi => HR.out i (by omega)⟩, HW.out⟩
end Go.Proofs.YteefncohknclcaaGreatDoor
namespace Go.Proofs.YteefncohknclcaaGreatDoor
open Go.RowKit Go.Shelf
/-- what a graph holds -/
structure GD where
  names : List ByteArray
  edges : List E2
  phony : B
  made : B
/-- a graph that Check lets pass -/
structure Good (g : GD) : Prop where
  names : g.names.length ≤ 64
  ok : okN g.names g.names.length
  rise : Rise g.names
  edges : ∀ x ∈ g.edges, EIn g.names.length x
  erise : ERise g.edges
  sets : (g.phony ||| g.made) &&& ~~~belowB g.names.length = 0#64
/-- a graph as the call can read it -/
structure GrAt (w : World) (v : Value) (g : GD) : Prop where
  at_ : ∃ (p : Option Addr) (n c : Nat) (q : Option Addr) (m d : Nat), v = .agg #[.slice p n c, .slice q m d, .int .u64 (un g.phony : Int), .int .u64 (un g.made : Int)] ∧ NL w p n c g.names ∧ EsAt w q m d g.edges
theorem GrAt.below {w w' : World} {v : Value} {g : GD} (h : GrAt w v g) (hb : Below w.heap.size w w') : GrAt w' v g := by
  obtain ⟨p, n, c, q, m, d, h1, h2, h3⟩ := h.at_
  exact ⟨p, n, c, q, m, d, h1, h2.below hb, h3.below hb⟩
def EAll (g : GD) (k : Nat) : Prop := ∀ x ∈ g.edges.take k, EIn g.names.length x
theorem eall_next {g : GD} {k : Nat} (hk : k < g.edges.length) (h : EAll g k) (hx : EIn g.names.length (g.edges.getD k (0, 0))) : EAll g (k + 1) := by
  intro x hm
  rw [List.take_succ_eq_append_getElem hk] at hm
  rcases List.mem_append.1 hm with hm | hm
  · exact h x hm
  · rw [List.mem_singleton.1 hm]
    rw [List.getD_eq_getElem?_getD, List.getElem?_eq_getElem hk] at hx
    exact hx
theorem eall_no {g : GD} {k : Nat} (hk : k < g.edges.length) (hx : ¬ EIn g.names.length (g.edges.getD k (0, 0))) : ¬ Good g := fun h => hx (h.edges _ (by
  rw [List.getD_eq_getElem?_getD, List.getElem?_eq_getElem hk]; exact List.getElem_mem hk))
set_option maxHeartbeats 4000000 in
set_option maxRecDepth 100000 in
theorem CheckG2_ok (v : Value) (g : GD) (w : World) (h : GrAt w v g) :
    Calls Tryz.prog 48 #[v] w fun e w' => (∃ E : Int, e = .returned (.int .i64 E) ∧ ((E = 0 ∧ Good g) ∨ (E ≠ 0 ∧ ¬ Good g))) ∧ Below w.heap.size w w' := by
  obtain ⟨p, n, c, q, m, d, rfl, hN, hE⟩ := h.at_
  have hln := hN.at_.len
  have hlm := hE.len
  subst hln hlm
  have hbn := hN.at_.big
  have hbm := hE.big
  obtain ⟨W, hW⟩ : ∃ W, W = w.alloc (.cells #[.slice p g.names.length c, .slice q g.edges.length d, .int .u64 (un g.phony : Int), .int .u64 (un g.made : Int)] 26) := ⟨_, rfl⟩
  have hBW : Below w.heap.size w W := by rw [hW]; exact (Below.refl _ _).alloc (Nat.le_refl _) _
  have HS : Hid (w.heap.size < W.heap.size) := by show _ < _; rw [hW]; simp
  have HC : Hid (∀ u : World, Below W.heap.size W u → u.cell? ⟨w.heap.size, 0, none⟩ = some (.slice p g.names.length c) ∧ u.cell? ⟨w.heap.size, 1, none⟩ = some (.slice q g.edges.length d) ∧ u.cell? ⟨w.heap.size, 2, none⟩ = some (.int .u64 (un g.phony : Int)) ∧ u.cell? ⟨w.heap.size, 3, none⟩ = some (.int .u64 (un g.made : Int))) := by
    show ∀ u : World, _ → _
    intro u hu
    rw [hu.cell HS.out, hu.cell HS.out, hu.cell HS.out, hu.cell HS.out, hW]
    refine ⟨?_, ?_, ?_, ?_⟩ <;> (rw [World.cell?_alloc_at _ _ _ _ rfl]; rfl)
  have HN := Lib.hid (hN.below hBW)
  have HE := Lib.hid (hE.below hBW)
  have HBW := Lib.hid hBW
  obtain ⟨k0, k1, k2, k3⟩ := HC.out W (Below.refl _ _)
  rw [hW] at k0 k1 k2 k3
  clear hN hE hBW h
  by_cases h64 : g.names.length ≤ 64
  · by_cases hok : okN g.names g.names.length
    · go_enter Tryz.func48, Tryz.ntmps48
      go_wp2_with fail
      rw [← hW]
      clear hW k0 k1 k2 k3
      refine (Sort_yes _ _ _ g.names _ HN.out hok).mono ?_
      rintro e w2 ⟨gg, cg, rfl, _, hb2⟩
      have HB2 := Lib.hid hb2
      obtain ⟨k0, k1, k2, k3⟩ := HC.out w2 hb2
      clear hb2
      go_wp2_with fail
      refine (risesS_ok _ _ _ g.names _ (HN.out.below HB2.out)).mono ?_
      rintro e w3 ⟨hcase, qq, rfl⟩
      rcases hcase with ⟨rfl, hr⟩ | ⟨rfl, hr⟩
      · have HR := Lib.hid hr
        have HB3 : Hid (Below W.heap.size W (w2.drewN qq)) := by show Below _ _ _; exact below_drawsP HB2.out qq
        clear hr
        obtain ⟨w3, hw3⟩ : ∃ w3, w3 = w2.drewN qq := ⟨_, rfl⟩
        rw [← hw3] at HB3 ⊢
        clear hw3 HB2 k0 k1 k2 k3
        obtain ⟨k0, k1, k2, k3⟩ := HC.out w3 HB3.out
        generalize (sortN g.names).length = sl at *
        have HH : Hid (g.names.length ≤ 64 ∧ okN g.names g.names.length) := by show _ ∧ _; exact ⟨h64, hok⟩
        clear hok
        go_wp2
        go_loopw [31] (fun i wr => ∃ k : Nat, k ≤ g.edges.length ∧ i = .int .i64 k ∧ Hid (EAll g k) ∧ Hid (Below W.heap.size W wr)) (fun i _ => g.edges.length - (intOf i).toNat)
        case atStart => exact ⟨0, Nat.zero_le _, rfl, show EAll g 0 from fun x hx => by simp at hx, HB3⟩
        case round =>
          clear k0 k1 k2 k3
          obtain ⟨k, hk, rfl, HA, HW⟩ := hrel
          have HFIN : Hid (∀ u, Below W.heap.size W u → Below w.heap.size w u) := by show ∀ u, _; exact fun u hu => HBW.out.trans (hu.mono (Nat.le_of_lt HS.out))
          by_cases hlt : k < g.edges.length
          · obtain ⟨b, o, rfl, hb, hca, hcb⟩ := (HE.out.below HW.out).cell (getD_some (0, 0) hlt)
            have HX := Lib.hid (eall_next hlt HA.out)
            have HY := Lib.hid (eall_no (g := g) hlt)
            generalize g.edges.getD k (0, 0) = x at *
            obtain ⟨x1, x2⟩ := x
            simp only [eF, eG] at hca hcb
            have hca2 : wr.cell? ⟨b, o + k * 2 + 1, none⟩ = some (.int .i64 x2) := hcb
            have HB4 : Hid (Below W.heap.size W (wr.alloc (.cells #[.int .i64 x1, .int .i64 x2] 85))) := by show Below _ _ _; exact HW.out.alloc HW.out.size _
            clear hcb
            by_cases g1 : x1 < 0
            · have HN4 := Lib.hid (HY.out (fun h => by have := h.1; simp only at this; omega))
              clear HX HY
              go_wp2
              go_ret
              exact ⟨⟨4, rfl, .inr ⟨by decide, HN4.out⟩⟩, HFIN.out _ HB4.out⟩
            by_cases g2 : (g.names.length : Int) ≤ x1
            · have HN4 := Lib.hid (HY.out (fun h => by have := h.2.1; simp only at this; omega))
              clear HX HY
              go_wp2
              go_ret
              exact ⟨⟨4, rfl, .inr ⟨by decide, HN4.out⟩⟩, HFIN.out _ HB4.out⟩
            by_cases g3 : x2 < 0
            · have HN4 := Lib.hid (HY.out (fun h => by have := h.2.2.1; simp only at this; omega))
              clear HX HY
              go_wp2
              go_ret
              exact ⟨⟨4, rfl, .inr ⟨by decide, HN4.out⟩⟩, HFIN.out _ HB4.out⟩
            by_cases g4 : (g.names.length : Int) ≤ x2
            · have HN4 := Lib.hid (HY.out (fun h => by have := h.2.2.2; simp only at this; omega))
              clear HX HY
              go_wp2
              go_ret
              exact ⟨⟨4, rfl, .inr ⟨by decide, HN4.out⟩⟩, HFIN.out _ HB4.out⟩
            have HN4 := Lib.hid (HX.out ⟨by simp only; omega, by simp only; omega, by simp only; omega, by simp only; omega⟩)
            clear HX HY
            go_wp2
            go_roundw
            case rel => exact ⟨k + 1, by omega, by go_num, HN4.out, HB4.out⟩
            case measure => simp [intOf]; omega
          · obtain rfl : k = g.edges.length := by omega
            obtain ⟨k0, k1, k2, k3⟩ := HC.out wr HW.out
            have HAll : Hid (∀ x ∈ g.edges, EIn g.names.length x) := by
              show ∀ x ∈ g.edges, _
              have := HA.out
              unfold EAll at this
              rw [List.take_length] at this
              exact this
            go_wp2_with fail
            refine (risesE_ok _ _ _ g.edges _ (HE.out.below HW.out)).mono ?_
            rintro e w5 ⟨hcase, hb5⟩
            have HB5 := Lib.hid (HW.out.trans (hb5.mono HW.out.size))
            clear hb5 k0 k1 k2 k3
            obtain ⟨k0, k1, k2, k3⟩ := HC.out w5 HB5.out
            rcases hcase with ⟨rfl, hr⟩ | ⟨rfl, hr⟩
            · have HR5 := Lib.hid hr
              clear hr
              by_cases hz : (g.phony ||| g.made) &&& ~~~belowB g.names.length = 0#64
              · have HG : Hid (Good g) := by show Good g; exact ⟨HH.out.1, HH.out.2, HR.out, HAll.out, HR5.out, hz⟩
                have hzz : (((un ((g.phony ||| g.made) &&& ~~~belowB g.names.length) : Nat) : Int) != 0) = false := by rw [hz]; rfl
                clear hz
                go_wp2_with (go_at_call 60; refine (Below_ok _ h64 _).mono ?_; rintro e w' ⟨rfl, rfl⟩)
                go_ret
                exact ⟨⟨0, rfl, .inl ⟨rfl, HG.out⟩⟩, HFIN.out _ HB5.out⟩
              · have HG : Hid (¬ Good g) := by show ¬ _; exact fun h => hz h.sets
                have hzz : (((un ((g.phony ||| g.made) &&& ~~~belowB g.names.length) : Nat) : Int) != 0) = true := by
                  rw [bne_iff_ne]
                  intro e
                  exact hz (un_inj (by rw [show un 0#64 = 0 from rfl]; omega))
                clear hz
                go_wp2_with (go_at_call 60; refine (Below_ok _ h64 _).mono ?_; rintro e w' ⟨rfl, rfl⟩)
                go_ret
                exact ⟨⟨4, rfl, .inr ⟨by decide, HG.out⟩⟩, HFIN.out _ HB5.out⟩
            · have HG : Hid (¬ Good g) := by show ¬ _; exact fun h => hr h.erise
              clear hr
              go_wp2
              go_ret
              exact ⟨⟨3, rfl, .inr ⟨by decide, HG.out⟩⟩, HFIN.out _ HB5.out⟩
      · have HG : Hid (¬ Good g) := by show ¬ _; exact fun h => hr h.rise
        clear hr
        go_wp2
        go_ret
        exact ⟨⟨3, rfl, .inr ⟨by decide, HG.out⟩⟩, HBW.out.trans ((below_drawsP HB2.out qq).mono (Nat.le_of_lt HS.out))⟩
    · have HG : Hid (¬ Good g) := by show ¬ _; exact fun h => hok h.ok
      go_enter Tryz.func48, Tryz.ntmps48
      go_wp2_with fail
      rw [← hW]
      clear hW k0 k1 k2 k3
      refine (Sort_no _ _ _ g.names _ HN.out.at_ hok).mono ?_
      rintro e w2 ⟨rfl, rfl⟩
      go_wp2
      go_ret
      exact ⟨⟨3, rfl, .inr ⟨by decide, HG.out⟩⟩, HBW.out⟩
  · have HG : Hid (¬ Good g) := by show ¬ _; exact fun h => h64 h.names
    go_enter Tryz.func48, Tryz.ntmps48
    go_wp2
    go_ret
    rw [← hW]
    exact ⟨⟨2, rfl, .inr ⟨by decide, HG.out⟩⟩, HBW.out⟩
end Go.Proofs.YteefncohknclcaaGreatDoor
namespace Go.Proofs.YteefncohknclcaaGreatDoor
open Go.RowKit Go.Shelf
def u64sG (r : List B) : List Value := r.map fun x : B => Value.int .u64 (un x : Int)
theorem u64sG_set (cur : List B) (k : Nat) (x : B) : (u64sG cur).set k (.int .u64 (un x : Int)) = u64sG (cur.set k x) := by
  unfold u64sG; rw [List.map_set]
theorem info_u64G : (Tryz.prog.info? 24).map (fun i => (i.zero, i.size, i.bytes)) = some (some (.int .u64 0), 1, 8) := by kernel_rfl
theorem made_zeroG (n : Nat) : (madeCells (Value.int .u64 0).cells (n * 1)).toList = u64sG (List.replicate n 0#64) := by
  unfold madeCells u64sG
  apply List.ext_getElem
  · simp
  · intro i h1 h2
    simp [Value.cells, Nat.mod_one]
    rfl
theorem ownG_at {w : World} {base b n c : Nat} {D : List B} (h : w.ownsRow base 24 1 (.slice (some ⟨b, 0, none⟩) n c) n (u64sG D)) {k : Nat} (hk : k < n) : w.cell? ⟨b, k, none⟩ = some (.int .u64 (un (D.getD k 0#64) : Int)) := by
  rw [h.cellAt k (by omega)]
  have hl : D.length = n := by have := h.1; simpa [u64sG] using this
  unfold u64sG
  simp [hl, hk]
/-- what Rows answers -/
def RowsPost (w : World) (g : GD) (e : Ending) (w' : World) : Prop :=
  ((Good g ∧ ∃ (p : Option Addr) (c : Nat), e = .returned (.tuple #[.slice p g.names.length c, .int .i64 0]) ∧ w'.ownsRow w.heap.size 24 1 (.slice p g.names.length c) g.names.length (u64sG (rowsE g.names.length g.edges))) ∨
    (¬ Good g ∧ ∃ E : Int, E ≠ 0 ∧ e = .returned (.tuple #[.slice none 0 0, .int .i64 E]))) ∧ Below w.heap.size w w'
set_option maxHeartbeats 4000000 in
set_option maxRecDepth 100000 in
theorem Rows2_ok (v : Value) (g : GD) (w : World) (h : GrAt w v g) : Calls Tryz.prog 57 #[v] w (RowsPost w g) := by
  have hGr := h
  obtain ⟨p, n, c, q, m, d, rfl, hN, hE⟩ := h.at_
  have hln := hN.at_.len
  have hlm := hE.len
  subst hln hlm
  have hbn := hN.at_.big
  have hbm := hE.big
  obtain ⟨W, hW⟩ : ∃ W, W = w.alloc (.cells #[.slice p g.names.length c, .slice q g.edges.length d, .int .u64 (un g.phony : Int), .int .u64 (un g.made : Int)] 26) := ⟨_, rfl⟩
  have hBW : Below w.heap.size w W := by rw [hW]; exact (Below.refl _ _).alloc (Nat.le_refl _) _
  have HS : Hid (w.heap.size < W.heap.size) := by show _ < _; rw [hW]; simp
  have HC : Hid (∀ u : World, Below W.heap.size W u → u.cell? ⟨w.heap.size, 0, none⟩ = some (.slice p g.names.length c) ∧ u.cell? ⟨w.heap.size, 1, none⟩ = some (.slice q g.edges.length d) ∧ u.cell? ⟨w.heap.size, 2, none⟩ = some (.int .u64 (un g.phony : Int)) ∧ u.cell? ⟨w.heap.size, 3, none⟩ = some (.int .u64 (un g.made : Int))) := by
    show ∀ u : World, _ → _
    intro u hu
    rw [hu.cell HS.out, hu.cell HS.out, hu.cell HS.out, hu.cell HS.out, hW]
    refine ⟨?_, ?_, ?_, ?_⟩ <;> (rw [World.cell?_alloc_at _ _ _ _ rfl]; rfl)
  have HE := Lib.hid (hE.below hBW)
  have HBW := Lib.hid hBW
  have HCk := Lib.hid (CheckG2_ok _ g W (hGr.below hBW))
  have HFIN : Hid (∀ u, Below W.heap.size W u → Below w.heap.size w u) := by show ∀ u, _; exact fun u hu => HBW.out.trans (hu.mono (Nat.le_of_lt HS.out))
  obtain ⟨k0, k1, k2, k3⟩ := HC.out W (Below.refl _ _)
  rw [hW] at k0 k1 k2 k3
  clear hN hE hBW h hGr
  obtain ⟨i0, hi, hz0, hz1, hz2⟩ := info_parts info_u64G
  go_enter Tryz.func57, Tryz.ntmps57
  go_wp2_with fail
  rw [← hW]
  clear hW k0 k1 k2 k3
  refine HCk.out.mono ?_
  rintro e w2 ⟨⟨E, rfl, hcase⟩, hb2⟩
  have HB2 := Lib.hid hb2
  obtain ⟨k0, k1, k2, k3⟩ := HC.out w2 hb2
  clear hb2
  rcases hcase with ⟨rfl, hG⟩ | ⟨hE0, hG⟩
  · have h64 := hG.names
    have HG := Lib.hid hG
    clear hG
    go_wp2_with (at_make; refine wpList_make_full _ rfl _ _ 50 rfl w2.heap.size 24 i0 (.int .u64 0) 1 Tryz.underlying50 hi hz0 hz1 .i64 .i64 (g.names.length : Int) (g.names.length : Int) g.names.length rfl rfl rfl rfl ?b2 ?b3 (Nat.le_refl _) ?_; rotate_right; intro w3 hown hgrow; have hb3 : Below w2.heap.size w2 w3 := (Below.refl _ _).grown hgrow (Nat.le_refl _) (fun k hk => by cases hk); obtain ⟨j0, j1, j2, j3⟩ := HC.out w3 (HB2.out.trans (hb3.mono HB2.out.size)))
    case b2 => rw [hz2]; omega
    case b3 => unfold maxLen; omega
    rw [made_zeroG, ← rowsE_nil] at hown
    have HB3 := Lib.hid hb3
    have HOW := Lib.hid hown
    clear hgrow hb3 hown k0 k1 k2 k3 j0 j1 j2 j3
    go_loopw [20] (fun i wr => ∃ k : Nat, k ≤ g.edges.length ∧ i = .int .i64 k ∧ Hid (wr.ownsRow w2.heap.size 24 1 (.slice (some ⟨w2.heap.size, 0, none⟩) g.names.length g.names.length) g.names.length (u64sG (rowsE g.names.length (g.edges.take k)))) ∧ Hid (Below w2.heap.size w2 wr)) (fun i _ => g.edges.length - (intOf i).toNat)
    case atStart => exact ⟨0, Nat.zero_le _, rfl, by rw [List.take_zero]; exact HOW, HB3⟩
    case round =>
      obtain ⟨k, hk, rfl, HO, HW⟩ := hrel
      by_cases hlt : k < g.edges.length
      · have HWr := Lib.hid (HB2.out.trans (HW.out.mono HB2.out.size))
        obtain ⟨b, o, rfl, hb, hca, hcb⟩ := (HE.out.below HWr.out).cell (getD_some (0, 0) hlt)
        have hin : EIn g.names.length (g.edges.getD k (0, 0)) := HG.out.edges _ (by rw [List.getD_eq_getElem?_getD, List.getElem?_eq_getElem hlt]; exact List.getElem_mem hlt)
        have htk : g.edges.take (k + 1) = g.edges.take k ++ [g.edges.getD k (0, 0)] := by
          rw [List.take_succ_eq_append_getElem hlt, List.getD_eq_getElem?_getD, List.getElem?_eq_getElem hlt]; rfl
        generalize g.edges.getD k (0, 0) = x at *
        obtain ⟨x1, x2⟩ := x
        obtain ⟨h1, h2, h3, h4⟩ := hin
        simp only at h1 h2 h3 h4
        obtain ⟨a1, rfl⟩ := Int.eq_ofNat_of_zero_le h1
        obtain ⟨a2, rfl⟩ := Int.eq_ofNat_of_zero_le h3
        have ha1 : a1 < g.names.length := by omega
        simp only [eF, eG] at hca hcb
        have hca2 : wr.cell? ⟨b, o + k * 2 + 1, none⟩ = some (.int .i64 (a2 : Int)) := hcb
        have HSN : Hid (rowsE g.names.length (g.edges.take (k + 1)) = (rowsE g.names.length (g.edges.take k)).set a1 ((rowsE g.names.length (g.edges.take k)).getD a1 0#64 ||| (1#64 <<< a2))) := by
          show _ = _
          rw [htk]; exact rowsE_snoc _ ha1
        clear hcb htk h1 h3
        obtain ⟨cur, hcur⟩ : ∃ cur, cur = rowsE g.names.length (g.edges.take k) := ⟨_, rfl⟩
        rw [← hcur] at HSN HO
        clear hcur
        obtain ⟨y, hy⟩ : ∃ y, cur.getD a1 0#64 = y := ⟨_, rfl⟩
        rw [hy] at HSN
        go_wp2
        refine wp_region_still_tail 10 (by kernel_rfl) (by kernel_rfl) ?_
        simp only [List.take_succ_cons, List.take_zero, List.drop_succ_cons, List.drop_zero]
        obtain ⟨X, hX⟩ : ∃ X : World, X = wr.alloc (.cells #[.int .i64 (a1 : Int), .int .i64 (a2 : Int)] 85) := ⟨_, rfl⟩
        have hXo : X.ownsRow w2.heap.size 24 1 (.slice (some ⟨w2.heap.size, 0, none⟩) g.names.length g.names.length) g.names.length (u64sG cur) := by rw [hX]; exact HO.out.alloc _
        have hXb : Below w2.heap.size w2 X := by rw [hX]; exact HW.out.alloc HW.out.size _
        have hX1 : X.cell? ⟨wr.heap.size, 0, none⟩ = some (.int .i64 (a1 : Int)) := by rw [hX, World.cell?_alloc_at _ _ _ _ rfl]; rfl
        have hX2 : X.cell? ⟨wr.heap.size, 1, none⟩ = some (.int .i64 (a2 : Int)) := by rw [hX, World.cell?_alloc_at _ _ _ _ rfl]; rfl
        rw [← hX]
        clear hX
        obtain ⟨Z, hZ⟩ : ∃ Z : World, Z = { heap := X.heap, tape := X.tape, drawn := X.drawn + 1, os := X.os, output := X.output } := ⟨_, rfl⟩
        have hZo : Z.ownsRow w2.heap.size 24 1 (.slice (some ⟨w2.heap.size, 0, none⟩) g.names.length g.names.length) g.names.length (u64sG cur) := by rw [hZ]; exact hXo
        have hZb : Below w2.heap.size w2 Z := by rw [hZ]; exact hXb.drew
        have d1 : Z.cell? ⟨wr.heap.size, 0, none⟩ = some (.int .i64 (a1 : Int)) := by rw [hZ]; exact hX1
        have d2 : Z.cell? ⟨wr.heap.size, 1, none⟩ = some (.int .i64 (a2 : Int)) := by rw [hZ]; exact hX2
        have d3 := ownG_at hZo ha1
        rw [hy] at d3
        have hfr := hZo.frozenAt a1
        have hst := hZo.stored a1 (.int .u64 (un (y ||| 1#64 <<< a2) : Int))
        rw [u64sG_set, ← HSN.out] at hst
        have HST := Lib.hid hst
        have HZB := Lib.hid hZb
        rw [← hZ]
        clear hZ hZo hZb hXo hXb hX1 hX2 hst
        have hb1 : (a1 : Int) < (g.names.length : Int) := by omega
        repeat still_step
        refine wpStill_nil ?_
        go_wp2
        go_roundw
        case rel => exact ⟨k + 1, by omega, by go_num, HST.out.1, HZB.out.grown HST.out.2 HZB.out.size (fun j hj => by cases hj; exact Nat.le_refl _)⟩
        case measure => simp [intOf]; omega
      · obtain rfl : k = g.edges.length := by omega
        have HOO := HO
        rw [List.take_length] at HOO
        go_wp2
        go_ret2
        refine ⟨.inl ⟨HG.out, _, _, rfl, ?_⟩, HFIN.out _ (HB2.out.trans (HW.out.mono HB2.out.size))⟩
        refine ⟨HOO.out.1, ?_⟩
        have hle : w.heap.size ≤ w2.heap.size := Nat.le_trans (Nat.le_of_lt HS.out) HB2.out.size
        rcases HOO.out.2 with h | ⟨g', cap, cur, h1, h2, h3⟩
        · exact .inl h
        · exact .inr ⟨g', cap, cur, h1, Nat.le_trans hle h2, h3⟩
  · have HG := Lib.hid hG
    obtain ⟨i1, i2⟩ := int_ne' hE0
    clear hG
    go_wp2
    go_ret2
    exact ⟨.inr ⟨HG.out, E, hE0, rfl⟩, HFIN.out _ HB2.out⟩
end Go.Proofs.YteefncohknclcaaGreatDoor
namespace Go.Proofs.YteefncohknclcaaGreatDoor
open Go.ChangeShapes Go.WideShapes Go.ChangeAt Go.RowKit
def laidL : List (String × DataW Unit) := Rows.normSameRow.laid
def tabName : String := "math/bits.deBruijn64tab"
def tabInts : List Int := Lib.deBruijn64tab.map Int.ofNat
theorem ownK : ownKnob Tryz.prog.godebug = none := by kernel_rfl
theorem laidOutK : laidOutB Tryz.prog = true := by kernel_rfl
theorem tabG : Tryz.prog.globalNamed tabName = some 2 := by kernel_rfl
theorem tabT : (Tryz.prog.globals[2]?).map (·.type) = some 212 := by kernel_rfl
theorem tabCE : Tryz.prog.cellsOf 5 = 1 := by kernel_rfl
theorem tabCT : Tryz.prog.cellsOf 212 = 64 := by kernel_rfl
theorem laid_one {P : Program} {w : World} : ∀ {l : List (String × DataW Unit)} {ps : List MemPlace}, DataW.LaidVars P w l ps → ∀ x ∈ l, ∃ g t cs fuel p, P.globalNamed x.1 = some g ∧ (P.globals[g]?).map (·.type) = some t ∧ w.var? P x.1 = some cs ∧ DataW.trod (fun _ => ()) P w 0 (fun _ => true) false fuel t cs.toList = some (x.2, p) := by
  intro l
  induction l with
  | nil => intro ps _ x hx; cases hx
  | cons y l ih =>
    intro ps h x hx
    obtain ⟨n, d⟩ := y
    obtain ⟨g, t, cs, fuel, p, q, h1, h2, h3, h4, h5, _⟩ := h
    rcases List.mem_cons.1 hx with rfl | hx
    · exact ⟨g, t, cs, fuel, p, h1, h2, h3, h4⟩
    · exact ih h5 x hx
/-- a table of numbers that is on the list reads as listed -/
theorem laid_tab {w : World} (h : laidMetH Tryz.prog laidL w) {name : String} {k : IntKind} {zs : List Int} {g : Nat} {t e : TypeId} {n : Nat} (hm : (name, (Lib.tabData k zs : DataW Unit)) ∈ laidL)
    (hg : Tryz.prog.globalNamed name = some g) (hty : (Tryz.prog.globals[g]?).map (·.type) = some t) (ht : Tryz.prog.underlying t = some (.array n e)) (he : Tryz.prog.underlying e = some (.int k)) (hce : Tryz.prog.cellsOf e = 1) (hct : Tryz.prog.cellsOf t = n) : Lib.TabIs Tryz.prog w name k zs := by
  rw [MakeChecks.laidMetH_plain _ _ _ (by kernel_rfl)] at h
  obtain ⟨ps, hl, _⟩ := h
  obtain ⟨g', t', cs, fuel, p, hg', ht', hvar, hd⟩ := laid_one hl _ hm
  obtain rfl := Option.some.inj (hg.symm.trans hg')
  obtain rfl := Option.some.inj (hty.symm.trans ht')
  unfold Lib.TabIs
  rw [hvar, ← Lib.cells_of_tab ht he hce hct hd]
/-- the table's cells -/
def Tab (w : World) : Prop := TabAt 2 Lib.deBruijn64tab w
theorem tab_of {w : World} (h : laidMetH Tryz.prog laidL w) : Tab w := by
  have hT := laid_tab h (name := tabName) (k := .u8) (zs := tabInts) (by show _ ∈ [_, _, _, _, _, _, _]; repeat (first | exact List.Mem.head _ | apply List.Mem.tail)) tabG tabT Tryz.underlying212 Tryz.underlying5 tabCE tabCT
  intro j hj
  have hc := hT.cell tabG j (by simpa [tabInts] using hj)
  rw [hc]
  have e : tabInts.getD j 0 = ((Lib.deBruijn64tab.getD j 0 : Nat) : Int) := by
    unfold tabInts
    rw [List.getD_eq_getElem?_getD, List.getD_eq_getElem?_getD, List.getElem?_map]
    cases Lib.deBruijn64tab[j]? <;> rfl
  rw [e]
theorem Tab.keep {w w' : World} (h : Tab w) (hk : ∀ j : Nat, w'.cell? ⟨2, j, none⟩ = w.cell? ⟨2, j, none⟩) : Tab w' :=
  fun j hj => (hk j).trans (h j hj)
theorem Tab.lt {w : World} (h : Tab w) : 2 < w.heap.size := by
  have := h 0 (by decide)
  rcases Nat.lt_or_ge 2 w.heap.size with hlt | hge
  · exact hlt
  · unfold World.cell? at this
    simp [Array.getElem?_eq_none hge] at this
theorem Tab.below {w w' : World} (h : Tab w) (hb : Below w.heap.size w w') : Tab w' := h.keep fun _ => hb.cell h.lt
theorem Tab.belowB {w w' : World} {b : Nat} (h : Tab w) (hg : 2 < b) (hb : Below b w w') : Tab w' := h.keep fun _ => hb.cell hg
theorem Tab.alloc {w : World} (h : Tab w) (o : Obj) : Tab (w.alloc o) := h.keep fun _ => World.cell?_alloc_lt w o _ h.lt
theorem Tab.drew {w : World} (h : Tab w) : Tab w.drew := h
theorem Tab.drewN {w : World} (h : Tab w) (n : Nat) : Tab (w.drewN n) := h
end Go.Proofs.YteefncohknclcaaGreatDoor
namespace Go.Proofs.YteefncohknclcaaGreatDoor
open Go.RowKit
set_option maxHeartbeats 1000000 in
theorem tz_core (x k idx : Nat) (w : World) (hx0 : ((x : Int) == 0) = false)
    (key : IntKind.u64.wrap (bits BinOp.and IntKind.u64 (x : Int) (IntKind.u64.wrap (-(x : Int))) * 285870213051353865) / 288230376151711744 = (idx : Int))
    (hi : idx < 64) (hk : k < 64) (hcell : w.cell? ⟨2, idx, none⟩ = some (.int .u8 k)) :
    Calls Tryz.prog 153 #[.int .u64 x] w fun e w' => e = .returned (.int .i64 k) ∧ w = w' := by
  go_enter Tryz.func153, Tryz.ntmps153
  go_wp2_with (simp only [key])
  go_ret
  exact ⟨rfl, rfl⟩
set_option maxHeartbeats 1000000 in
/-- the least number of a set that has some -/
theorem tz_ok (s : B) (hs : s ≠ 0#64) (w : World) (hT : Tab w) : Calls Tryz.prog 153 #[.int .u64 (un s)] w fun e w' => e = .returned (.int .i64 (low s : Int)) ∧ w = w' := by
  have hx0 : un s ≠ 0 := fun e => hs (un_inj (by rw [e]; rfl))
  have hx := un_lt s
  obtain ⟨hlow, hk⟩ := Lib.lowest_bit 64 (un s) hx0 hx
  obtain ⟨hi, htab⟩ := Lib.deBruijn64_at _ hk
  have hcell := hT _ hi
  rw [htab] at hcell
  exact tz_core (un s) _ _ w (by simp; omega) (tz64_key (un s) _ hx hx0 hlow) hi hk hcell
set_option maxHeartbeats 1000000 in
theorem least_ok (s : B) (hs : s ≠ 0#64) (w : World) (hT : Tab w) : Calls Tryz.prog 129 #[.int .u64 (un s)] w fun e w' => e = .returned (.int .i64 (low s : Int)) ∧ w = w' := by
  go_enter Tryz.func129, Tryz.ntmps129
  go_wp2_with (go_at_call 153; refine (tz_ok _ hs _ hT).mono ?_; rintro e w' ⟨rfl, rfl⟩)
  go_ret
  exact ⟨rfl, rfl⟩
theorem un_zero_int {s : B} (h : s = 0#64) : (un s : Int) = 0 := by rw [h]; rfl
theorem un_ne0 {s : B} (h : s ≠ 0#64) : ((un s : Int) == 0) = false := by
  have : un s ≠ 0 := fun e => h (un_inj (by rw [e]; rfl))
  simpa using this
theorem un_ne1 {s : B} (h : s ≠ 0#64) : ((un s : Int) != 0) = true := by
  have : un s ≠ 0 := fun e => h (un_inj (by rw [e]; rfl))
  simpa using this
/-- what Next answers -/
def nextV (s : B) (m : Nat) : Value := if frm s m = 0#64 then .tuple #[.int .i64 0, .bool false] else .tuple #[.int .i64 (low (frm s m) : Int), .bool true]
theorem frm_big {s : B} {m : Nat} (h : 64 ≤ m) : frm s m = 0#64 := eq_zero_iff.2 fun n => by
  rw [has_frm]
  rcases Nat.lt_or_ge n 64 with h1 | h1
  · have : ¬ m ≤ n := by omega
    simp [this]
  · rw [has_ge h1]; simp
set_option maxHeartbeats 1000000 in
theorem Next_ok (s : B) (n : Int) (w : World) (hT : Tab w) : Calls Tryz.prog 94 #[.int .u64 (un s), .int .i64 n] w fun e w' => e = .returned (nextV s n.toNat) ∧ w = w' := by
  by_cases hb : 64 ≤ n
  · have HV : Hid (nextV s n.toNat = .tuple #[.int .i64 0, .bool false]) := by show nextV _ _ = _; unfold nextV; rw [if_pos (frm_big (by omega))]
    go_enter Tryz.func94, Tryz.ntmps94
    go_wp2
    go_ret2
    exact ⟨by rw [HV.out]; rfl, rfl⟩
  · obtain ⟨m, hm, hmm, hmx⟩ : ∃ m : Nat, m = n.toNat ∧ m ≤ 63 ∧ max n 0 = (m : Int) := ⟨n.toNat, rfl, by omega, by omega⟩
    rw [← hm]
    clear hm
    by_cases h0 : frm s m = 0#64
    · have HV : Hid (nextV s m = .tuple #[.int .i64 0, .bool false]) := by show nextV _ _ = _; unfold nextV; rw [if_pos h0]
      have e0 : (un (s &&& ~~~belowB m) : Int) = 0 := un_zero_int h0
      clear h0
      go_enter Tryz.func94, Tryz.ntmps94
      go_wp2_with (go_at_call 90; refine (below_ok m (by omega) _).mono ?_; rintro e w' ⟨rfl, rfl⟩)
      go_ret2
      exact ⟨by rw [HV.out]; rfl, rfl⟩
    · have HV : Hid (nextV s m = .tuple #[.int .i64 (low (frm s m) : Int), .bool true]) := by show nextV _ _ = _; unfold nextV; rw [if_neg h0]
      have e0 := un_ne0 h0
      have H0 := Lib.hid h0
      have hfr : frm s m = s &&& ~~~belowB m := rfl
      rw [hfr] at e0
      clear h0 hfr
      go_enter Tryz.func94, Tryz.ntmps94
      go_wp2_with (first | (go_at_call 90; refine (below_ok m (by omega) _).mono ?_; rintro e w' ⟨rfl, rfl⟩) | (go_at_call 129; refine (least_ok (s &&& ~~~belowB m) H0.out _ hT).mono ?_; rintro e w' ⟨rfl, rfl⟩))
      go_ret2
      exact ⟨by rw [HV.out]; rfl, rfl⟩
theorem lst_ne {t : B} (h : lst t ≠ []) : t ≠ 0#64 := fun e => h (by rw [e, lst_zero])
/-- the k-th number -/
def nth (s : B) (k : Nat) : Nat := (lst s).getD k 0
theorem lst_drop {s t : B} {j : Nat} (h : lst t = (lst s).drop j) (hj : j < (lst s).length) : t ≠ 0#64 ∧ lst (t &&& (t - 1#64)) = (lst s).drop (j + 1) ∧ low t = nth s j := by
  have hn : nth s j = (lst s)[j] := by unfold nth; simp [hj]
  rw [hn]
  have hd : (lst s).drop j = (lst s)[j] :: (lst s).drop (j + 1) := List.drop_eq_getElem_cons hj
  have h0 : t ≠ 0#64 := lst_ne (by rw [h, hd]; exact List.cons_ne_nil _ _)
  rw [lst_step h0, hd] at h
  injection h with h1 h2
  exact ⟨h0, h2, h1⟩
end Go.Proofs.YteefncohknclcaaGreatDoor
