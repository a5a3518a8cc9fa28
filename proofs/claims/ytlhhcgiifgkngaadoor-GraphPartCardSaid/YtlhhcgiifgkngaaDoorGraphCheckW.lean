/- The walk of graph.Check. Conditions: the graph reads as listed. -/
import Derived.Test.YtlhhcgiifgkngaaDoorGraphW
import Derived.Test.YtlhhcgiifgkngaaDoorBitsW
namespace Go.Proofs.YtlhhcgiifgkngaaDoor
open Go.RowKit Go.Shelf
/-- what a graph holds -/
structure GD where
  names : List ByteArray
  edges : List E2
  phony : B
  made : B
/-- a graph that Check lets pass -/
structure Good (g : GD) : Prop where
  names : g.names.length ≤ 64
  ok : okN g.names g.names.length
  rise : Rise g.names
  edges : ∀ x ∈ g.edges, EIn g.names.length x
  erise : ERise g.edges
  sets : (g.phony ||| g.made) &&& ~~~belowB g.names.length = 0#64
/-- a graph as the call can read it -/
structure GrAt (w : World) (v : Value) (g : GD) : Prop where
  at_ : ∃ (p : Option Addr) (n c : Nat) (q : Option Addr) (m d : Nat), v = .agg #[.slice p n c, .slice q m d, .int .u64 (un g.phony : Int), .int .u64 (un g.made : Int)] ∧ NL w p n c g.names ∧ EsAt w q m d g.edges
theorem GrAt.below {w w' : World} {v : Value} {g : GD} (h : GrAt w v g) (hb : Below w.heap.size w w') : GrAt w' v g := by
  obtain ⟨p, n, c, q, m, d, h1, h2, h3⟩ := h.at_
  exact ⟨p, n, c, q, m, d, h1, h2.below hb, h3.below hb⟩
def EAll (g : GD) (k : Nat) : Prop := ∀ x ∈ g.edges.take k, EIn g.names.length x
theorem eall_next {g : GD} {k : Nat} (hk : k < g.edges.length) (h : EAll g k) (hx : EIn g.names.length (g.edges.getD k (0, 0))) : EAll g (k + 1) := by
  intro x hm
  rw [List.take_succ_eq_append_getElem hk] at hm
  rcases List.mem_append.1 hm with hm | hm
  · exact h x hm
  · rw [List.mem_singleton.1 hm]
    rw [List.getD_eq_getElem?_getD, List.getElem?_eq_getElem hk] at hx
    exact hx
theorem eall_no {g : GD} {k : Nat} (hk : k < g.edges.length) (hx : ¬ EIn g.names.length (g.edges.getD k (0, 0))) : ¬ Good g := fun h => hx (h.edges _ (by
  rw [List.getD_eq_getElem?_getD, List.getElem?_eq_getElem hk]; exact List.getElem_mem hk))
set_option maxHeartbeats 4000000 in
set_option maxRecDepth 100000 in
theorem CheckG2_ok (v : Value) (g : GD) (w : World) (h : GrAt w v g) :
    Calls Tryd.prog 15 #[v] w fun e w' => (∃ E : Int, e = .returned (.int .i64 E) ∧ ((E = 0 ∧ Good g) ∨ (E ≠ 0 ∧ ¬ Good g))) ∧ Below w.heap.size w w' := by
  obtain ⟨p, n, c, q, m, d, rfl, hN, hE⟩ := h.at_
  have hln := hN.at_.len
  have hlm := hE.len
  subst hln hlm
  have hbn := hN.at_.big
  have hbm := hE.big
  obtain ⟨W, hW⟩ : ∃ W, W = w.alloc (.cells #[.slice p g.names.length c, .slice q g.edges.length d, .int .u64 (un g.phony : Int), .int .u64 (un g.made : Int)] 26) := ⟨_, rfl⟩
  have hBW : Below w.heap.size w W := by rw [hW]; exact (Below.refl _ _).alloc (Nat.le_refl _) _
  have HS : Hid (w.heap.size < W.heap.size) := by show _ < _; rw [hW]; simp
  have HC : Hid (∀ u : World, Below W.heap.size W u → u.cell? ⟨w.heap.size, 0, none⟩ = some (.slice p g.names.length c) ∧ u.cell? ⟨w.heap.size, 1, none⟩ = some (.slice q g.edges.length d) ∧ u.cell? ⟨w.heap.size, 2, none⟩ = some (.int .u64 (un g.phony : Int)) ∧ u.cell? ⟨w.heap.size, 3, none⟩ = some (.int .u64 (un g.made : Int))) := by
    show ∀ u : World, _ → _
    intro u hu
    rw [hu.cell HS.out, hu.cell HS.out, hu.cell HS.out, hu.cell HS.out, hW]
    refine ⟨?_, ?_, ?_, ?_⟩ <;> (rw [World.cell?_alloc_at _ _ _ _ rfl]; rfl)
  have HN := Lib.hid (hN.below hBW)
  have HE := Lib.hid (hE.below hBW)
  have HBW := Lib.hid hBW
  obtain ⟨k0, k1, k2, k3⟩ := HC.out W (Below.refl _ _)
  rw [hW] at k0 k1 k2 k3
  clear hN hE hBW h
  by_cases h64 : g.names.length ≤ 64
  · by_cases hok : okN g.names g.names.length
    · go_enter Tryd.func15, Tryd.ntmps15
      go_wp2_with fail
      rw [← hW]
      clear hW k0 k1 k2 k3
      refine (Sort_yes _ _ _ g.names _ HN.out hok).mono ?_
      rintro e w2 ⟨gg, cg, rfl, _, hb2⟩
      have HB2 := Lib.hid hb2
      obtain ⟨k0, k1, k2, k3⟩ := HC.out w2 hb2
      clear hb2
      go_wp2_with fail
      refine (risesS_ok _ _ _ g.names _ (HN.out.below HB2.out)).mono ?_
      rintro e w3 ⟨hcase, qq, rfl⟩
      rcases hcase with ⟨rfl, hr⟩ | ⟨rfl, hr⟩
      · have HR := Lib.hid hr
        have HB3 : Hid (Below W.heap.size W (w2.drewN qq)) := by show Below _ _ _; exact below_drawsP HB2.out qq
        clear hr
        obtain ⟨w3, hw3⟩ : ∃ w3, w3 = w2.drewN qq := ⟨_, rfl⟩
        rw [← hw3] at HB3 ⊢
        clear hw3 HB2 k0 k1 k2 k3
        obtain ⟨k0, k1, k2, k3⟩ := HC.out w3 HB3.out
        generalize (sortN g.names).length = sl at *
        have HH : Hid (g.names.length ≤ 64 ∧ okN g.names g.names.length) := by show _ ∧ _; exact ⟨h64, hok⟩
        clear hok
        go_wp2
        go_loopw [31] (fun i wr => ∃ k : Nat, k ≤ g.edges.length ∧ i = .int .i64 k ∧ Hid (EAll g k) ∧ Hid (Below W.heap.size W wr)) (fun i _ => g.edges.length - (intOf i).toNat)
        case atStart => exact ⟨0, Nat.zero_le _, rfl, show EAll g 0 from fun x hx => by simp at hx, HB3⟩
        case round =>
          clear k0 k1 k2 k3
          obtain ⟨k, hk, rfl, HA, HW⟩ := hrel
          have HFIN : Hid (∀ u, Below W.heap.size W u → Below w.heap.size w u) := by show ∀ u, _; exact fun u hu => HBW.out.trans (hu.mono (Nat.le_of_lt HS.out))
          by_cases hlt : k < g.edges.length
          · obtain ⟨b, o, rfl, hb, hca, hcb⟩ := (HE.out.below HW.out).cell (getD_some (0, 0) hlt)
            have HX := Lib.hid (eall_next hlt HA.out)
            have HY := Lib.hid (eall_no (g := g) hlt)
            generalize g.edges.getD k (0, 0) = x at *
            obtain ⟨x1, x2⟩ := x
            simp only [eF, eG] at hca hcb
            have hca2 : wr.cell? ⟨b, o + k * 2 + 1, none⟩ = some (.int .i64 x2) := hcb
            have HB4 : Hid (Below W.heap.size W (wr.alloc (.cells #[.int .i64 x1, .int .i64 x2] 43))) := by show Below _ _ _; exact HW.out.alloc HW.out.size _
            clear hcb
            by_cases g1 : x1 < 0
            · have HN4 := Lib.hid (HY.out (fun h => by have := h.1; simp only at this; omega))
              clear HX HY
              go_wp2
              go_ret
              exact ⟨⟨4, rfl, .inr ⟨by decide, HN4.out⟩⟩, HFIN.out _ HB4.out⟩
            by_cases g2 : (g.names.length : Int) ≤ x1
            · have HN4 := Lib.hid (HY.out (fun h => by have := h.2.1; simp only at this; omega))
              clear HX HY
              go_wp2
              go_ret
              exact ⟨⟨4, rfl, .inr ⟨by decide, HN4.out⟩⟩, HFIN.out _ HB4.out⟩
            by_cases g3 : x2 < 0
            · have HN4 := Lib.hid (HY.out (fun h => by have := h.2.2.1; simp only at this; omega))
              clear HX HY
              go_wp2
              go_ret
              exact ⟨⟨4, rfl, .inr ⟨by decide, HN4.out⟩⟩, HFIN.out _ HB4.out⟩
            by_cases g4 : (g.names.length : Int) ≤ x2
            · have HN4 := Lib.hid (HY.out (fun h => by have := h.2.2.2; simp only at this; omega))
              clear HX HY
              go_wp2
              go_ret
              exact ⟨⟨4, rfl, .inr ⟨by decide, HN4.out⟩⟩, HFIN.out _ HB4.out⟩
            have HN4 := Lib.hid (HX.out ⟨by simp only; omega, by simp only; omega, by simp only; omega, by simp only; omega⟩)
            clear HX HY
            go_wp2
            go_roundw
            case rel => exact ⟨k + 1, by omega, by go_num, HN4.out, HB4.out⟩
            case measure => simp [intOf]; omega
          · obtain rfl : k = g.edges.length := by omega
            obtain ⟨k0, k1, k2, k3⟩ := HC.out wr HW.out
            have HAll : Hid (∀ x ∈ g.edges, EIn g.names.length x) := by
              show ∀ x ∈ g.edges, _
              have := HA.out
              unfold EAll at this
              rw [List.take_length] at this
              exact this
            go_wp2_with fail
            refine (risesE_ok _ _ _ g.edges _ (HE.out.below HW.out)).mono ?_
            rintro e w5 ⟨hcase, hb5⟩
            have HB5 := Lib.hid (HW.out.trans (hb5.mono HW.out.size))
            clear hb5 k0 k1 k2 k3
            obtain ⟨k0, k1, k2, k3⟩ := HC.out w5 HB5.out
            rcases hcase with ⟨rfl, hr⟩ | ⟨rfl, hr⟩
            · have HR5 := Lib.hid hr
              clear hr
              by_cases hz : (g.phony ||| g.made) &&& ~~~belowB g.names.length = 0#64
              · have HG : Hid (Good g) := by show Good g; exact ⟨HH.out.1, HH.out.2, HR.out, HAll.out, HR5.out, hz⟩
                have hzz : (((un ((g.phony ||| g.made) &&& ~~~belowB g.names.length) : Nat) : Int) != 0) = false := by rw [hz]; rfl
                clear hz
                go_wp2_with (go_at_call 14; refine (Below_ok _ h64 _).mono ?_; rintro e w' ⟨rfl, rfl⟩)
                go_ret
                exact ⟨⟨0, rfl, .inl ⟨rfl, HG.out⟩⟩, HFIN.out _ HB5.out⟩
              · have HG : Hid (¬ Good g) := by show ¬ _; exact fun h => hz h.sets
                have hzz : (((un ((g.phony ||| g.made) &&& ~~~belowB g.names.length) : Nat) : Int) != 0) = true := by
                  rw [bne_iff_ne]
                  intro e
                  exact hz (un_inj (by rw [show un 0#64 = 0 from rfl]; omega))
                clear hz
                go_wp2_with (go_at_call 14; refine (Below_ok _ h64 _).mono ?_; rintro e w' ⟨rfl, rfl⟩)
                go_ret
                exact ⟨⟨4, rfl, .inr ⟨by decide, HG.out⟩⟩, HFIN.out _ HB5.out⟩
            · have HG : Hid (¬ Good g) := by show ¬ _; exact fun h => hr h.erise
              clear hr
              go_wp2
              go_ret
              exact ⟨⟨3, rfl, .inr ⟨by decide, HG.out⟩⟩, HFIN.out _ HB5.out⟩
      · have HG : Hid (¬ Good g) := by show ¬ _; exact fun h => hr h.rise
        clear hr
        go_wp2
        go_ret
        exact ⟨⟨3, rfl, .inr ⟨by decide, HG.out⟩⟩, HBW.out.trans ((below_drawsP HB2.out qq).mono (Nat.le_of_lt HS.out))⟩
    · have HG : Hid (¬ Good g) := by show ¬ _; exact fun h => hok h.ok
      go_enter Tryd.func15, Tryd.ntmps15
      go_wp2_with fail
      rw [← hW]
      clear hW k0 k1 k2 k3
      refine (Sort_no _ _ _ g.names _ HN.out.at_ hok).mono ?_
      rintro e w2 ⟨rfl, rfl⟩
      go_wp2
      go_ret
      exact ⟨⟨3, rfl, .inr ⟨by decide, HG.out⟩⟩, HBW.out⟩
  · have HG : Hid (¬ Good g) := by show ¬ _; exact fun h => h64 h.names
    go_enter Tryd.func15, Tryd.ntmps15
    go_wp2
    go_ret
    rw [← hW]
    exact ⟨⟨2, rfl, .inr ⟨by decide, HG.out⟩⟩, HBW.out⟩
end Go.Proofs.YtlhhcgiifgkngaaDoor
