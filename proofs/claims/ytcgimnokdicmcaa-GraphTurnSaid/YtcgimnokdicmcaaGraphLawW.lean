/- The fact graphs of the laws; the law GraphRows. Conditions: the graph reads as listed. -/
import Derived.Test.YtcgimnokdicmcaaGraphNumW
import Derived.Test.YtcgimnokdicmcaaMillW
import Derived.Deep.RegionWith
import Derived.Deep.RegionHeld3
namespace Go.Proofs.Ytcgimnokdicmcaa
open Go.RowKit Go.Shelf
set_option maxHeartbeats 1000000 in
theorem graphs_below (w : World) : Calls Try.prog 5 #[] w fun e w' => e = .returned (.bool true) ∧ Below w.heap.size w w' := by
  go_enter Try.func5, Try.ntmps5
  go_wp2_with fail
  refine (mill_ok w).mono ?_
  rintro e w1 ⟨⟨v, rfl, hv⟩, hb1⟩
  have HV := Lib.hid hv
  have HB1 := Lib.hid hb1
  clear hv hb1
  go_wp2_with fail
  refine (Rows2_ok v G0 _ HV.out).mono ?_
  rintro e w2 ⟨hcase, hb2⟩
  have HB2 := Lib.hid (HB1.out.trans (hb2.mono HB1.out.size))
  rcases hcase with ⟨_, p, c, rfl, hown⟩ | ⟨hno, _⟩
  · rw [show G0.names.length = 2 from rfl, show G0.edges = [(0, 1)] from rfl, rows0] at hown
    rw [show G0.names.length = 2 from rfl]
    obtain ⟨b, cap, hv2, _, _⟩ := hown.form (by omega)
    injection hv2 with e1 e2 e3
    subst e1 e3
    have hc := ownG_at hown (k := 0) (by omega)
    have hc' : w2.cell? ⟨b, 0, none⟩ = some (.int .u64 2) := hc
    clear hown hc hb2
    go_wp2
    go_ret
    exact ⟨rfl, HB2.out⟩
  · exact absurd good0 hno
theorem shr_bitG (s : B) (a : Nat) : (un (s >>> a &&& 1#64) : Int) = if has s a = true then 1 else 0 := by
  have e : un (s >>> a &&& 1#64) = un (s >>> a) % 2 := by
    unfold un; rw [BitVec.toNat_and]; exact Nat.and_one_is_mod _
  have e2 : un (s >>> a) = un s / 2 ^ a := by unfold un; rw [BitVec.toNat_ushiftRight, Nat.shiftRight_eq_div_pow]
  rw [e, e2, has_un, Nat.testBit_eq_decide_div_mod_eq]
  rcases Nat.mod_two_eq_zero_or_one (un s / 2 ^ a) with h | h <;> simp [h]
theorem bit_eq (s : B) {a : Nat} : ((un ((s >>> a) &&& 1#64) : Int) == 1) = has s a := by
  rw [shr_bitG s a]
  cases has s a <;> rfl
set_option maxHeartbeats 2000000 in
set_option maxRecDepth 100000 in
theorem graphRows_walk (v : Value) (g : GD) (a b : Int) (w : World) (h : GrAt w v g) :
    Calls Try.prog 3 #[v, .int .i64 a, .int .i64 b] w fun e w' => e = .returned (.bool true) ∧ Below w.heap.size w w' := by
  have hGr := h
  obtain ⟨p, n, c, q, m, d, rfl, hN, hE⟩ := h.at_
  have hln := hN.at_.len
  have hlm := hE.len
  subst hln hlm
  have hbn := hN.at_.big
  have hbm := hE.big
  obtain ⟨W, hW⟩ : ∃ W, W = w.alloc (.cells #[.slice p g.names.length c, .slice q g.edges.length d, .int .u64 (un g.phony : Int), .int .u64 (un g.made : Int)] 26) := ⟨_, rfl⟩
  have hBW : Below w.heap.size w W := by rw [hW]; exact (Below.refl _ _).alloc (Nat.le_refl _) _
  have HS : Hid (w.heap.size < W.heap.size) := by show _ < _; rw [hW]; simp
  have HC : Hid (∀ u : World, Below W.heap.size W u → u.cell? ⟨w.heap.size, 0, none⟩ = some (.slice p g.names.length c) ∧ u.cell? ⟨w.heap.size, 1, none⟩ = some (.slice q g.edges.length d) ∧ u.cell? ⟨w.heap.size, 2, none⟩ = some (.int .u64 (un g.phony : Int)) ∧ u.cell? ⟨w.heap.size, 3, none⟩ = some (.int .u64 (un g.made : Int))) := by
    show ∀ u : World, _ → _
    intro u hu
    rw [hu.cell HS.out, hu.cell HS.out, hu.cell HS.out, hu.cell HS.out, hW]
    refine ⟨?_, ?_, ?_, ?_⟩ <;> (rw [World.cell?_alloc_at _ _ _ _ rfl]; rfl)
  have HN := Lib.hid (hN.below hBW)
  have HE := Lib.hid (hE.below hBW)
  have HGr := Lib.hid (hGr.below hBW)
  have HFIN : Hid (∀ u, Below W.heap.size W u → Below w.heap.size w u) := by show ∀ u, _; exact fun u hu => hBW.trans (hu.mono (Nat.le_of_lt HS.out))
  obtain ⟨k0, k1, k2, k3⟩ := HC.out W (Below.refl _ _)
  rw [hW] at k0 k1 k2 k3
  clear hN hE hBW h hGr
  go_enter Try.func3, Try.ntmps3
  go_wp2_with fail
  rw [← hW]
  clear hW k0 k1 k2 k3
  refine (graphs_below W).mono ?_
  rintro e w1 ⟨rfl, hb1⟩
  have HB1 := Lib.hid hb1
  obtain ⟨k0, k1, k2, k3⟩ := HC.out w1 hb1
  clear hb1
  go_wp2_with fail
  refine (Rows2_ok _ g _ (HGr.out.below HB1.out)).mono ?_
  rintro e w2 ⟨hcase, hb2⟩
  have HB2 := Lib.hid (HB1.out.trans (hb2.mono HB1.out.size))
  obtain ⟨j0, j1, j2, j3⟩ := HC.out w2 HB2.out
  clear hb2 k0 k1 k2 k3
  rcases hcase with ⟨hG, p2, c2, rfl, hown⟩ | ⟨_, E, hE0, rfl⟩
  · have HO := Lib.hid hown
    have HG := Lib.hid hG
    have h64 := hG.names
    clear hown hG
    by_cases g1 : a < 0
    · go_wp2
      go_ret
      exact ⟨rfl, HFIN.out _ HB2.out⟩
    by_cases g2 : (g.names.length : Int) ≤ a
    · go_wp2
      go_ret
      exact ⟨rfl, HFIN.out _ HB2.out⟩
    by_cases g3 : b < 0
    · go_wp2
      go_ret
      exact ⟨rfl, HFIN.out _ HB2.out⟩
    by_cases g4 : (g.names.length : Int) ≤ b
    · go_wp2
      go_ret
      exact ⟨rfl, HFIN.out _ HB2.out⟩
    obtain ⟨a1, rfl⟩ := Int.eq_ofNat_of_zero_le (show 0 ≤ a by omega)
    obtain ⟨b1, rfl⟩ := Int.eq_ofNat_of_zero_le (show 0 ≤ b by omega)
    have ha1 : a1 < g.names.length := by omega
    have hb1 : b1 < g.names.length := by omega
    obtain ⟨ad, rfl, _⟩ := HN.out.at_.reads.2 (by omega)
    obtain ⟨bb, o, rfl, hbW⟩ := HN.out.plain _ rfl
    have hcW := HN.out.cellAt a1 ha1
    have HNum := Lib.hid (fun (u : World) (hu : Below W.heap.size W u) => Number_ok _ g u (HGr.out.below hu) HG.out a1 ha1)
    generalize g.names.getD a1 ByteArray.empty = x at *
    have hl1 : (a1 : Int) < (g.names.length : Int) := by omega
    have HSS : Hid (∀ u : World, Below W.heap.size W u → u.cell? ⟨w.heap.size, 0, none⟩ = some (.slice (some ⟨bb, o, none⟩) g.names.length c) ∧ u.cell? ⟨w.heap.size, 1, none⟩ = some (.slice q g.edges.length d) ∧ u.cell? ⟨w.heap.size, 2, none⟩ = some (.int .u64 (un g.phony : Int)) ∧ u.cell? ⟨w.heap.size, 3, none⟩ = some (.int .u64 (un g.made : Int)) ∧ u.cell? ⟨bb, o + a1, none⟩ = some (.string x)) := by
      show ∀ u : World, _ → _
      intro u hu
      obtain ⟨q0, q1, q2, q3⟩ := HC.out u hu
      refine ⟨q0, q1, q2, q3, ?_⟩
      rw [hu.cell hbW]; exact hcW
    clear hcW
    go_wp2
    go_region_held3 (fun u : World => u.cell? ⟨w.heap.size, 0, none⟩ = some (.slice (some ⟨bb, o, none⟩) g.names.length c) ∧ u.cell? ⟨w.heap.size, 1, none⟩ = some (.slice q g.edges.length d) ∧ u.cell? ⟨w.heap.size, 2, none⟩ = some (.int .u64 (un g.phony : Int)) ∧ u.cell? ⟨w.heap.size, 3, none⟩ = some (.int .u64 (un g.made : Int)) ∧ u.cell? ⟨bb, o + a1, none⟩ = some (.string x)) (first | exact HSS.out _ HB2.out.drew | exact HSS.out _ HB3.out)
      (first | (go_at_call 7; refine (HNum.out _ HB2.out.drew).mono ?_; rintro e w3 ⟨rfl, hb3⟩; have HB3 := Lib.hid (HB2.out.drew.trans (hb3.mono HB2.out.size)); have HB23 := Lib.hid hb3; clear hb3))
    have HB3' := HFIN.out _ HB3.out
    have HO3 : Hid (w3.ownsRow w1.heap.size 24 1 (.slice p2 g.names.length c2) g.names.length (u64sG (rowsE g.names.length g.edges))) := by
      show World.ownsRow _ _ _ _ _ _ _
      have h0 : w2.drew.ownsRow w1.heap.size 24 1 (.slice p2 g.names.length c2) g.names.length (u64sG (rowsE g.names.length g.edges)) := HO.out
      exact ownG_below h0 HB23.out
    obtain ⟨b2, cap2, hv2, _, _⟩ := HO3.out.form (by omega)
    injection hv2 with e1 e2 e3
    subst e1 e3
    have HO3lt : Hid (b2 < w3.heap.size) := by show _ < _; exact (HO3.out.lt b2 rfl).2
    have hrow := ownG_at HO3.out ha1
    rw [rowsE_get _ ha1] at hrow
    have hbit0 := has_rowE (es := g.edges) (a := a1) (b := b1) (by omega) (fun x hx => by have := HG.out.edges x hx; exact ⟨this.2.2.1, by have := this.2.2.2; omega⟩)
    have HCon : Hid (∀ u : World, Below W.heap.size W u → Calls Try.prog 8 #[.slice q g.edges.length d, .agg #[.int .i64 (a1 : Int), .int .i64 (b1 : Int)]] u fun e w' => e = .returned (.bool (decide (((a1 : Int), (b1 : Int)) ∈ g.edges))) ∧ Below u.heap.size u w') := by
      show ∀ u : World, _
      exact fun u hu => containsE_ok q _ d g.edges ((a1 : Int), (b1 : Int)) u (HE.out.below hu)
    have hbit := bit_eq (rowE g.edges a1) (a := b1)
    rw [hbit0] at hbit
    generalize rowE g.edges a1 = y at *
    generalize decide (((a1 : Int), (b1 : Int)) ∈ g.edges) = Bv at *
    obtain ⟨t0, t1, t2, t3, _⟩ := HSS.out w3 HB3.out
    clear j0 j1 j2 j3 hbit0 HO HO3 HNum HB23
    have hb2lt := (HO3lt.out)
    have hw0lt : w.heap.size < w3.heap.size := Nat.lt_of_lt_of_le HS.out HB3.out.size
    have HSQ : Hid (∀ u : World, Below w3.heap.size w3 u → u.cell? ⟨b2, a1, none⟩ = some (.int .u64 (un y : Int)) ∧ u.cell? ⟨w.heap.size, 1, none⟩ = some (.slice q g.edges.length d)) := by
      show ∀ u : World, _ → _
      intro u hu
      exact ⟨(hu.cell hb2lt).trans hrow, (hu.cell hw0lt).trans t1⟩
    have H3R : Hid (Below w3.heap.size w3 w3) := by show Below _ _ _; exact Below.refl _ _
    clear t0 t1 t2 t3 hrow hb2lt hw0lt
    go_wp2
    go_region_held3 (fun u : World => u.cell? ⟨b2, a1, none⟩ = some (.int .u64 (un y : Int)) ∧ u.cell? ⟨w.heap.size, 1, none⟩ = some (.slice q g.edges.length d)) (first | exact HSQ.out _ H3R.out.drew | exact HSQ.out _ HB34.out)
      (first | (go_at_call 8; refine (HCon.out _ HB3.out.drew).mono ?_; rintro e w4 ⟨rfl, hb4⟩; have HB34 := Lib.hid (H3R.out.drew.trans (hb4 : Below w3.heap.size _ _)); have HB4 := Lib.hid (HFIN.out _ (HB3.out.drew.trans (hb4.mono HB3.out.size))); clear hb4))
    all_goals
      go_wp2
      go_ret
      exact ⟨by cases Bv <;> rfl, HB4.out⟩
  · obtain ⟨i1, i2⟩ := int_ne' hE0
    go_wp2
    go_ret
    exact ⟨rfl, HFIN.out _ HB2.out⟩
end Go.Proofs.Ytcgimnokdicmcaa
