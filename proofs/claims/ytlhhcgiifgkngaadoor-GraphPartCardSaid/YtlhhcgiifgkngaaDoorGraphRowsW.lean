/- The walk of graph.Rows. Conditions: the graph reads as listed. -/
import Derived.Test.YtlhhcgiifgkngaaDoorGraphCheckW
namespace Go.Proofs.YtlhhcgiifgkngaaDoor
open Go.RowKit Go.Shelf
def u64sG (r : List B) : List Value := r.map fun x : B => Value.int .u64 (un x : Int)
theorem u64sG_set (cur : List B) (k : Nat) (x : B) : (u64sG cur).set k (.int .u64 (un x : Int)) = u64sG (cur.set k x) := by
  unfold u64sG; rw [List.map_set]
theorem info_u64G : (Tryd.prog.info? 24).map (fun i => (i.zero, i.size, i.bytes)) = some (some (.int .u64 0), 1, 8) := by kernel_rfl
theorem made_zeroG (n : Nat) : (madeCells (Value.int .u64 0).cells (n * 1)).toList = u64sG (List.replicate n 0#64) := by
  unfold madeCells u64sG
  apply List.ext_getElem
  · simp
  · intro i h1 h2
    simp [Value.cells, Nat.mod_one]
    rfl
theorem ownG_at {w : World} {base b n c : Nat} {D : List B} (h : w.ownsRow base 24 1 (.slice (some ⟨b, 0, none⟩) n c) n (u64sG D)) {k : Nat} (hk : k < n) : w.cell? ⟨b, k, none⟩ = some (.int .u64 (un (D.getD k 0#64) : Int)) := by
  rw [h.cellAt k (by omega)]
  have hl : D.length = n := by have := h.1; simpa [u64sG] using this
  unfold u64sG
  simp [hl, hk]
/-- what Rows answers -/
def RowsPost (w : World) (g : GD) (e : Ending) (w' : World) : Prop :=
  ((Good g ∧ ∃ (p : Option Addr) (c : Nat), e = .returned (.tuple #[.slice p g.names.length c, .int .i64 0]) ∧ w'.ownsRow w.heap.size 24 1 (.slice p g.names.length c) g.names.length (u64sG (rowsE g.names.length g.edges))) ∨
    (¬ Good g ∧ ∃ E : Int, E ≠ 0 ∧ e = .returned (.tuple #[.slice none 0 0, .int .i64 E]))) ∧ Below w.heap.size w w'
set_option maxHeartbeats 4000000 in
set_option maxRecDepth 100000 in
theorem Rows2_ok (v : Value) (g : GD) (w : World) (h : GrAt w v g) : Calls Tryd.prog 54 #[v] w (RowsPost w g) := by
  have hGr := h
  obtain ⟨p, n, c, q, m, d, rfl, hN, hE⟩ := h.at_
  have hln := hN.at_.len
  have hlm := hE.len
  subst hln hlm
  have hbn := hN.at_.big
  have hbm := hE.big
  obtain ⟨W, hW⟩ : ∃ W, W = w.alloc (.cells #[.slice p g.names.length c, .slice q g.edges.length d, .int .u64 (un g.phony : Int), .int .u64 (un g.made : Int)] 26) := ⟨_, rfl⟩
  have hBW : Below w.heap.size w W := by rw [hW]; exact (Below.refl _ _).alloc (Nat.le_refl _) _
  have HS : Hid (w.heap.size < W.heap.size) := by show _ < _; rw [hW]; simp
  have HC : Hid (∀ u : World, Below W.heap.size W u → u.cell? ⟨w.heap.size, 0, none⟩ = some (.slice p g.names.length c) ∧ u.cell? ⟨w.heap.size, 1, none⟩ = some (.slice q g.edges.length d) ∧ u.cell? ⟨w.heap.size, 2, none⟩ = some (.int .u64 (un g.phony : Int)) ∧ u.cell? ⟨w.heap.size, 3, none⟩ = some (.int .u64 (un g.made : Int))) := by
    show ∀ u : World, _ → _
    intro u hu
    rw [hu.cell HS.out, hu.cell HS.out, hu.cell HS.out, hu.cell HS.out, hW]
    refine ⟨?_, ?_, ?_, ?_⟩ <;> (rw [World.cell?_alloc_at _ _ _ _ rfl]; rfl)
  have HE := Lib.hid (hE.below hBW)
  have HBW := Lib.hid hBW
  have HCk := Lib.hid (CheckG2_ok _ g W (hGr.below hBW))
  have HFIN : Hid (∀ u, Below W.heap.size W u → Below w.heap.size w u) := by show ∀ u, _; exact fun u hu => HBW.out.trans (hu.mono (Nat.le_of_lt HS.out))
  obtain ⟨k0, k1, k2, k3⟩ := HC.out W (Below.refl _ _)
  rw [hW] at k0 k1 k2 k3
  clear hN hE hBW h hGr
  obtain ⟨i0, hi, hz0, hz1, hz2⟩ := info_parts info_u64G
  go_enter Tryd.func54, Tryd.ntmps54
  go_wp2_with fail
  rw [← hW]
  clear hW k0 k1 k2 k3
  refine HCk.out.mono ?_
  rintro e w2 ⟨⟨E, rfl, hcase⟩, hb2⟩
  have HB2 := Lib.hid hb2
  obtain ⟨k0, k1, k2, k3⟩ := HC.out w2 hb2
  clear hb2
  rcases hcase with ⟨rfl, hG⟩ | ⟨hE0, hG⟩
  · have h64 := hG.names
    have HG := Lib.hid hG
    clear hG
    go_wp2_with (at_make; refine wpList_make_full _ rfl _ _ 49 rfl w2.heap.size 24 i0 (.int .u64 0) 1 Tryd.underlying49 hi hz0 hz1 .i64 .i64 (g.names.length : Int) (g.names.length : Int) g.names.length rfl rfl rfl rfl ?b2 ?b3 (Nat.le_refl _) ?_; rotate_right; intro w3 hown hgrow; have hb3 : Below w2.heap.size w2 w3 := (Below.refl _ _).grown hgrow (Nat.le_refl _) (fun k hk => by cases hk); obtain ⟨j0, j1, j2, j3⟩ := HC.out w3 (HB2.out.trans (hb3.mono HB2.out.size)))
    case b2 => rw [hz2]; omega
    case b3 => unfold maxLen; omega
    rw [made_zeroG, ← rowsE_nil] at hown
    have HB3 := Lib.hid hb3
    have HOW := Lib.hid hown
    clear hgrow hb3 hown k0 k1 k2 k3 j0 j1 j2 j3
    go_loopw [20] (fun i wr => ∃ k : Nat, k ≤ g.edges.length ∧ i = .int .i64 k ∧ Hid (wr.ownsRow w2.heap.size 24 1 (.slice (some ⟨w2.heap.size, 0, none⟩) g.names.length g.names.length) g.names.length (u64sG (rowsE g.names.length (g.edges.take k)))) ∧ Hid (Below w2.heap.size w2 wr)) (fun i _ => g.edges.length - (intOf i).toNat)
    case atStart => exact ⟨0, Nat.zero_le _, rfl, by rw [List.take_zero]; exact HOW, HB3⟩
    case round =>
      obtain ⟨k, hk, rfl, HO, HW⟩ := hrel
      by_cases hlt : k < g.edges.length
      · have HWr := Lib.hid (HB2.out.trans (HW.out.mono HB2.out.size))
        obtain ⟨b, o, rfl, hb, hca, hcb⟩ := (HE.out.below HWr.out).cell (getD_some (0, 0) hlt)
        have hin : EIn g.names.length (g.edges.getD k (0, 0)) := HG.out.edges _ (by rw [List.getD_eq_getElem?_getD, List.getElem?_eq_getElem hlt]; exact List.getElem_mem hlt)
        have htk : g.edges.take (k + 1) = g.edges.take k ++ [g.edges.getD k (0, 0)] := by
          rw [List.take_succ_eq_append_getElem hlt, List.getD_eq_getElem?_getD, List.getElem?_eq_getElem hlt]; rfl
        generalize g.edges.getD k (0, 0) = x at *
        obtain ⟨x1, x2⟩ := x
        obtain ⟨h1, h2, h3, h4⟩ := hin
        simp only at h1 h2 h3 h4
        obtain ⟨a1, rfl⟩ := Int.eq_ofNat_of_zero_le h1
        obtain ⟨a2, rfl⟩ := Int.eq_ofNat_of_zero_le h3
        have ha1 : a1 < g.names.length := by omega
        simp only [eF, eG] at hca hcb
        have hca2 : wr.cell? ⟨b, o + k * 2 + 1, none⟩ = some (.int .i64 (a2 : Int)) := hcb
        have HSN : Hid (rowsE g.names.length (g.edges.take (k + 1)) = (rowsE g.names.length (g.edges.take k)).set a1 ((rowsE g.names.length (g.edges.take k)).getD a1 0#64 ||| (1#64 <<< a2))) := by
          show _ = _
          rw [htk]; exact rowsE_snoc _ ha1
        clear hcb htk h1 h3
        obtain ⟨cur, hcur⟩ : ∃ cur, cur = rowsE g.names.length (g.edges.take k) := ⟨_, rfl⟩
        rw [← hcur] at HSN HO
        clear hcur
        obtain ⟨y, hy⟩ : ∃ y, cur.getD a1 0#64 = y := ⟨_, rfl⟩
        rw [hy] at HSN
        go_wp2
        refine wp_region_still_tail 10 (by kernel_rfl) (by kernel_rfl) ?_
        simp only [List.take_succ_cons, List.take_zero, List.drop_succ_cons, List.drop_zero]
        obtain ⟨X, hX⟩ : ∃ X : World, X = wr.alloc (.cells #[.int .i64 (a1 : Int), .int .i64 (a2 : Int)] 43) := ⟨_, rfl⟩
        have hXo : X.ownsRow w2.heap.size 24 1 (.slice (some ⟨w2.heap.size, 0, none⟩) g.names.length g.names.length) g.names.length (u64sG cur) := by rw [hX]; exact HO.out.alloc _
        have hXb : Below w2.heap.size w2 X := by rw [hX]; exact HW.out.alloc HW.out.size _
        have hX1 : X.cell? ⟨wr.heap.size, 0, none⟩ = some (.int .i64 (a1 : Int)) := by rw [hX, World.cell?_alloc_at _ _ _ _ rfl]; rfl
        have hX2 : X.cell? ⟨wr.heap.size, 1, none⟩ = some (.int .i64 (a2 : Int)) := by rw [hX, World.cell?_alloc_at _ _ _ _ rfl]; rfl
        rw [← hX]
        clear hX
        obtain ⟨Z, hZ⟩ : ∃ Z : World, Z = { heap := X.heap, tape := X.tape, drawn := X.drawn + 1, os := X.os, output := X.output } := ⟨_, rfl⟩
        have hZo : Z.ownsRow w2.heap.size 24 1 (.slice (some ⟨w2.heap.size, 0, none⟩) g.names.length g.names.length) g.names.length (u64sG cur) := by rw [hZ]; exact hXo
        have hZb : Below w2.heap.size w2 Z := by rw [hZ]; exact hXb.drew
        have d1 : Z.cell? ⟨wr.heap.size, 0, none⟩ = some (.int .i64 (a1 : Int)) := by rw [hZ]; exact hX1
        have d2 : Z.cell? ⟨wr.heap.size, 1, none⟩ = some (.int .i64 (a2 : Int)) := by rw [hZ]; exact hX2
        have d3 := ownG_at hZo ha1
        rw [hy] at d3
        have hfr := hZo.frozenAt a1
        have hst := hZo.stored a1 (.int .u64 (un (y ||| 1#64 <<< a2) : Int))
        rw [u64sG_set, ← HSN.out] at hst
        have HST := Lib.hid hst
        have HZB := Lib.hid hZb
        rw [← hZ]
        clear hZ hZo hZb hXo hXb hX1 hX2 hst
        have hb1 : (a1 : Int) < (g.names.length : Int) := by omega
        repeat still_step
        refine wpStill_nil ?_
        go_wp2
        go_roundw
        case rel => exact ⟨k + 1, by omega, by go_num, HST.out.1, HZB.out.grown HST.out.2 HZB.out.size (fun j hj => by cases hj; exact Nat.le_refl _)⟩
        case measure => simp [intOf]; omega
      · obtain rfl : k = g.edges.length := by omega
        have HOO := HO
        rw [List.take_length] at HOO
        go_wp2
        go_ret2
        refine ⟨.inl ⟨HG.out, _, _, rfl, ?_⟩, HFIN.out _ (HB2.out.trans (HW.out.mono HB2.out.size))⟩
        refine ⟨HOO.out.1, ?_⟩
        have hle : w.heap.size ≤ w2.heap.size := Nat.le_trans (Nat.le_of_lt HS.out) HB2.out.size
        rcases HOO.out.2 with h | ⟨g', cap, cur, h1, h2, h3⟩
        · exact .inl h
        · exact .inr ⟨g', cap, cur, h1, Nat.le_trans hle h2, h3⟩
  · have HG := Lib.hid hG
    obtain ⟨i1, i2⟩ := int_ne' hE0
    clear hG
    go_wp2
    go_ret2
    exact ⟨.inr ⟨HG.out, E, hE0, rfl⟩, HFIN.out _ HB2.out⟩
end Go.Proofs.YtlhhcgiifgkngaaDoor
