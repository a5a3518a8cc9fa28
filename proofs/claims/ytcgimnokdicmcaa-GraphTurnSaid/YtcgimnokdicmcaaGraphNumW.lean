/- The walks of graph.Number and slices.Contains at edges. Conditions: the graph reads as listed. -/
import Derived.Test.YtcgimnokdicmcaaGraphRowsW
import Derived.Test.YtcgimnokdicmcaaNameFindW
import Derived.Laws.StructEq
namespace Go.Proofs.Ytcgimnokdicmcaa
open Go.RowKit Go.Shelf
theorem rise_inj {ls : List ByteArray} (h : Rise ls) {i j : Nat} (hi : i < ls.length) (hj : j < ls.length) (e : ls.getD i ByteArray.empty = ls.getD j ByteArray.empty) : i = j := by
  rcases Nat.lt_trichotomy i j with g | g | g
  · have := h i j g hj; rw [e] at this; exact absurd this lt_irr
  · exact g
  · have := h j i g hi; rw [e] at this; exact absurd this lt_irr
set_option maxHeartbeats 600000 in
set_option maxRecDepth 100000 in
theorem Number_ok (v : Value) (g : GD) (w : World) (h : GrAt w v g) (hG : Good g) (a : Nat) (ha : a < g.names.length) :
    Calls Try.prog 7 #[v, .string (g.names.getD a ByteArray.empty)] w fun e w' => e = .returned (.tuple #[.int .i64 a, .int .i64 0]) ∧ Below w.heap.size w w' := by
  have hGr := h
  obtain ⟨p, n, c, q, m, d, rfl, hN, hE⟩ := h.at_
  have hln := hN.at_.len
  have hlm := hE.len
  subst hln hlm
  have hbn := hN.at_.big
  have hbm := hE.big
  obtain ⟨W, hW⟩ : ∃ W, W = w.alloc (.cells #[.slice p g.names.length c, .slice q g.edges.length d, .int .u64 (un g.phony : Int), .int .u64 (un g.made : Int)] 26) := ⟨_, rfl⟩
  have hBW : Below w.heap.size w W := by rw [hW]; exact (Below.refl _ _).alloc (Nat.le_refl _) _
  have HS : Hid (w.heap.size < W.heap.size) := by show _ < _; rw [hW]; simp
  have HC : Hid (∀ u : World, Below W.heap.size W u → u.cell? ⟨w.heap.size, 0, none⟩ = some (.slice p g.names.length c) ∧ u.cell? ⟨w.heap.size, 1, none⟩ = some (.slice q g.edges.length d) ∧ u.cell? ⟨w.heap.size, 2, none⟩ = some (.int .u64 (un g.phony : Int)) ∧ u.cell? ⟨w.heap.size, 3, none⟩ = some (.int .u64 (un g.made : Int))) := by
    show ∀ u : World, _ → _
    intro u hu
    rw [hu.cell HS.out, hu.cell HS.out, hu.cell HS.out, hu.cell HS.out, hW]
    refine ⟨?_, ?_, ?_, ?_⟩ <;> (rw [World.cell?_alloc_at _ _ _ _ rfl]; rfl)
  have HN := Lib.hid (hN.below hBW)
  have HCk := Lib.hid (CheckG2_ok _ g W (hGr.below hBW))
  have HFIN : Hid (∀ u, Below W.heap.size W u → Below w.heap.size w u) := by show ∀ u, _; exact fun u hu => hBW.trans (hu.mono (Nat.le_of_lt HS.out))
  have HG := Lib.hid hG
  obtain ⟨k0, k1, k2, k3⟩ := HC.out W (Below.refl _ _)
  rw [hW] at k0 k1 k2 k3
  clear hN hE hBW h hGr hG
  obtain ⟨x, hx⟩ : ∃ x, x = g.names.getD a ByteArray.empty := ⟨_, rfl⟩
  rw [← hx]
  have HX := Lib.hid hx
  have HA := Lib.hid ha
  clear hx ha
  go_enter Try.func7, Try.ntmps7
  go_wp2_with fail
  rw [← hW]
  clear hW k0 k1 k2 k3
  refine HCk.out.mono ?_
  rintro e w2 ⟨⟨E, rfl, hcase⟩, hb2⟩
  have HB2 := Lib.hid hb2
  obtain ⟨k0, k1, k2, k3⟩ := HC.out w2 hb2
  clear hb2
  rcases hcase with ⟨rfl, _⟩ | ⟨_, hno⟩
  · go_wp2_with fail
    have HFd := Lib.hid (find_ok (HN.out.below HB2.out) HG.out.rise x)
    refine HFd.out.mono ?_
    rintro e w3 ⟨hF, qq, rfl⟩
    rcases hF with ⟨k, hk, hkx, rfl⟩ | ⟨hno, _⟩
    · obtain rfl : k = a := rise_inj HG.out.rise hk HA.out (by rw [hkx, HX.out])
      clear hkx
      go_wp2
      go_ret2
      exact ⟨rfl, HFIN.out _ (below_drawsP HB2.out qq)⟩
    · exfalso
      have : Lib.containsS g.names x = true := has_iff.2 (by
        rw [HX.out, List.getD_eq_getElem?_getD, List.getElem?_eq_getElem HA.out]; exact List.getElem_mem HA.out)
      rw [this] at hno
      cases hno
  · exact absurd HG.out hno
theorem run_eqlE (x1 x2 y1 y2 : Int) (u : World) : (binOp .eql 36 (.agg #[.int .i64 x1, .int .i64 x2]) (.agg #[.int .i64 y1, .int .i64 y2])).run Try.prog u = .ok (.bool (x1 == y1 && x2 == y2)) u := by
  have ht := Try.underlying36
  have hu : Try.prog.underlying 36 = some (.struct (Try.prog.fieldsOf 36)) := by unfold Program.fieldsOf; rw [ht]
  have hs : Try.prog.stoodInHeld 36 = false := by kernel_rfl
  rw [run_eql_struct, run_equalIn_agg u 9999 36 _ _ hu hs]
  simp only [Program.fieldsOf, ht]
  cases h1 : (x1 == y1)
  · simp [Op.eqFields, part, h1, run_equalIn_int, Try.underlying3]
  · simp [Op.eqFields, part, h1, run_equalIn_int, Try.underlying3]
    by_cases h : x2 = y2 <;> simp [h]
def eqE (x y : E2) : Bool := x.1 == y.1 && x.2 == y.2
theorem eqE_iff {x y : E2} : eqE x y = true ↔ x = y := by
  obtain ⟨x1, x2⟩ := x
  obtain ⟨y1, y2⟩ := y
  simp [eqE]
set_option maxHeartbeats 400000 in
theorem indexE_ok (p : Option Addr) (n c : Nat) (es : List E2) (x : E2) (w : World) (h : EsAt w p n c es) :
    Calls Try.prog 14 #[.slice p n c, e2V x] w fun e w' => (∃ z : Int, e = .returned (.int .i64 z) ∧ (0 ≤ z ↔ x ∈ es)) ∧ Below w.heap.size w w' := by
  have hl := h.len
  have hbig := h.big
  subst hl
  have HN := Lib.hid h
  clear h
  obtain ⟨x1, x2⟩ := x
  unfold e2V
  go_enter Try.func14, Try.ntmps14
  obtain ⟨W, hW⟩ : ∃ W, W = w.alloc (.cells #[.int .i64 x1, .int .i64 x2] 36) := ⟨_, rfl⟩
  have hBW : Below w.heap.size w W := by rw [hW]; exact (Below.refl _ _).alloc (Nat.le_refl _) _
  have c1 : W.cell? ⟨w.heap.size, 0, none⟩ = some (.int .i64 x1) := by rw [hW, World.cell?_alloc_at _ _ _ _ rfl]; rfl
  have c2 : W.cell? ⟨w.heap.size, 1, none⟩ = some (.int .i64 x2) := by rw [hW, World.cell?_alloc_at _ _ _ _ rfl]; rfl
  have HNW := Lib.hid (HN.out.below hBW)
  have HBW := Lib.hid hBW
  clear HN hBW
  go_wp2
  rw [← hW]
  clear hW
  go_loopw [8] (fun i wr => ∃ k : Nat, k ≤ es.length ∧ i = .int .i64 k ∧ Hid ((x1, x2) ∉ es.take k) ∧ Hid (∃ q, wr = W.drewN q)) (fun i _ => es.length - (intOf i).toNat)
  case atStart => exact ⟨0, Nat.zero_le _, rfl, show _ ∉ _ from by simp, show ∃ q, W = W.drewN q from ⟨0, rfl⟩⟩
  case round =>
    obtain ⟨k, hk, rfl, HA, HW⟩ := hrel
    have HQ : Hid (Below w.heap.size w wr) := by
      show Below _ _ _
      obtain ⟨q, hq⟩ := HW.out
      rw [hq]; exact below_drawsP HBW.out q
    have e1 : wr.cell? ⟨w.heap.size, 0, none⟩ = some (.int .i64 x1) := by obtain ⟨q, hq⟩ := HW.out; rw [hq]; exact c1
    have e2 : wr.cell? ⟨w.heap.size, 1, none⟩ = some (.int .i64 x2) := by obtain ⟨q, hq⟩ := HW.out; rw [hq]; exact c2
    by_cases hlt : k < es.length
    · have HNr : Hid (EsAt wr p es.length c es) := by
        show P2At _ _ _ _ _ _ _
        obtain ⟨q, hq⟩ := HW.out
        rw [hq]; exact HNW.out.below (below_drawsP (Below.refl _ _) q)
      obtain ⟨b, o, rfl, hb, hca, hcb⟩ := HNr.out.cell (getD_some (0, 0) hlt)
      have HX : Hid (es.take (k + 1) = es.take k ++ [es.getD k (0, 0)]) := by
        show _ = _
        rw [List.take_succ_eq_append_getElem hlt, List.getD_eq_getElem?_getD, List.getElem?_eq_getElem hlt]; rfl
      have HM : Hid (es.getD k (0, 0) ∈ es) := by
        show _ ∈ _
        rw [List.getD_eq_getElem?_getD, List.getElem?_eq_getElem hlt]; exact List.getElem_mem hlt
      generalize es.getD k (0, 0) = y at *
      obtain ⟨y1, y2⟩ := y
      simp only [eF, eG] at hca hcb
      have hcb2 : wr.cell? ⟨b, o + k * 2 + 1, none⟩ = some (.int .i64 y2) := hcb
      have hl1 : (k : Int) < (es.length : Int) := by omega
      clear hcb c1 c2
      have hrun := run_eqlE x1 x2 y1 y2
      have hgd : Try.prog.eqGuardType Try.prog.depth 36 = false := by kernel_rfl
      cases hc : (x1 == y1 && x2 == y2)
      · have HNo : Hid ((x1, x2) ∉ es.take (k + 1)) := by
          show _ ∉ _
          rw [HX.out]
          intro hm
          rcases List.mem_append.1 hm with hm | hm
          · exact HA.out hm
          · have := List.mem_singleton.1 hm
            injection this with e1 e2
            rw [e1, e2] at hc
            simp at hc
        simp only [hc] at hrun
        clear hc
        go_wp2
        go_quiet (fail)
        go_wp2
        go_roundw
        case rel =>
          refine ⟨k + 1, by omega, by go_num, HNo.out, ?_⟩
          obtain ⟨q, hq⟩ := HW.out
          exact ⟨_, by rw [hq, drewN_add]⟩
        case measure => simp [intOf]; omega
      · have HYes : Hid ((x1, x2) ∈ es) := by
          show _ ∈ _
          have : (x1, x2) = (y1, y2) := by simpa using hc
          rw [this]; exact HM.out
        simp only [hc] at hrun
        clear hc
        go_wp2
        go_quiet (fail)
        go_wp2
        go_ret
        exact ⟨⟨k, rfl, by constructor; (· exact fun _ => HYes.out); (· omega)⟩, below_drawsP HQ.out _⟩
    · obtain rfl : k = es.length := by omega
      have HNo := HA
      rw [List.take_length] at HNo
      go_wp2
      go_ret
      exact ⟨⟨-1, rfl, by constructor; (· omega); (· exact fun h => absurd h HNo.out)⟩, HQ.out⟩
set_option maxHeartbeats 400000 in
theorem containsE_ok (p : Option Addr) (n c : Nat) (es : List E2) (x : E2) (w : World) (h : EsAt w p n c es) :
    Calls Try.prog 8 #[.slice p n c, e2V x] w fun e w' => e = .returned (.bool (decide (x ∈ es))) ∧ Below w.heap.size w w' := by
  have HI := Lib.hid (fun u hu => indexE_ok p n c es x u (h.below hu))
  clear h
  obtain ⟨x1, x2⟩ := x
  unfold e2V at HI ⊢
  obtain ⟨W, hW⟩ : ∃ W, W = w.alloc (.cells #[.int .i64 x1, .int .i64 x2] 36) := ⟨_, rfl⟩
  have hBW : Below w.heap.size w W := by rw [hW]; exact (Below.refl _ _).alloc (Nat.le_refl _) _
  have c1 : W.cell? ⟨w.heap.size, 0, none⟩ = some (.int .i64 x1) := by rw [hW, World.cell?_alloc_at _ _ _ _ rfl]; rfl
  have c2 : W.cell? ⟨w.heap.size, 1, none⟩ = some (.int .i64 x2) := by rw [hW, World.cell?_alloc_at _ _ _ _ rfl]; rfl
  rw [hW] at c1 c2
  have HBW := Lib.hid hBW
  clear hBW
  go_enter Try.func8, Try.ntmps8
  go_wp2_with fail
  rw [← hW]
  clear hW c1 c2
  refine (HI.out W HBW.out).mono ?_
  rintro e w2 ⟨⟨z, rfl, hz⟩, hb2⟩
  have HB2 := Lib.hid (HBW.out.trans (hb2.mono HBW.out.size))
  have HZ := Lib.hid hz
  clear hz hb2
  go_wp2
  go_ret
  have hd : decide ((x1, x2) ∈ es) = decide ((0 : Int) ≤ z) := decide_eq_decide.2 HZ.out.symm
  exact ⟨by rw [hd]; rfl, HB2.out⟩
end Go.Proofs.Ytcgimnokdicmcaa
