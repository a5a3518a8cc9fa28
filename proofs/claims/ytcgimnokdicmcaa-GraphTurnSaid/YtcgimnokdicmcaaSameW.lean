/- The walks of slices.Equal at edges and of sameGraph, at what is alike. Conditions: the slices and graphs read as listed. -/
import Derived.Test.YtcgimnokdicmcaaGraphNumW
namespace Go.Proofs.Ytcgimnokdicmcaa
open Go.RowKit Go.Shelf
theorem run_neqE_same (x1 x2 : Int) (u : World) : (binOp .neq 36 (.agg #[.int .i64 x1, .int .i64 x2]) (.agg #[.int .i64 x1, .int .i64 x2])).run Try.prog u = .ok (.bool false) u := by
  have ht := Try.underlying36
  have hu : Try.prog.underlying 36 = some (.struct (Try.prog.fieldsOf 36)) := by unfold Program.fieldsOf; rw [ht]
  have hs : Try.prog.stoodInHeld 36 = false := by kernel_rfl
  rw [run_neq_struct, run_equalIn_agg u 9999 36 _ _ hu hs]
  simp only [Program.fieldsOf, ht]
  simp [Op.eqFields, part, run_equalIn_int, Try.underlying3]
set_option maxHeartbeats 1000000 in
theorem equalE_same (p q : Option Addr) (n c d : Nat) (es : List E2) (w : World) (h : EsAt w p n c es) (h2 : EsAt w q n d es) :
    Calls Try.prog 19 #[.slice p n c, .slice q n d] w fun e w' => e = .returned (.bool true) ∧ ∃ k, w' = w.drewN k := by
  have hl := h.len
  have hbig := h.big
  subst hl
  have HN := Lib.hid h
  have HM := Lib.hid h2
  clear h h2
  go_enter Try.func19, Try.ntmps19
  go_wp2
  go_loopw [13] (fun i wr => ∃ k : Nat, k ≤ es.length ∧ i = .int .i64 k ∧ Hid (∃ q, wr = w.drewN q)) (fun i _ => es.length - (intOf i).toNat)
  case atStart => exact ⟨0, Nat.zero_le _, rfl, show ∃ q, w = w.drewN q from ⟨0, rfl⟩⟩
  case round =>
    obtain ⟨k, hk, rfl, HW⟩ := hrel
    by_cases hlt : k < es.length
    · have HNr : Hid (EsAt wr p es.length c es) := by
        show P2At _ _ _ _ _ _ _
        obtain ⟨q, hq⟩ := HW.out
        rw [hq]; exact HN.out.below (below_drawsP (Below.refl _ _) q)
      have HMr : Hid (EsAt wr q es.length d es) := by
        show P2At _ _ _ _ _ _ _
        obtain ⟨q, hq⟩ := HW.out
        rw [hq]; exact HM.out.below (below_drawsP (Below.refl _ _) q)
      obtain ⟨b, o, rfl, hb, hca, hcb⟩ := HNr.out.cell (getD_some (0, 0) hlt)
      obtain ⟨b2, o2, rfl, hb2, hcc, hcd⟩ := HMr.out.cell (getD_some (0, 0) hlt)
      generalize es.getD k (0, 0) = y at *
      obtain ⟨y1, y2⟩ := y
      simp only [eF, eG] at hca hcb hcc hcd
      have hcb2 : wr.cell? ⟨b, o + k * 2 + 1, none⟩ = some (.int .i64 y2) := hcb
      have hcd2 : wr.cell? ⟨b2, o2 + k * 2 + 1, none⟩ = some (.int .i64 y2) := hcd
      have hl1 : (k : Int) < (es.length : Int) := by omega
      clear hcb hcd
      have hrun := run_neqE_same y1 y2
      have hgd : Try.prog.eqGuardType Try.prog.depth 36 = false := by kernel_rfl
      go_wp2
      go_quiet (fail)
      go_wp2
      go_roundw
      case rel =>
        refine ⟨k + 1, by omega, by go_num, ?_⟩
        obtain ⟨q, hq⟩ := HW.out
        exact ⟨_, by rw [hq, drewN_add]⟩
      case measure => simp [intOf]; omega
    · obtain rfl : k = es.length := by omega
      go_wp2
      go_ret
      exact ⟨rfl, HW.out⟩
set_option maxHeartbeats 1000000 in
set_option maxRecDepth 100000 in
theorem sameG_ok (v u : Value) (g : GD) (w : World) (h : GrAt w v g) (h2 : GrAt w u g) :
    Calls Try.prog 10 #[v, u] w fun e w' => e = .returned (.bool true) ∧ Below w.heap.size w w' := by
  obtain ⟨p, n, c, q, m, d, rfl, hN, hE⟩ := h.at_
  obtain ⟨p2, n2, c2, q2, m2, d2, rfl, hN2, hE2⟩ := h2.at_
  have hln := hN.at_.len
  have hlm := hE.len
  have hln2 := hN2.at_.len
  have hlm2 := hE2.len
  subst hln hlm hln2 hlm2
  obtain ⟨W, hW⟩ : ∃ W, W = (w.alloc (.cells #[.slice p g.names.length c, .slice q g.edges.length d, .int .u64 (un g.phony : Int), .int .u64 (un g.made : Int)] 26)).alloc (.cells #[.slice p2 g.names.length c2, .slice q2 g.edges.length d2, .int .u64 (un g.phony : Int), .int .u64 (un g.made : Int)] 26) := ⟨_, rfl⟩
  have hBW : Below w.heap.size w W := by rw [hW]; exact ((Below.refl _ _).alloc (Nat.le_refl _) _).alloc (by simp) _
  have k0 : W.cell? ⟨w.heap.size, 0, none⟩ = some (.slice p g.names.length c) := by rw [hW, World.cell?_alloc_lt _ _ _ (by simp), World.cell?_alloc_at _ _ _ _ rfl]; rfl
  have k1 : W.cell? ⟨w.heap.size, 1, none⟩ = some (.slice q g.edges.length d) := by rw [hW, World.cell?_alloc_lt _ _ _ (by simp), World.cell?_alloc_at _ _ _ _ rfl]; rfl
  have k2 : W.cell? ⟨w.heap.size, 2, none⟩ = some (.int .u64 (un g.phony : Int)) := by rw [hW, World.cell?_alloc_lt _ _ _ (by simp), World.cell?_alloc_at _ _ _ _ rfl]; rfl
  have k3 : W.cell? ⟨w.heap.size, 3, none⟩ = some (.int .u64 (un g.made : Int)) := by rw [hW, World.cell?_alloc_lt _ _ _ (by simp), World.cell?_alloc_at _ _ _ _ rfl]; rfl
  have l0 : W.cell? ⟨w.heap.size + 1, 0, none⟩ = some (.slice p2 g.names.length c2) := by rw [hW, World.cell?_alloc_at _ _ _ _ (by simp)]; rfl
  have l1 : W.cell? ⟨w.heap.size + 1, 1, none⟩ = some (.slice q2 g.edges.length d2) := by rw [hW, World.cell?_alloc_at _ _ _ _ (by simp)]; rfl
  have l2 : W.cell? ⟨w.heap.size + 1, 2, none⟩ = some (.int .u64 (un g.phony : Int)) := by rw [hW, World.cell?_alloc_at _ _ _ _ (by simp)]; rfl
  have l3 : W.cell? ⟨w.heap.size + 1, 3, none⟩ = some (.int .u64 (un g.made : Int)) := by rw [hW, World.cell?_alloc_at _ _ _ _ (by simp)]; rfl
  have HNE := Lib.hid (nl_equal (hN.below hBW) (hN2.below hBW))
  have HEE : Hid (∀ k, Calls Try.prog 19 #[.slice q g.edges.length d, .slice q2 g.edges.length d2] (W.drewN k) fun e w' => e = .returned (.bool true) ∧ ∃ k, w' = W.drewN k) := by
    show ∀ k, _
    intro k
    have hb := below_drawsP (Below.refl W.heap.size W) k
    refine (equalE_same q q2 _ d d2 g.edges (W.drewN k) ((hE.below hBW).below hb) ((hE2.below hBW).below hb)).mono ?_
    rintro e w' ⟨he, j, hj⟩
    exact ⟨he, _, by rw [hj, drewN_add]⟩
  have HBW := Lib.hid hBW
  clear hN hN2 hE hE2 h h2 hBW
  go_enter Try.func10, Try.ntmps10
  rw [hW] at k0 k1 k2 k3 l0 l1 l2 l3
  go_wp2_with fail
  rw [← hW] at k0 k1 k2 k3 l0 l1 l2 l3 ⊢
  clear hW
  refine HNE.out.mono ?_
  rintro e w1 ⟨rfl, j, rfl⟩
  go_wp2_with (go_at_call 19; refine (HEE.out _).mono ?_; rintro e w2 ⟨rfl, j2, rfl⟩)
  go_ret
  exact ⟨by simp, below_drawsP HBW.out _⟩
end Go.Proofs.Ytcgimnokdicmcaa
