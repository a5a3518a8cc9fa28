/- Texts joined: MillW, GraphLawW, SameW, GraphRightW, FileArg, GraphRightLW. Conditions: theirs. -/
import Derived.Test.YtoiolepengcagaaGreatDoorGraphRightLWM12
import Derived.Test.YtoiolepengcagaaGreatDoorGraphRightLWM13
import Derived.Deep.RegionWith
import Derived.Deep.RegionHeld3
import Derived.Test.YtoiolepengcagaaGreatDoorGraphRightLWM14
import Derived.Test.YtoiolepengcagaaGreatDoorGraphRightLWM10
import Derived.Test.YtoiolepengcagaaGreatDoorGraphRightLWM7
import Derived.Test.YtoiolepengcagaaGreatDoorNLArg
namespace Go.Proofs.YtoiolepengcagaaGreatDoor
open Go.RowKit Go.Shelf
def G0 : GD := ⟨[⟨#[97]⟩, ⟨#[98]⟩], [(0, 1)], 0#64, 1#64⟩
theorem good0 : Good G0 := by
  refine ⟨by decide, ?_, ?_, ?_, ?_, by decide⟩
  · intro j hj
    match j, hj with
    | 0, _ => decide +kernel
    | 1, _ => decide +kernel
  · intro i j hij hj
    have hj2 : j < 2 := hj
    have : i = 0 ∧ j = 1 := by omega
    rw [this.1, this.2]
    decide
  · intro x hx
    have : x = (0, 1) := by simpa [G0] using hx
    subst this
    exact ⟨by decide, by decide, by decide, by decide⟩
  · intro i hi
    have : i + 1 < 1 := hi
    omega
theorem haoM (w : World) (o : Obj) (i : Nat) (h : i < w.heap.size) : (w.alloc o).heap[i]? = w.heap[i]? := by
  show (w.heap.push o)[i]? = w.heap[i]?
  rw [Array.getElem?_push, if_neg (Nat.ne_of_lt h)]
theorem hanM (w : World) (o : Obj) : (w.alloc o).heap[w.heap.size]? = some o := by
  show (w.heap.push o)[w.heap.size]? = some o
  simp
theorem rows0 : rowsE 2 [(0, 1)] = [2#64, 0#64] := by decide
set_option maxHeartbeats 600000 in
theorem mill_ok (w : World) : Calls Tryz.prog 51 #[] w fun e w' => (∃ v, e = .returned v ∧ GrAt w' v G0) ∧ Below w.heap.size w w' := by
  go_enter Tryz.func51, Tryz.ntmps51
  go_wp2
  obtain ⟨A, hA⟩ : ∃ A : Obj, A = .cells #[.slice (some ⟨w.heap.size + 1, 0, none⟩) 2 2, .slice (some ⟨w.heap.size + 1 + 1, 0, none⟩) 1 1, .int .u64 0, .int .u64 1] 54 := ⟨_, rfl⟩
  obtain ⟨D, hD⟩ : ∃ D : Obj, D = .cells #[.int .i64 0, .int .i64 1] 59 := ⟨_, rfl⟩
  rw [← hA, ← hD]
  have hs1 : (w.alloc A).heap.size = w.heap.size + 1 := by simp
  have hs2 : ((w.alloc A).alloc (.cells #[.string ⟨#[97]⟩, .string ⟨#[98]⟩] 9)).heap.size = w.heap.size + 1 + 1 := by simp
  have hN := NL_two (w.alloc A) ⟨#[97]⟩ ⟨#[98]⟩ (by decide) (by decide)
  rw [hs1] at hN
  have hN2 := hN.below ((Below.refl _ _).alloc (Nat.le_refl _) D)
  have hE : EsAt (((w.alloc A).alloc (.cells #[.string ⟨#[97]⟩, .string ⟨#[98]⟩] 9)).alloc D) (some ⟨w.heap.size + 1 + 1, 0, none⟩) 1 1 [(0, 1)] := by
    refine ⟨rfl, fun _ => ⟨w.heap.size + 1 + 1, 0, rfl, by simp, fun k x hx => ?_⟩, by omega⟩
    match k, hx with
    | 0, hx =>
      injection hx with hx
      subst hx
      rw [hD]
      exact ⟨(World.cell?_alloc_at _ _ _ _ hs2.symm).trans rfl, (World.cell?_alloc_at _ _ _ _ hs2.symm).trans rfl⟩
  refine bodyPost_ret (v := .agg #[.slice (some ⟨w.heap.size + 1, 0, none⟩) 2 2, .slice (some ⟨w.heap.size + 1 + 1, 0, none⟩) 1 1, .int .u64 0, .int .u64 1])
    (results_cell_row Tryz.results51 _ _ w.heap.size 54 _ (0, 0) _ rfl ?_ Tryz.underlying54 rfl (by kernel_rfl)) rfl
    ⟨⟨_, rfl, ⟨_, _, _, _, _, _, rfl, hN2, hE⟩⟩, (((Below.refl _ _).alloc (Nat.le_refl _) _).alloc (by rw [hs1]; omega) _).alloc (by rw [hs2]; omega) _⟩
  rw [haoM _ _ _ (by rw [hs2]; omega), haoM _ _ _ (by rw [hs1]; omega), hanM, hA]
theorem ownG_below {w w' : World} {base e n : Nat} {v : Value} {xs : List Value} (h : w.ownsRow base e 1 v n xs) (hb : Below w.heap.size w w') : w'.ownsRow base e 1 v n xs := by
  refine h.kept (row := none) ⟨hb.os, hb.tape, hb.output, hb.size, fun k hk _ => hb.block k hk⟩ ?_
  cases hv : v.ownBlock
  · exact .inl rfl
  · exact .inr (by simp)
end Go.Proofs.YtoiolepengcagaaGreatDoor
namespace Go.Proofs.YtoiolepengcagaaGreatDoor
open Go.RowKit Go.Shelf
set_option maxHeartbeats 1000000 in
theorem graphs_below (w : World) : Calls Tryz.prog 22 #[] w fun e w' => e = .returned (.bool true) ∧ Below w.heap.size w w' := by
  go_enter Tryz.func22, Tryz.ntmps22
  go_wp2_with fail
  refine (mill_ok w).mono ?_
  rintro e w1 ⟨⟨v, rfl, hv⟩, hb1⟩
  have HV := Lib.hid hv
  have HB1 := Lib.hid hb1
  clear hv hb1
  go_wp2_with fail
  refine (Rows2_ok v G0 _ HV.out).mono ?_
  rintro e w2 ⟨hcase, hb2⟩
  have HB2 := Lib.hid (HB1.out.trans (hb2.mono HB1.out.size))
  rcases hcase with ⟨_, p, c, rfl, hown⟩ | ⟨hno, _⟩
  · rw [show G0.names.length = 2 from rfl, show G0.edges = [(0, 1)] from rfl, rows0] at hown
    rw [show G0.names.length = 2 from rfl]
    obtain ⟨b, cap, hv2, _, _⟩ := hown.form (by omega)
    injection hv2 with e1 e2 e3
    subst e1 e3
    have hc := ownG_at hown (k := 0) (by omega)
    have hc' : w2.cell? ⟨b, 0, none⟩ = some (.int .u64 2) := hc
    clear hown hc hb2
    go_wp2
    go_ret
    exact ⟨rfl, HB2.out⟩
  · exact absurd good0 hno
theorem shr_bitG (s : B) (a : Nat) : (un (s >>> a &&& 1#64) : Int) = if has s a = true then 1 else 0 := by
  have e : un (s >>> a &&& 1#64) = un (s >>> a) % 2 := by
    unfold un; rw [BitVec.toNat_and]; exact Nat.and_one_is_mod _
  have e2 : un (s >>> a) = un s / 2 ^ a := by unfold un; rw [BitVec.toNat_ushiftRight, Nat.shiftRight_eq_div_pow]
  rw [e, e2, has_un, Nat.testBit_eq_decide_div_mod_eq]
  rcases Nat.mod_two_eq_zero_or_one (un s / 2 ^ a) with h | h <;> simp [h]
theorem bit_eq (s : B) {a : Nat} : ((un ((s >>> a) &&& 1#64) : Int) == 1) = has s a := by
  rw [shr_bitG s a]
  cases has s a <;> rfl
end Go.Proofs.YtoiolepengcagaaGreatDoor
namespace Go.Proofs.YtoiolepengcagaaGreatDoor
open Go.RowKit Go.Shelf
theorem run_neqE_same (x1 x2 : Int) (u : World) : (binOp .neq 59 (.agg #[.int .i64 x1, .int .i64 x2]) (.agg #[.int .i64 x1, .int .i64 x2])).run Tryz.prog u = .ok (.bool false) u := by
  have ht := Tryz.underlying59
  have hu : Tryz.prog.underlying 59 = some (.struct (Tryz.prog.fieldsOf 59)) := by unfold Program.fieldsOf; rw [ht]
  have hs : Tryz.prog.stoodInHeld 59 = false := by kernel_rfl
  rw [run_neq_struct, run_equalIn_agg u 9999 59 _ _ hu hs]
  simp only [Program.fieldsOf, ht]
  simp [Op.eqFields, part, run_equalIn_int, Tryz.underlying3]
set_option maxHeartbeats 1000000 in
theorem equalE_same (p q : Option Addr) (n c d : Nat) (es : List E2) (w : World) (h : EsAt w p n c es) (h2 : EsAt w q n d es) :
    Calls Tryz.prog 56 #[.slice p n c, .slice q n d] w fun e w' => e = .returned (.bool true) ∧ ∃ k, w' = w.drewN k := by
  have hl := h.len
  have hbig := h.big
  subst hl
  have HN := Lib.hid h
  have HM := Lib.hid h2
  clear h h2
  go_enter Tryz.func56, Tryz.ntmps56
  go_wp2
  go_loopw [13] (fun i wr => ∃ k : Nat, k ≤ es.length ∧ i = .int .i64 k ∧ Hid (∃ q, wr = w.drewN q)) (fun i _ => es.length - (intOf i).toNat)
  case atStart => exact ⟨0, Nat.zero_le _, rfl, show ∃ q, w = w.drewN q from ⟨0, rfl⟩⟩
  case round =>
    obtain ⟨k, hk, rfl, HW⟩ := hrel
    by_cases hlt : k < es.length
    · have HNr : Hid (EsAt wr p es.length c es) := by
        show P2At _ _ _ _ _ _ _
        obtain ⟨q, hq⟩ := HW.out
        rw [hq]; exact HN.out.below (below_drawsP (Below.refl _ _) q)
      have HMr : Hid (EsAt wr q es.length d es) := by
        show P2At _ _ _ _ _ _ _
        obtain ⟨q, hq⟩ := HW.out
        rw [hq]; exact HM.out.below (below_drawsP (Below.refl _ _) q)
      obtain ⟨b, o, rfl, hb, hca, hcb⟩ := HNr.out.cell (getD_some (0, 0) hlt)
      obtain ⟨b2, o2, rfl, hb2, hcc, hcd⟩ := HMr.out.cell (getD_some (0, 0) hlt)
      generalize es.getD k (0, 0) = y at *
      obtain ⟨y1, y2⟩ := y
      simp only [eF, eG] at hca hcb hcc hcd
      have hcb2 : wr.cell? ⟨b, o + k * 2 + 1, none⟩ = some (.int .i64 y2) := hcb
      have hcd2 : wr.cell? ⟨b2, o2 + k * 2 + 1, none⟩ = some (.int .i64 y2) := hcd
      have hl1 : (k : Int) < (es.length : Int) := by omega
      clear hcb hcd
      have hrun := run_neqE_same y1 y2
      have hgd : Tryz.prog.eqGuardType Tryz.prog.depth 59 = false := by kernel_rfl
      go_wp2
      go_quiet (fail)
      go_wp2
      go_roundw
      case rel =>
        refine ⟨k + 1, by omega, by go_num, ?_⟩
        obtain ⟨q, hq⟩ := HW.out
        exact ⟨_, by rw [hq, drewN_add]⟩
      case measure => simp [intOf]; omega
    · obtain rfl : k = es.length := by omega
      go_wp2
      go_ret
      exact ⟨rfl, HW.out⟩
set_option maxHeartbeats 1000000 in
set_option maxRecDepth 100000 in
theorem sameG_ok (v u : Value) (g : GD) (w : World) (h : GrAt w v g) (h2 : GrAt w u g) :
    Calls Tryz.prog 24 #[v, u] w fun e w' => e = .returned (.bool true) ∧ Below w.heap.size w w' := by
  obtain ⟨p, n, c, q, m, d, rfl, hN, hE⟩ := h.at_
  obtain ⟨p2, n2, c2, q2, m2, d2, rfl, hN2, hE2⟩ := h2.at_
  have hln := hN.at_.len
  have hlm := hE.len
  have hln2 := hN2.at_.len
  have hlm2 := hE2.len
  subst hln hlm hln2 hlm2
  obtain ⟨W, hW⟩ : ∃ W, W = (w.alloc (.cells #[.slice p g.names.length c, .slice q g.edges.length d, .int .u64 (un g.phony : Int), .int .u64 (un g.made : Int)] 54)).alloc (.cells #[.slice p2 g.names.length c2, .slice q2 g.edges.length d2, .int .u64 (un g.phony : Int), .int .u64 (un g.made : Int)] 54) := ⟨_, rfl⟩
  have hBW : Below w.heap.size w W := by rw [hW]; exact ((Below.refl _ _).alloc (Nat.le_refl _) _).alloc (by simp) _
  have k0 : W.cell? ⟨w.heap.size, 0, none⟩ = some (.slice p g.names.length c) := by rw [hW, World.cell?_alloc_lt _ _ _ (by simp), World.cell?_alloc_at _ _ _ _ rfl]; rfl
  have k1 : W.cell? ⟨w.heap.size, 1, none⟩ = some (.slice q g.edges.length d) := by rw [hW, World.cell?_alloc_lt _ _ _ (by simp), World.cell?_alloc_at _ _ _ _ rfl]; rfl
  have k2 : W.cell? ⟨w.heap.size, 2, none⟩ = some (.int .u64 (un g.phony : Int)) := by rw [hW, World.cell?_alloc_lt _ _ _ (by simp), World.cell?_alloc_at _ _ _ _ rfl]; rfl
  have k3 : W.cell? ⟨w.heap.size, 3, none⟩ = some (.int .u64 (un g.made : Int)) := by rw [hW, World.cell?_alloc_lt _ _ _ (by simp), World.cell?_alloc_at _ _ _ _ rfl]; rfl
  have l0 : W.cell? ⟨w.heap.size + 1, 0, none⟩ = some (.slice p2 g.names.length c2) := by rw [hW, World.cell?_alloc_at _ _ _ _ (by simp)]; rfl
  have l1 : W.cell? ⟨w.heap.size + 1, 1, none⟩ = some (.slice q2 g.edges.length d2) := by rw [hW, World.cell?_alloc_at _ _ _ _ (by simp)]; rfl
  have l2 : W.cell? ⟨w.heap.size + 1, 2, none⟩ = some (.int .u64 (un g.phony : Int)) := by rw [hW, World.cell?_alloc_at _ _ _ _ (by simp)]; rfl
  have l3 : W.cell? ⟨w.heap.size + 1, 3, none⟩ = some (.int .u64 (un g.made : Int)) := by rw [hW, World.cell?_alloc_at _ _ _ _ (by simp)]; rfl
  have HNE := Lib.hid (nl_equal (hN.below hBW) (hN2.below hBW))
  have HEE : Hid (∀ k, Calls Tryz.prog 56 #[.slice q g.edges.length d, .slice q2 g.edges.length d2] (W.drewN k) fun e w' => e = .returned (.bool true) ∧ ∃ k, w' = W.drewN k) := by
    show ∀ k, _
    intro k
    have hb := below_drawsP (Below.refl W.heap.size W) k
    refine (equalE_same q q2 _ d d2 g.edges (W.drewN k) ((hE.below hBW).below hb) ((hE2.below hBW).below hb)).mono ?_
    rintro e w' ⟨he, j, hj⟩
    exact ⟨he, _, by rw [hj, drewN_add]⟩
  have HBW := Lib.hid hBW
  clear hN hN2 hE hE2 h h2 hBW
  go_enter Tryz.func24, Tryz.ntmps24
  rw [hW] at k0 k1 k2 k3 l0 l1 l2 l3
  go_wp2_with fail
  rw [← hW] at k0 k1 k2 k3 l0 l1 l2 l3 ⊢
  clear hW
  refine HNE.out.mono ?_
  rintro e w1 ⟨rfl, j, rfl⟩
  go_wp2_with (go_at_call 56; refine (HEE.out _).mono ?_; rintro e w2 ⟨rfl, j2, rfl⟩)
  go_ret
  exact ⟨by simp, below_drawsP HBW.out _⟩
end Go.Proofs.YtoiolepengcagaaGreatDoor
namespace Go.Proofs.YtoiolepengcagaaGreatDoor
open Go.RowKit Go.Shelf Go.Maps Go.Sort
section
variable {F : FileV} {there : List ByteArray}
theorem gr_target (h : makeE F there = 0) {r : Rl} (hr : r ∈ F.rs) {t : ByteArray} (ht : t ∈ r.1) : t.data.toList ∈ namesK F there ∧ has (setM (namesK F there) ((rowsM F there).map txt)) ((namesK F there).idxOf t.data.toList) = true := by
  obtain ⟨_, _, h64⟩ := makeE_zero h
  have hu := right_target h hr ht
  refine ⟨row_in hu, (has_setM h64).2 ⟨txt t.data.toList, List.mem_map_of_mem hu, ?_, ?_⟩⟩
  · rw [txt_list]; exact row_in hu
  · rw [txt_list]
theorem gr_need (h : makeE F there = 0) {r : Rl} (hr : r ∈ F.rs) {t n : ByteArray} (ht : t ∈ r.1) (hn : n ∈ r.2) : n.data.toList ∈ namesK F there ∧ (((namesK F there).idxOf t.data.toList : Int), ((namesK F there).idxOf n.data.toList : Int)) ∈ edgesM F there := by
  obtain ⟨_, _, h64⟩ := makeE_zero h
  have hu := right_target h hr ht
  have hm := right_need h hr ht hn
  have hi := need_in hu hm
  exact ⟨hi, (edge_mem h64).2 ⟨_, hu, n, hm, hi, rfl⟩⟩
end
theorem bit_zero (s : B) {a : Nat} (h : has s a = true) : ((un ((s >>> a) &&& 1#64) : Int) == 0) = false := by
  rw [shr_bitG s a, h]
  rfl
def G00 : GD := ⟨[], [], 0#64, 0#64⟩
theorem grat_nil (w : World) : GrAt w nilG G00 := ⟨none, 0, 0, none, 0, 0, rfl, NL_none w, ⟨rfl, fun h => absurd h (by omega), by omega⟩⟩
set_option maxHeartbeats 16000000 in
set_option maxRecDepth 100000 in
theorem graphRight_ok (F : FileV) (v : Value) (s : Option Addr) (t f : Nat) (zs : List ByteArray) (w : World) (h : FIv w F v) (hM : MLm w) (hz : ∀ x ∈ linesF F, x.length ≤ 1048600) (hT : Tab w) (hZ : NL w s t f zs) (hzb : t ≤ 1048576) (hci : ∀ a b p n c d, v = .agg #[a, b, .slice p n c, d] → n ≤ c) :
    Calls Tryz.prog 6 #[v, .slice s t f] w fun e w' => e = .returned (.bool true) ∧ Below w.heap.size w w' := by
  have hF := h
  obtain ⟨pm, nm, cm, pp, np, cp, pi, ni, ci, pr, nr, cr, hl, rfl, hin, hcp, _, _⟩ := h
  obtain ⟨W, hW⟩ : ∃ W, W = w.alloc (.cells #[.slice pm nm cm, .slice pp np cp, .slice pi ni ci, .slice pr nr cr] 43) := ⟨_, rfl⟩
  have hBW : Below w.heap.size w W := by rw [hW]; exact rb1 w _
  have HS : Hid (W.heap.size = w.heap.size + 1) := by show _ = _; rw [hW]; simp
  have HC : Hid (∀ u : World, Below W.heap.size W u → u.heap[w.heap.size]? = some (.cells #[.slice pm nm cm, .slice pp np cp, .slice pi ni ci, .slice pr nr cr] 43 (0, 0))) := by
    show ∀ u : World, _ → _
    intro u hu
    have hs := HS.out
    rw [hu.block _ (by omega), hW]
    exact han _ _
  have HI := Lib.hid (fun u (hu : Below W.heap.size W u) => (hin.below hBW).below hu)
  have HMk : Hid (∀ u, Below W.heap.size W u → Calls Tryz.prog 23 #[.agg #[.slice pm nm cm, .slice pp np cp, .slice pi ni ci, .slice pr nr cr], .slice s t f] u (MakePost u F zs)) := by
    show ∀ u, _
    intro u hu
    exact Make_ok F _ s t f zs u ((hF.below hBW).below hu) ((hM.below hBW).below hu) hz ((hT.below hBW).belowB (Tab.lt (hT.below hBW)) hu) ((hZ.below hBW).below hu) hzb hci
  have HFIN : Hid (∀ u, Below W.heap.size W u → Below w.heap.size w u) := by show ∀ u, _; exact fun u hu => hBW.trans (hu.mono (by have := HS.out; omega))
  have HGB := Lib.hid (graphs_below W)
  have hb0 := HC.out W (Below.refl _ _)
  clear hF hin hcp hci hBW hM hz hT hZ hzb hb0
  go_enter Tryz.func6, Tryz.ntmps6
  go_upto_region 1 with fail
  rw [← hW]
  clear hW
  by_cases h0 : makeE F zs = 0
  case neg =>
    have HMe : Hid (∀ u, Below W.heap.size W u → Calls Tryz.prog 23 #[.agg #[.slice pm nm cm, .slice pp np cp, .slice pi ni ci, .slice pr nr cr], .slice s t f] u fun e w' => e = .returned (.tuple #[.agg #[.slice none 0 0, .slice none 0 0, .int .u64 0, .int .u64 0], .int .i64 (makeE F zs)]) ∧ Below u.heap.size u w') := by
      show ∀ u, _
      intro u hu
      refine (HMk.out u hu).mono ?_
      rintro e w' ⟨⟨v, rfl, hv, _⟩, hb⟩
      rw [hv h0]
      exact ⟨rfl, hb⟩
    have HNE := Lib.hid h0
    obtain ⟨i1, i2⟩ := int_ne' h0
    clear h0
    generalize makeE F zs = E at *
    go_upto_region 3 with (go_at_call 22; refine HGB.out.mono ?_; rintro e w1 ⟨rfl, hb1⟩; have HB1 := Lib.hid hb1; clear hb1)
    obtain ⟨k0, k1, k2, k3, _⟩ := box4 (HC.out w1 HB1.out)
    go_upto_region 4 with (go_at_call 23; refine (HMe.out w1 HB1.out).mono ?_; rintro e w2 ⟨rfl, hb2⟩; have HB2 := Lib.hid (HB1.out.trans (hb2.mono HB1.out.size)); clear hb2)
    obtain ⟨V, hV⟩ : ∃ V, V = w2.alloc (.cells #[.slice none 0 0, .slice none 0 0, .int .u64 0, .int .u64 0] 54) := ⟨_, rfl⟩
    have hbV : Below w2.heap.size w2 V := by rw [hV]; exact rb1 _ _
    have hxV : V.heap[w2.heap.size]? = some (.cells #[.slice none 0 0, .slice none 0 0, .int .u64 0, .int .u64 0] 54 (0, 0)) := by rw [hV]; exact han _ _
    obtain ⟨x0, x1, x2, x3, _⟩ := box4 hxV
    have HBV := Lib.hid (HB2.out.trans (hbV.mono HB2.out.size))
    rw [← hV]
    clear hV hbV hxV k0 k1 k2 k3
    have HSm : Hid (Calls Tryz.prog 24 #[.agg #[.slice none 0 0, .slice none 0 0, .int .u64 0, .int .u64 0], .agg #[.slice none 0 0, .slice none 0 0, .int .u64 0, .int .u64 0]] V fun e w' => e = .returned (.bool true) ∧ Below V.heap.size V w') := sameG_ok _ _ G00 V (grat_nil V) (grat_nil V)
    go_wp2_with (go_at_call 24; refine HSm.out.mono ?_; rintro e w3 ⟨rfl, hb3⟩; have HB3 := Lib.hid (HBV.out.trans (hb3.mono HBV.out.size)); clear hb3)
    go_ret
    exact ⟨rfl, HFIN.out _ HB3.out⟩
  case pos =>
  have HE0 := Lib.hid h0
  have HFN := Lib.hid (file_n (makeE_zero h0).1)
  have h64 := (makeE_zero h0).2.2
  have HMz : Hid (∀ u, Below W.heap.size W u → Calls Tryz.prog 23 #[.agg #[.slice pm nm cm, .slice pp np cp, .slice pi ni ci, .slice pr nr cr], .slice s t f] u fun e w' => (∃ v, e = .returned (.tuple #[v, .int .i64 0]) ∧ GrAt w' v (makeG F zs)) ∧ Below u.heap.size u w') := by
    show ∀ u, _
    intro u hu
    refine (HMk.out u hu).mono ?_
    rintro e w' ⟨⟨v, rfl, _, hv⟩, hb⟩
    rw [h0]
    exact ⟨⟨v, rfl, hv h0⟩, hb⟩
  clear h0
  go_upto_region 3 with (go_at_call 22; refine HGB.out.mono ?_; rintro e w1 ⟨rfl, hb1⟩; have HB1 := Lib.hid hb1; clear hb1)
  obtain ⟨k0, k1, k2, k3, _⟩ := box4 (HC.out w1 HB1.out)
  obtain ⟨G, hG⟩ : ∃ G, G = makeG F zs := ⟨_, rfl⟩
  rw [← hG] at HMz
  have HGG := Lib.hid hG
  clear hG
  go_upto_region 4 with (go_at_call 23; refine (HMz.out w1 HB1.out).mono ?_; rintro e w2 ⟨⟨v, rfl, hv⟩, hb2⟩; obtain ⟨gp, gn, gc, ge, gm, gd, rfl, hN, hE⟩ := hv.at_; have HB2 := Lib.hid (HB1.out.trans (hb2.mono HB1.out.size)); have HN := Lib.hid hN; have HE := Lib.hid hE; clear hb2 hN hE hv)
  have hln := HN.out.at_.len
  have hlm := HE.out.len
  subst hln hlm
  have hbn := HN.out.at_.big
  have hbm := HE.out.big
  obtain ⟨V, hV⟩ : ∃ V, V = w2.alloc (.cells #[.slice gp G.names.length gc, .slice ge G.edges.length gd, .int .u64 (un G.phony : Int), .int .u64 (un G.made : Int)] 54) := ⟨_, rfl⟩
  have hbV : Below w2.heap.size w2 V := by rw [hV]; exact rb1 _ _
  have hxV : V.heap[w2.heap.size]? = some (.cells #[.slice gp G.names.length gc, .slice ge G.edges.length gd, .int .u64 (un G.phony : Int), .int .u64 (un G.made : Int)] 54 (0, 0)) := by rw [hV]; exact han _ _
  have hsV : w2.heap.size < V.heap.size := (Array.getElem?_eq_some_iff.1 hxV).1
  have HBV : Hid (Below W.heap.size W V) := HB2.out.trans (hbV.mono HB2.out.size)
  obtain ⟨bg, hbg⟩ : ∃ bg, bg = w2.heap.size := ⟨_, rfl⟩
  rw [← hbg] at hxV hsV
  have HX : Hid (∀ u, Below V.heap.size V u → u.heap[bg]? = some (.cells #[.slice gp G.names.length gc, .slice ge G.edges.length gd, .int .u64 (un G.phony : Int), .int .u64 (un G.made : Int)] 54 (0, 0)) ∧ u.heap[w.heap.size]? = some (.cells #[.slice pm nm cm, .slice pp np cp, .slice pi ni ci, .slice pr nr cr] 43 (0, 0)) ∧ NL u gp G.names.length gc G.names ∧ EsAt u ge G.edges.length gd G.edges ∧ RulesIn u pr nr cr hl) := by
    show ∀ u, _
    intro u hu
    have hbu := HBV.out.trans (hu.mono HBV.out.size)
    exact ⟨(hu.block bg hsV).trans hxV, HC.out u hbu, (HN.out.below hbV).below hu, (HE.out.below hbV).below hu, (HI.out u hbu).rs⟩
  have HBVu : Hid (∀ u, Below V.heap.size V u → Below W.heap.size W u) := by show ∀ u, _; exact fun u hu => HBV.out.trans (hu.mono HBV.out.size)
  have hrs := (HI.out V HBV.out).same
  have hrl := (HI.out V HBV.out).rs.at_.len
  subst hrl
  have hbr := (HI.out V HBV.out).rs.at_.big
  have HRS := Lib.hid hrs
  obtain ⟨x0, x1, x2, x3, _⟩ := box4 hxV
  rw [← hV, ← hbg]
  have HZ64 : Hid (∀ k : Nat, k < G.names.length → k < 64) := by
    show ∀ k, _
    intro k hk
    rw [HGG.out] at hk
    have e : (makeG F zs).names.length = (namesK F zs).length := bz_len _
    omega
  have hGn : G.names = bz (namesK F zs) := by rw [HGG.out]; rfl
  have HFd : Hid (∀ (u : World) (x : ByteArray), Below V.heap.size V u → x.data.toList ∈ namesK F zs → Calls Tryz.prog 25 #[.slice gp G.names.length gc, .string x] u fun e w' => e = .returned (.tuple #[.int .i64 ((namesK F zs).idxOf x.data.toList : Nat), .bool true]) ∧ ∃ q, w' = u.drewN q) := by
    show ∀ u x, _
    intro u x hu hx
    have h1 := (HX.out u hu).2.2.1
    rw [hGn] at h1 ⊢
    exact find_at h1 namesM_strict hx
  have HCt : Hid (∀ (u : World) (a b : Nat), Below V.heap.size V u → ((a : Int), (b : Int)) ∈ G.edges → Calls Tryz.prog 26 #[.slice ge G.edges.length gd, .agg #[.int .i64 (a : Int), .int .i64 (b : Int)]] u fun e w' => e = .returned (.bool true) ∧ Below u.heap.size u w') := by
    show ∀ u a b, _
    intro u a b hu hm
    have := containsE_ok ge G.edges.length gd G.edges ((a : Int), (b : Int)) u (HX.out u hu).2.2.2.1
    rw [decide_eq_true hm] at this
    exact this
  have HCk : Hid (∀ u : World, Below V.heap.size V u → Calls Tryz.prog 27 #[.agg #[.slice gp G.names.length gc, .slice ge G.edges.length gd, .int .u64 (un G.phony : Int), .int .u64 (un G.made : Int)]] u fun e w' => e = .returned (.int .i64 0) ∧ Below u.heap.size u w') := by
    show ∀ u, _
    intro u hu
    refine (CheckG2_ok _ G u ⟨gp, _, gc, ge, _, gd, rfl, (HX.out u hu).2.2.1, (HX.out u hu).2.2.2.1⟩).mono ?_
    rintro e w' ⟨⟨E, rfl, hc⟩, hb⟩
    rcases hc with ⟨rfl, _⟩ | ⟨_, hno⟩
    · exact ⟨rfl, hb⟩
    · exact absurd (by rw [HGG.out]; exact makeG_good HE0.out HFN.out.ph) hno
  have HTg : Hid (∀ r ∈ F.rs, ∀ t ∈ r.1, t.data.toList ∈ namesK F zs ∧ has G.made ((namesK F zs).idxOf t.data.toList) = true) := by
    show ∀ r ∈ F.rs, _
    intro r hr t ht
    rw [HGG.out]
    exact gr_target HE0.out hr ht
  have HNd : Hid (∀ r ∈ F.rs, ∀ t ∈ r.1, ∀ n ∈ r.2, n.data.toList ∈ namesK F zs ∧ (((namesK F zs).idxOf t.data.toList : Int), ((namesK F zs).idxOf n.data.toList : Int)) ∈ G.edges) := by
    show ∀ r ∈ F.rs, _
    intro r hr t ht n hn
    rw [HGG.out]
    exact gr_need HE0.out hr ht hn
  have HI64 : Hid (∀ x : ByteArray, x.data.toList ∈ namesK F zs → (namesK F zs).idxOf x.data.toList < 64) := by
    show ∀ x, _
    intro x hx
    have := idx_lt hx
    omega
  clear hV hbV hbg hxV hsV k0 k1 k2 k3 HMz HMk HGB HN HE hrs h64 hGn
  go_wp2_with fail
  go_loopw [35] (fun i wr => ∃ k : Nat, k ≤ G.edges.length ∧ i = .int .i64 k ∧ Hid (Below V.heap.size V wr)) (fun i _ => G.edges.length - (intOf i).toNat)
  case atStart => exact ⟨0, Nat.zero_le _, rfl, Below.refl _ _⟩
  case round =>
    obtain ⟨k, hk, rfl, HW⟩ := hrel
    clear x0 x1 x2 x3
    obtain ⟨hbx, _, hNr, hEr, _⟩ := HX.out wr HW.out
    by_cases hlt : k < G.edges.length
    · obtain ⟨b, o, rfl, hb, c1, c2⟩ := hEr.cell (getD_some (0, 0) hlt)
      have hmem : G.edges.getD k (0, 0) ∈ G.edges := by
        rw [List.getD_eq_getElem?_getD, List.getElem?_eq_getElem hlt]
        exact List.getElem_mem hlt
      have hsrc : ∃ a : Nat, (G.edges.getD k (0, 0)).1 = a ∧ a < 64 ∧ has G.made a = true := by
        rw [HGG.out] at hmem ⊢
        exact right_made (makeE_zero HE0.out).2.2 hmem
      generalize G.edges.getD k (0, 0) = y at *
      obtain ⟨y1, y2⟩ := y
      obtain ⟨a, ha, ha64, hbit⟩ := hsrc
      simp only at ha
      subst ha
      have hbz := bit_zero G.made hbit
      simp only [eF, eG] at c1 c2
      rw [← Nat.add_assoc] at c2
      obtain ⟨A, hA⟩ : ∃ A, A = wr.alloc (.cells #[.int .i64 (a : Int), .int .i64 y2] 59) := ⟨_, rfl⟩
      have hbA : Below wr.heap.size wr A := by rw [hA]; exact rb1 _ _
      have HBA : Hid (Below V.heap.size V A) := HW.out.trans (hbA.mono HW.out.size)
      have d0 : A.cell? ⟨wr.heap.size, 0, none⟩ = some (.int .i64 (a : Int)) := by rw [hA, World.cell?_alloc_at _ _ _ _ rfl]; rfl
      clear hbx hNr hEr hmem hbit hb hbA
      go_upto_region 9 with fail
      rw [← hA]
      clear hA c1 c2
      obtain ⟨x0, x1, x2, x3, _⟩ := box4 (HX.out A HBA.out).1
      go_wp2
      go_roundw
      case rel => exact ⟨k + 1, by omega, by go_num, HBA⟩
      case measure => simp [intOf]; omega
    · obtain rfl : k = G.edges.length := by omega
      obtain ⟨k0, k1, k2, k3, _⟩ := box4 (HX.out wr HW.out).2.1
      obtain ⟨wq, hwq⟩ : ∃ wq, wq = wr := ⟨_, rfl⟩
      clear hbx hNr hEr
      go_wp2_with fail
      go_loopw [50] (fun i wr => ∃ m : Nat, m ≤ hl.length ∧ i = .int .i64 m ∧ Hid (Below V.heap.size V wr)) (fun i _ => hl.length - (intOf i).toNat)
      case atStart => exact ⟨0, Nat.zero_le _, rfl, HW.out⟩
      case round =>
        obtain ⟨m, hm, rfl, HW2⟩ := hrel
        clear k0 k1 k2 k3
        by_cases hlt2 : m < hl.length
        · obtain ⟨hbx, _, _, _, hR⟩ := HX.out wr HW2.out
          have hel := List.getElem?_eq_getElem hlt2
          have hrm : rl hl[m] ∈ F.rs := by rw [← HRS.out]; exact List.mem_map_of_mem (List.getElem_mem hlt2)
          obtain ⟨b, o, rfl, hb, c1, c2⟩ := hR.at_.cell hel
          have hok := hR.ok _ (List.getElem_mem hlt2)
          rw [← Nat.add_assoc] at c2
          clear hel hR hbx
          generalize hl[m] = y at *
          obtain ⟨⟨p1, n1, cc1, T⟩, ⟨p2, n2, cc2, Nd⟩⟩ := y
          simp only [rF, rG, rl, Hd.v] at c1 c2 hrm
          obtain ⟨⟨k1, _⟩, ⟨k3, _⟩⟩ := hok
          simp only at k1 k3
          have l1 := k1.at_.len
          have l2 := k3.at_.len
          subst l1 l2
          have hb1 := k1.at_.big
          have hb3 := k3.at_.big
          have hkm : (m : Int) < (hl.length : Int) := by omega
          obtain ⟨A, hA⟩ : ∃ A, A = wr.alloc (.cells #[.slice p1 T.length cc1, .slice p2 Nd.length cc2] 61) := ⟨_, rfl⟩
          have hbA : Below wr.heap.size wr A := by rw [hA]; exact rb1 _ _
          have HBA : Hid (Below V.heap.size V A) := HW2.out.trans (hbA.mono HW2.out.size)
          have d0 : A.cell? ⟨wr.heap.size, 0, none⟩ = some (.slice p1 T.length cc1) := by rw [hA, World.cell?_alloc_at _ _ _ _ rfl]; rfl
          have d1 : A.cell? ⟨wr.heap.size, 1, none⟩ = some (.slice p2 Nd.length cc2) := by rw [hA, World.cell?_alloc_at _ _ _ _ rfl]; rfl
          have hsA : wr.heap.size < A.heap.size := by rw [hA]; simp
          have HA : Hid (∀ u, Below A.heap.size A u → Below V.heap.size V u ∧ u.cell? ⟨wr.heap.size, 1, none⟩ = some (.slice p2 Nd.length cc2) ∧ NLw u p1 T.length cc1 T ∧ NLw u p2 Nd.length cc2 Nd) := by
            show ∀ u, _
            intro u hu
            exact ⟨HBA.out.trans (hu.mono HBA.out.size), (hu.cell (p := ⟨wr.heap.size, 1, none⟩) hsA).trans d1, (k1.below hbA).below hu, (k3.below hbA).below hu⟩
          have HRM := Lib.hid hrm
          clear hbA hsA k1 k3 hrm d1
          go_upto_region 15 with fail
          rw [← hA]
          clear hA c1 c2
          go_wp2_with fail
          go_loopw [57] (fun i wr => ∃ q : Nat, q ≤ T.length ∧ i = .int .i64 q ∧ Hid (Below A.heap.size A wr)) (fun i _ => T.length - (intOf i).toNat)
          case atStart => exact ⟨0, Nat.zero_le _, rfl, Below.refl _ _⟩
          case round =>
            obtain ⟨q, hq, rfl, HW3⟩ := hrel
            clear d0
            by_cases hlt3 : q < T.length
            · obtain ⟨hbv, e1, hk1, _⟩ := HA.out wr HW3.out
              obtain ⟨ad, rfl, _, hc⟩ := str_at hk1.at_.reads hlt3
              have htm : T.getD q ByteArray.empty ∈ T := by
                rw [List.getD_eq_getElem?_getD, List.getElem?_eq_getElem hlt3]; exact List.getElem_mem hlt3
              generalize T.getD q ByteArray.empty = x at *
              obtain ⟨hxN, hxb⟩ := HTg.out _ HRM.out x htm
              have hx64 := HI64.out x hxN
              have HF1 := Lib.hid (HFd.out wr x hbv hxN)
              have HNX := Lib.hid (HNd.out _ HRM.out x htm)
              generalize (namesK F zs).idxOf x.data.toList = a at *
              have hbz := bit_zero G.made hxb
              have HBV3 := Lib.hid hbv
              obtain ⟨x0, x1, x2, x3, _⟩ := box4 (HX.out wr hbv).1
              clear hk1 hxb hxN htm hbv
              go_upto_region 19 with (go_at_call 25; refine HF1.out.mono ?_; rintro e w4 ⟨rfl, j4, rfl⟩)
              obtain ⟨Y, hY⟩ : ∃ Y, Y = wr.drewN j4 := ⟨_, rfl⟩
              have HBY : Hid (Below A.heap.size A Y) := by show Below _ _ _; rw [hY]; exact below_drawsP HW3.out j4
              rw [← hY]
              clear hY x0 x1 x2 x3 e1 hc
              obtain ⟨hbv, e1, _, _⟩ := HA.out Y HBY.out
              obtain ⟨x0, x1, x2, x3, _⟩ := box4 (HX.out Y hbv).1
              clear hbv
              go_wp2_with fail
              go_loopw [81] (fun i wr => ∃ z : Nat, z ≤ Nd.length ∧ i = .int .i64 z ∧ Hid (Below A.heap.size A wr)) (fun i _ => Nd.length - (intOf i).toNat)
              case atStart => exact ⟨0, Nat.zero_le _, rfl, HBY.out⟩
              case round =>
                obtain ⟨z, hz, rfl, HW4⟩ := hrel
                clear x0 x1 x2 x3 e1
                by_cases hlt4 : z < Nd.length
                · obtain ⟨hbv, _, _, hk3⟩ := HA.out wr HW4.out
                  obtain ⟨ad2, rfl, _, hc⟩ := str_at hk3.at_.reads hlt4
                  have hnm : Nd.getD z ByteArray.empty ∈ Nd := by
                    rw [List.getD_eq_getElem?_getD, List.getElem?_eq_getElem hlt4]; exact List.getElem_mem hlt4
                  generalize Nd.getD z ByteArray.empty = y at *
                  obtain ⟨hyN, hye⟩ := HNX.out y hnm
                  have HF2 := Lib.hid (HFd.out wr y hbv hyN)
                  generalize (namesK F zs).idxOf y.data.toList = b2 at *
                  have HYE := Lib.hid hye
                  obtain ⟨x0, x1, x2, x3, _⟩ := box4 (HX.out wr hbv).1
                  clear hk3 hyN hnm hbv hye
                  go_upto_region 25 with (go_at_call 25; refine HF2.out.mono ?_; rintro e w5 ⟨rfl, j5, rfl⟩)
                  obtain ⟨Y2, hY2⟩ : ∃ Y2, Y2 = wr.drewN j5 := ⟨_, rfl⟩
                  have HBY2 : Hid (Below A.heap.size A Y2) := by show Below _ _ _; rw [hY2]; exact below_drawsP HW4.out j5
                  rw [← hY2]
                  clear hY2 x0 x1 x2 x3 hc
                  obtain ⟨hbv, _, _, _⟩ := HA.out Y2 HBY2.out
                  obtain ⟨x0, x1, x2, x3, _⟩ := box4 (HX.out Y2 hbv).1
                  have HC2 := Lib.hid (HCt.out Y2 a b2 hbv HYE.out)
                  clear hbv
                  go_wp2_with (go_at_call 26; refine HC2.out.mono ?_; rintro e w6 ⟨rfl, hb6⟩; have HB6 := Lib.hid hb6; clear hb6)
                  go_roundw
                  case rel => exact ⟨z + 1, by omega, by go_num, HBY2.out.trans (HB6.out.mono HBY2.out.size)⟩
                  case measure => simp [intOf]; omega
                · obtain rfl : z = Nd.length := by omega
                  go_wp2
                  go_roundw
                  case rel => exact ⟨q + 1, by omega, by go_num, HW4.out⟩
                  case measure => simp [intOf]; omega
            · obtain rfl : q = T.length := by omega
              go_wp2
              go_roundw
              case rel => exact ⟨m + 1, by omega, by go_num, (HA.out wr HW3.out).1⟩
              case measure => simp [intOf]; omega
        · obtain rfl : m = hl.length := by omega
          obtain ⟨x0, x1, x2, x3, _⟩ := box4 (HX.out wr HW2.out).1
          have HK := Lib.hid (HCk.out wr HW2.out)
          go_wp2_with (go_at_call 27; refine HK.out.mono ?_; rintro e w7 ⟨rfl, hb7⟩; have HB7 := Lib.hid hb7; clear hb7)
          go_ret
          exact ⟨rfl, HFIN.out _ (HBVu.out _ (HW2.out.trans (HB7.out.mono HW2.out.size)))⟩
end Go.Proofs.YtoiolepengcagaaGreatDoor
namespace Go.Proofs.YtoiolepengcagaaGreatDoor
open Go.RowKit Go.Shelf Go.ChangeShapes Go.WideShapes
def wk (l : List ByteArray) : Nat := (l.map fun z => z.size + 1).sum
theorem wk_strs {H : Type} (l : List ByteArray) : wk l = Rows.uptoBulkAll (strs (H := H) l) := by
  induction l with
  | nil => rfl
  | cons a l ih =>
    show a.size + 1 + wk l = _
    rw [ih]
    unfold strs
    simp only [List.map_cons, Rows.uptoBulkAll, Rows.uptoBulk]
    rw [Lib.size_eq]
set_option maxRecDepth 100000 in
theorem nlw_bulk {H : Type} {enc : TypeId × Value → H} {W : World} {fuel : Nat} {v : Value} {d : DataW H} {p : List MemPlace}
    (hf : DataW.trod enc Tryz.prog W 0 (fun _ => true) true fuel 23 [v] = some (d, p))
    (hsz : ∀ n, n ∈ d.weights Tryz.prog 23 → n ≤ reachBytes) : ∃ a len cap zs, v = .slice a len cap ∧ NLw W a len cap zs ∧ len ≤ cap ∧ wk zs + 1 ≤ Rows.uptoBulk d := by
  have ht := Tryz.underlying23
  have he := Tryz.underlying9
  have hc : Tryz.prog.cellsOf 9 = 1 := by kernel_rfl
  obtain ⟨a, len, cap, rfl, ⟨zs, hN⟩, hcap⟩ := nlw_any hf hsz
  refine ⟨a, len, cap, zs, rfl, hN, hcap, ?_⟩
  have hl := hN.at_.len
  rcases open_strings ht he hc hf with ⟨h1, h2⟩ | ⟨ad, ln, cp, ss, h1, h2, h3, h4, h5, h6, h7, h8⟩
  · injection h1 with h1 _
    injection h1 with e1 e2 e3
    subst e1 e2 e3
    injection h2 with h2 _
    subst h2
    have : zs = [] := List.length_eq_zero_iff.1 hl
    subst this
    exact Nat.le_refl _
  · injection h1 with h1 _
    injection h1 with e1 e2 e3
    subst e1 e2 e3
    injection h6 with h6 _
    simp only [if_true] at h5
    have hz : zs = ss.take len := by
      refine List.ext_getElem (by rw [List.length_take]; omega) fun i hi1 hi2 => ?_
      have h0 : 0 < len := by omega
      obtain ⟨b, o, e, _⟩ := hN.plain h0 _ rfl
      subst e
      have k1 := hN.cellAt i hi1
      have k2 := h7 i (by rw [List.length_take] at hi2; omega)
      rw [Addr.add_lit, k1] at k2
      injection k2 with k2
      injection k2 with k2
      rw [List.getD_eq_getElem?_getD, List.getD_eq_getElem?_getD, List.getElem?_eq_getElem hi1, List.getElem?_eq_getElem (by rw [List.length_take] at hi2; omega)] at k2
      rw [List.getElem_take]
      exact k2
    rw [h6, hz, wk_strs (H := H)]
    simp only [Rows.uptoBulk]
    omega
/-- the slice of pairs that a law is handed, and its bulk, each field of a weight that is told -/
theorem p2_bulkw {A B H : Type} {enc : TypeId × Value → H} {P : Program} {W : World} {fuel : Nat} {v : Value} {d : DataW H} {p : List MemPlace} {t e : TypeId} {f0 f1 : Field} (F : A → Value) (G : B → Value) (wf : A → Nat) (wg : B → Nat)
    (ht : P.underlying t = some (.slice e)) (he : P.underlying e = some (.struct #[f0, f1])) (ce : P.cellsOf e = 2) (o0 : f0.offset = 0) (o1 : f1.offset = 1) (c0 : P.cellsOf f0.type = 1) (c1 : P.cellsOf f1.type = 1)
    (hF : ∀ n v x, DataW.trod enc P W 0 (fun _ => true) true n f0.type [v] = some x → (∀ k, k ∈ x.1.weights P f0.type → k ≤ reachBytes) → ∃ a, v = F a ∧ wf a ≤ Rows.uptoBulk x.1)
    (hG : ∀ n v x, DataW.trod enc P W 0 (fun _ => true) true n f1.type [v] = some x → (∀ k, k ∈ x.1.weights P f1.type → k ≤ reachBytes) → ∃ b, v = G b ∧ wg b ≤ Rows.uptoBulk x.1)
    (hby : 16 ≤ P.bytesOf e) (hf : DataW.trod enc P W 0 (fun _ => true) true fuel t [v] = some (d, p)) (hsz : ∀ n, n ∈ d.weights P t → n ≤ reachBytes) :
    ∃ (a : Option Addr) (len cap : Nat) (l : List (A × B)), v = .slice a len cap ∧ len ≤ cap ∧ P2At (fun x => F x.1) (fun x => G x.2) W a len cap l ∧ (l.map fun x => wf x.1 + wg x.2 + 1).sum + 1 ≤ Rows.uptoBulk d := by
  rcases Go.Deep.open_slice_pairs ht he ce o0 o1 c0 c1 hf with ⟨h1, h2⟩ | ⟨ad, len, cap, m, n, V0, V1, D0, D1, P0, P1, h1, hx2, h3, hx4, h5, h6, h7⟩
  · injection h1 with h1 _
    subst h1
    injection h2 with h2 _
    subst h2
    exact ⟨none, 0, 0, [], rfl, Nat.le_refl _, ⟨rfl, fun h => by omega, by omega⟩, by simp [Rows.uptoBulk]⟩
  · injection h1 with h1 _
    subst h1
    simp only [if_true] at h5
    subst h5
    injection h6 with h6 _
    have hel : ∀ i, i < len → ∀ k, k ∈ (DataW.agg [D0 i, D1 i]).weights P e → k ≤ reachBytes := by
      intro i hi k hk
      refine hsz k ?_
      rw [h6, DataW.weights, ht]
      refine List.mem_cons_of_mem _ (List.mem_append_left _ (weightsAll_mem hk ?_))
      exact List.mem_map.2 ⟨i, List.mem_range.2 hi, rfl⟩
    have hex : ∀ i, i < len → ∃ q : A × B, (W.cell? (ad.add (i * 2)) = some (F q.1) ∧ W.cell? (ad.add (i * 2 + 1)) = some (G q.2)) ∧ wf q.1 ≤ Rows.uptoBulk (D0 i) ∧ wg q.2 ≤ Rows.uptoBulk (D1 i) := by
      intro i hi
      obtain ⟨k1, k2, k3, k4⟩ := h7 i (by omega)
      obtain ⟨x, hx, wx⟩ := hF _ _ _ k3 (fun k hk => hel i hi k (by simp only [DataW.weights, he, List.map_cons, List.map_nil, DataW.weightsEach, List.mem_append]; exact .inl hk))
      obtain ⟨y, hy, wy⟩ := hG _ _ _ k4 (fun k hk => hel i hi k (by simp only [DataW.weights, he, List.map_cons, List.map_nil, DataW.weightsEach, List.mem_append]; exact .inr (.inl hk)))
      exact ⟨(x, y), ⟨by rw [k1, hx], by rw [k2, hy]⟩, wx, wy⟩
    obtain ⟨l, hl, hq⟩ := list_of len _ hex
    have hb := hsz ((len + (m - len)) * P.bytesOf e) (by
      rw [h6, DataW.weights, ht]
      simp)
    have hrb : reachBytes < 2 ^ 47 := reachBytes_lt
    have hmul : (len + (m - len)) * 16 ≤ (len + (m - len)) * P.bytesOf e := Nat.mul_le_mul_left _ hby
    refine ⟨some ad, len, m, l, rfl, by omega, ⟨hl, fun hn => ?_, by omega⟩, ?_⟩
    · obtain ⟨b, o, s⟩ := ad
      have hs : s = none := by
        have h0 := (h7 0 (by omega)).1
        simpa [Addr.add] using World.cell?_spot h0
      subst hs
      refine ⟨b, o, rfl, ?_, fun k x hx => ?_⟩
      · have := World.block_lt_of_cell? W _ (h7 0 (by omega)).1
        rwa [block_of_add] at this
      · have := (hq k x hx).1
        rw [Addr.add_lit, Addr.add_lit] at this
        exact this
    · have hsum := bulk_sum (fun x : A × B => wf x.1 + wg x.2 + 1) l ((List.range len).map fun i => DataW.agg [D0 i, D1 i]) (by simp [hl]) (fun i q d' e1 e2 => by
        have hi : i < len := by have := (List.getElem?_eq_some_iff.1 e1).1; omega
        rw [List.getElem?_map, List.getElem?_range hi] at e2
        have e3 : DataW.agg [D0 i, D1 i] = d' := by simpa using e2
        subst e3
        obtain ⟨_, w1, w2⟩ := hq i q e1
        simp only [Rows.uptoBulk, Rows.uptoBulkAll]
        omega)
      rw [h6]
      simp only [Rows.uptoBulk]
      omega
theorem join_wk (X : List ByteArray) : (Lib.join (lsB X) [32]).length ≤ wk X := by
  induction X with
  | nil => simp [lsB, Lib.join_nil]
  | cons a X ih =>
    have ha : a.size = a.data.toList.length := Lib.size_eq a
    have e : wk (a :: X) = a.size + 1 + wk X := rfl
    rw [e]
    cases X with
    | nil => show (Lib.join [a.data.toList] [32]).length ≤ _; rw [Lib.join_one]; omega
    | cons b X =>
      show (Lib.join (a.data.toList :: b.data.toList :: lsB X) [32]).length ≤ _
      have hi' : (Lib.join (b.data.toList :: lsB X) [32]).length ≤ wk (b :: X) := ih
      rw [join_two]
      simp only [List.length_append, List.length_cons, List.length_nil]
      omega
theorem wk_app (X Y : List ByteArray) : wk (X ++ Y) = wk X + wk Y := by unfold wk; rw [List.map_append, List.sum_append]
theorem wk_len (X : List ByteArray) : X.length ≤ wk X := sum_len (fun z : ByteArray => z.size + 1) (fun _ => Nat.le_add_left _ _)
def FileA (w : World) (v : Value) (_ : Unit) : Prop := ∃ F, FIv w F v ∧ (∀ x ∈ linesF F, x.length ≤ 1048600) ∧ ∀ a b p n c d, v = .agg #[a, b, .slice p n c, d] → n ≤ c
def NLAt (w : World) (v : Value) (_ : Unit) : Prop := ∃ p n c zs, v = .slice p n c ∧ NLw w p n c zs ∧ n ≤ c ∧ ∀ x ∈ zs, x.size ≤ 1048576
set_option maxRecDepth 100000 in
theorem nlat_arg_upto {H : Type} {enc : TypeId × Value → H} {W : World} {r : Reach} {b0 : Nat} {v : Value} {d : DataW H} {p : List MemPlace}
    (_hok : Value.okWide Tryz.prog W r b0 23 v) (hf : DataW.Trod enc Tryz.prog W 0 (fun _ => true) true 23 v d p)
    (hsz : ∀ n, n ∈ d.weights Tryz.prog 23 → n ≤ reachBytes) (hbk : Rows.uptoBulk d ≤ 1048576) : ∃ g, NLAt W v g := by
  obtain ⟨a0, n0, c0, rfl⟩ := Go.WideShapes.okWide_slice Tryz.underlying23 _hok
  obtain ⟨fuel, hf⟩ := hf
  obtain ⟨a, len, cap, zs, hv, hN, hc, hw⟩ := nlw_bulk hf hsz
  refine ⟨(), a, len, cap, zs, hv, hN, hc, fun x hx => ?_⟩
  have := sum_mem (fun z : ByteArray => z.size + 1) hx
  unfold wk at hw
  omega
theorem strb1 {H : Type} {enc : TypeId × Value → H} {W : World} : ∀ n v x, DataW.trod enc Tryz.prog W 0 (fun _ => true) true n 9 [v] = some x → (∀ k, k ∈ x.1.weights Tryz.prog 9 → k ≤ reachBytes) → ∃ a : ByteArray, v = Value.string a ∧ a.size ≤ Rows.uptoBulk x.1 :=
  fun n v x h _ => strb n v x h
set_option maxHeartbeats 4000000 in
set_option maxRecDepth 100000 in
theorem file_arg_upto {H : Type} {enc : TypeId × Value → H} {W : World} {r : Reach} {b0 : Nat} {v : Value} {d : DataW H} {p : List MemPlace}
    (hok : Value.okWide Tryz.prog W r b0 43 v) (hf : DataW.Trod enc Tryz.prog W 0 (fun _ => true) true 43 v d p)
    (hsz : ∀ n, n ∈ d.weights Tryz.prog 43 → n ≤ reachBytes) (hbk : Rows.uptoBulk d ≤ 1048576) : ∃ g, FileA W v g := by
  have ht := Tryz.underlying43
  have hok2 := hok
  simp only [Value.okWide, ht] at hok2
  obtain ⟨cs, rfl, hcs, ts, hts, _, hcell⟩ := hok2
  have hc4 : cs.size = 4 := by rw [hcs]; kernel_rfl
  obtain ⟨fuel, hf⟩ := hf
  obtain ⟨xs, k, _, hxy, hlen, hxl, hff⟩ := DataW.trod_struct ht hf
  obtain ⟨l, rfl⟩ : ∃ l : List Value, cs = l.toArray := ⟨cs.toList, by simp⟩
  have hl4 : l.length = 4 := by simpa using hc4
  match l, hl4, xs, hxl with
  | [v0, v1, v2, v3], _, [y0, y1, y2, y3], _ =>
    have s0 : Tryz.prog.cellsOf 39 = 1 := by kernel_rfl
    have s1 : Tryz.prog.cellsOf 23 = 1 := by kernel_rfl
    have s2 : Tryz.prog.cellsOf 40 = 1 := by kernel_rfl
    have s3 : Tryz.prog.cellsOf 41 = 1 := by kernel_rfl
    have g0 := hff 0 _ rfl
    have g1 := hff 1 _ rfl
    have g2 := hff 2 _ rfl
    have g3 := hff 3 _ rfl
    simp [s0, s1, s2, s3, Value.cells] at g0 g1 g2 g3
    injection hxy with hd _
    subst hd
    have hw : ∀ n, (n ∈ y0.1.weights Tryz.prog 39 ∨ n ∈ y1.1.weights Tryz.prog 23 ∨ n ∈ y2.1.weights Tryz.prog 40 ∨ n ∈ y3.1.weights Tryz.prog 41) → n ≤ reachBytes := by
      intro n hn
      refine hsz n ?_
      simp only [DataW.weights, ht, List.map_cons, List.map_nil, DataW.weightsEach, List.mem_append]
      rcases hn with h | h | h | h
      · exact .inl h
      · exact .inr (.inl h)
      · exact .inr (.inr (.inl h))
      · exact .inr (.inr (.inr (.inl h)))
    simp only [List.map_cons, List.map_nil, Rows.uptoBulk, Rows.uptoBulkAll] at hbk
    obtain ⟨a0, n0, c0, l0, rfl, _, h0, b0'⟩ := p2_bulkw (A := ByteArray) (B := ByteArray) (fun a => Value.string a) (fun a => Value.string a) (fun a => a.size) (fun a => a.size) Tryz.underlying39 Tryz.underlying86 (by kernel_rfl) rfl rfl (by kernel_rfl) (by kernel_rfl) strb1 strb1 (by decide +kernel) g0 (fun n hn => hw n (.inl hn))
    obtain ⟨a1, n1, c1, z1, rfl, h1, h1c, b1'⟩ := nlw_bulk g1 (fun n hn => hw n (.inr (.inl hn)))
    obtain ⟨a2, n2, c2, l2, rfl, h2c, h2, b2'⟩ := p2_bulkw (A := ByteArray) (B := ByteArray) (fun a => Value.string a) (fun a => Value.string a) (fun a => a.size) (fun a => a.size) Tryz.underlying40 Tryz.underlying100 (by kernel_rfl) rfl rfl (by kernel_rfl) (by kernel_rfl) strb1 strb1 (by decide +kernel) g2 (fun n hn => hw n (.inr (.inr (.inl hn))))
    have hS : ∀ n v x, DataW.trod enc Tryz.prog W 0 (fun _ => true) true n 23 [v] = some x → (∀ k, k ∈ x.1.weights Tryz.prog 23 → k ≤ reachBytes) → ∃ a : {x : Hd // x.ok W}, v = a.1.v ∧ wk a.1.zs ≤ Rows.uptoBulk x.1 := by
      rintro n v ⟨d, p⟩ h hw
      obtain ⟨a, len, cap, zs, rfl, hN, hc, hb⟩ := nlw_bulk h hw
      exact ⟨⟨⟨a, len, cap, zs⟩, hN, hc⟩, rfl, by show wk zs ≤ _; simp only at hb ⊢; omega⟩
    obtain ⟨a3, n3, c3, l3, rfl, h3c, h3, b3'⟩ := p2_bulkw (A := {x : Hd // x.ok W}) (B := {x : Hd // x.ok W}) (fun a => a.1.v) (fun a => a.1.v) (fun a => wk a.1.zs) (fun a => wk a.1.zs) Tryz.underlying41 Tryz.underlying61 (by kernel_rfl) rfl rfl (by kernel_rfl) (by kernel_rfl) hS hS (by decide +kernel) g3 (fun n hn => hw n (.inr (.inr (.inr hn))))
    have m0 : ∀ x ∈ l0, x.1.size + x.2.size + 1 ≤ 1048576 := fun x hx => by
      have := sum_mem (fun x : ByteArray × ByteArray => x.1.size + x.2.size + 1) hx
      omega
    have m2 : ∀ x ∈ l2, x.1.size + x.2.size + 1 ≤ 1048576 := fun x hx => by
      have := sum_mem (fun x : ByteArray × ByteArray => x.1.size + x.2.size + 1) hx
      omega
    have m3 : ∀ x ∈ l3, wk x.1.1.zs + wk x.2.1.zs + 1 ≤ 1048576 := fun x hx => by
      have := sum_mem (fun x : {x : Hd // x.ok W} × {x : Hd // x.ok W} => wk x.1.1.zs + wk x.2.1.zs + 1) hx
      omega
    have e0 := sum_len (fun x : ByteArray × ByteArray => x.1.size + x.2.size + 1) (l := l0) (fun x => by omega)
    have e2 := sum_len (fun x : ByteArray × ByteArray => x.1.size + x.2.size + 1) (l := l2) (fun x => by omega)
    have e3 := sum_len (fun x : {x : Hd // x.ok W} × {x : Hd // x.ok W} => wk x.1.1.zs + wk x.2.1.zs + 1) (l := l3) (fun x => by omega)
    have e1 := wk_len z1
    have q0 := h0.len
    have q1 := h1.at_.len
    have q2 := h2.len
    have q3 := h3.len
    refine ⟨(), ⟨l0.map fun x => (x.1.data.toList, x.2.data.toList), z1, l2, l3.map fun x => (x.1.1.zs, x.2.1.zs)⟩, ⟨a0, n0, c0, a1, n1, c1, a2, n2, c2, a3, n3, c3, l3.map fun x => (x.1.1, x.2.1), rfl, ⟨⟨by rw [List.length_map]; exact h0.len, fun hp => ?_, h0.big⟩, h1, h2, ⟨⟨by rw [List.length_map]; exact h3.len, fun hp => ?_, h3.big⟩, fun x hx => ?_, h3c⟩, ?_⟩, h1c, ⟨by omega, by omega, by omega, by omega⟩, fun x hx => ?_⟩, fun x hx => ?_, fun a b p n c d e => ?_⟩
    rotate_right
    · injection e with e
      simp only [Array.mk.injEq, List.cons.injEq, Value.slice.injEq] at e
      omega
    · obtain ⟨b, o, e, hb, hc⟩ := h0.at_ hp
      refine ⟨b, o, e, hb, fun k x hx => ?_⟩
      rw [List.getElem?_map, Option.map_eq_some_iff] at hx
      obtain ⟨y, hy, rfl⟩ := hx
      have := hc k y hy
      unfold mF mG
      simp only [list_txt]
      exact this
    · obtain ⟨b, o, e, hb, hc⟩ := h3.at_ hp
      refine ⟨b, o, e, hb, fun k x hx => ?_⟩
      rw [List.getElem?_map, Option.map_eq_some_iff] at hx
      obtain ⟨y, hy, rfl⟩ := hx
      exact hc k y hy
    · obtain ⟨y, _, rfl⟩ := List.mem_map.1 hx
      exact ⟨y.1.2, y.2.2⟩
    · rw [List.map_map]
      rfl
    · obtain ⟨y, hy, rfl⟩ := List.mem_map.1 hx
      have := m3 y hy
      have := wk_len y.1.1.zs
      have := wk_len y.2.1.zs
      exact ⟨by show y.1.1.zs.length ≤ _; omega, by show y.2.1.zs.length ≤ _; omega⟩
    · rw [linesF_eq] at hx
      simp only [List.mem_append, List.mem_map] at hx
      rcases hx with ((⟨m, ⟨y, hy, rfl⟩, rfl⟩ | hx) | ⟨m, hm, rfl⟩) | ⟨q, ⟨y, hy, rfl⟩, rfl⟩
      · have := m0 y hy
        rw [Lib.size_eq, Lib.size_eq] at this
        unfold ln1
        simp only [List.length_append, List.length_cons, List.length_nil]
        omega
      · split at hx
        · cases hx
        · rw [List.mem_singleton.1 hx]
          have := join_wk z1
          unfold ln2
          have e : phonyS.data.toList.length = 6 := rfl
          simp only [List.length_append, List.length_cons, List.length_nil]
          omega
      · have := m2 m hm
        rw [Lib.size_eq, Lib.size_eq] at this
        unfold ln3
        simp only [List.length_append, List.length_cons, List.length_nil]
        omega
      · have h5 := m3 y hy
        have h6 := join_wk (y.1.1.zs ++ [(⟨#[58]⟩ : ByteArray)] ++ y.2.1.zs)
        rw [wk_app, wk_app] at h6
        have h7 : wk [(⟨#[58]⟩ : ByteArray)] = 2 := rfl
        show (ruleT y.1.1.zs y.2.1.zs).length ≤ _
        have h8 : (ruleT y.1.1.zs y.2.1.zs).length ≤ wk y.1.1.zs + wk [(⟨#[58]⟩ : ByteArray)] + wk y.2.1.zs := h6
        omega
end Go.Proofs.YtoiolepengcagaaGreatDoor
namespace Go.Proofs.YtoiolepengcagaaGreatDoor
open Go.RowKit Go.Shelf Go.ChangeShapes Go.WideShapes
def NLBig (w : World) (v : Value) (_ : Unit) : Prop := ∃ p n c zs, v = .slice p n c ∧ NL w p n c zs ∧ n ≤ 1048576
set_option maxRecDepth 100000 in
theorem nlbig_arg_upto {H : Type} {enc : TypeId × Value → H} {W : World} {r : Reach} {b0 : Nat} {v : Value} {d : DataW H} {p : List MemPlace}
    (_hok : Value.okWide Tryz.prog W r b0 23 v) (hf : DataW.Trod enc Tryz.prog W 0 (fun _ => true) true 23 v d p)
    (hsz : ∀ n, n ∈ d.weights Tryz.prog 23 → n ≤ reachBytes) (hbk : Rows.uptoBulk d ≤ 1048576) : ∃ g, NLBig W v g := by
  obtain ⟨a0, n0, c0, rfl⟩ := Go.WideShapes.okWide_slice Tryz.underlying23 _hok
  obtain ⟨fuel, hf⟩ := hf
  obtain ⟨zs0, hL⟩ := nl_arg _hok Tryz.underlying23 Tryz.underlying9 (by kernel_rfl) hf hsz
  obtain ⟨a, len, cap, zs, hv, hN, hc, hw⟩ := nlw_bulk hf hsz
  injection hv with h1 h2 h3
  refine ⟨(), a0, n0, c0, zs0, rfl, hL, ?_⟩
  have hl := hN.at_.len
  have hk : zs.length ≤ wk zs := by
    unfold wk
    clear hN hL hf hw hl
    induction zs with
    | nil => exact Nat.le_refl _
    | cons z zs ih => simp only [List.map_cons, List.sum_cons, List.length_cons]; omega
  omega
theorem graphRight_law (w : World) (v0 v1 : Value) (hM : MLm w) (hT : Tab w) (h0 : ∃ g, FileA w v0 g) (h1 : ∃ g, NLBig w v1 g) :
    Calls Tryz.prog 6 #[v0, v1] w fun e w' => e = .returned (.bool true) ∧ Below w.heap.size w w' := by
  obtain ⟨_, F, hF, hz, hc⟩ := h0
  obtain ⟨_, s, t, f, zs, rfl, hZ, ht⟩ := h1
  exact graphRight_ok F v0 s t f zs w hF hM hz hT hZ ht hc
end Go.Proofs.YtoiolepengcagaaGreatDoor
