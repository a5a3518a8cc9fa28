/- Texts joined: BuildOwnW, BuildLaws3. Conditions: theirs. -/
import Derived.Test.YteldeiihjeddoaaDoorBuildLawsM7
import Derived.Test.YteldeiihjeddoaaDoorBuildLawsM6
namespace Go.Proofs.YteldeiihjeddoaaDoor
open Go.RowKit Go.Shelf
set_option maxHeartbeats 1000000 in
theorem equalI_same (p q : Option Addr) (n c d b1 b2 : Nat) (l : List Int) (w : World) (hP : Reads w b1 1 p n (iv l)) (hQ : Reads w b2 1 q n (iv l)) (hbig : n ≤ 17592186044416) :
    Calls Tryd.prog 32 #[.slice p n c, .slice q n d] w fun e w' => e = .returned (.bool true) ∧ ∃ k, w' = w.drewN k := by
  have HP := Lib.hid hP
  have HQ := Lib.hid hQ
  clear hP hQ
  go_enter Tryd.func32, Tryd.ntmps32
  go_wp2
  go_loopw [13] (fun i wr => ∃ k : Nat, k ≤ n ∧ i = .int .i64 k ∧ Hid (∃ m, wr = w.drewN m)) (fun i _ => n - (intOf i).toNat)
  case atStart => exact ⟨0, Nat.zero_le _, rfl, show ∃ m, w = w.drewN m from ⟨0, rfl⟩⟩
  case round =>
    obtain ⟨k, hk, rfl, HW⟩ := hrel
    by_cases hlt : k < n
    · obtain ⟨ad, rfl, _, hc⟩ := iv_at HP.out hlt
      obtain ⟨ae, rfl, _, hd⟩ := iv_at HQ.out hlt
      have hc' : wr.cell? (ad.add k) = some (.int .i64 (l.getD k 0)) := by obtain ⟨m, hm⟩ := HW.out; rw [hm]; exact hc
      have hd' : wr.cell? (ae.add k) = some (.int .i64 (l.getD k 0)) := by obtain ⟨m, hm⟩ := HW.out; rw [hm]; exact hd
      clear hc hd
      generalize l.getD k 0 = x at *
      have s3 : 0 ≤ (k : Int) := by omega
      have s4 : (k : Int) < n := by omega
      go_wp2
      go_quiet (fail)
      go_wp2
      go_roundw
      case rel => exact ⟨k + 1, by omega, by go_num, by
        obtain ⟨m, hm⟩ := HW.out
        exact ⟨_, by rw [hm, World.drewN_drewN]⟩⟩
      case measure => simp [intOf]; omega
    · obtain rfl : k = n := by omega
      go_wp2
      go_ret
      exact ⟨rfl, HW.out⟩
/-- a block of times: what was made, the room behind it let in -/
def BlockI (w : World) (b m : Nat) : Prop := ∃ cur, w.heap[b]? = some (.cells cur 2 (0, 0)) ∧ cur.size = m ∧ ∀ u ∈ cur.toList, isInt u
theorem BlockI.at_ {w : World} {b m j : Nat} (h : BlockI w b m) (hj : j < m) : (∃ z : Int, w.cell? ⟨b, j, none⟩ = some (.int .i64 z)) ∧ w.frozen? ⟨b, j, none⟩ = false := by
  obtain ⟨cur, h1, h2, h3⟩ := h
  have hjc : j < cur.size := by omega
  obtain ⟨z, hz⟩ := h3 cur[j] (by simp)
  refine ⟨⟨z, ?_⟩, ?_⟩
  · rw [← hz]
    simp [World.cell?, h1, hjc]
  · simp [World.frozen?, h1]
theorem BlockI.set {w : World} {b m j : Nat} {u : Value} (h : BlockI w b m) (hu : isInt u) : BlockI (w.setCell ⟨b, j, none⟩ u) b m := by
  obtain ⟨cur, h1, h2, h3⟩ := h
  refine ⟨cur.setIfInBounds j u, by simp [World.setCell, Array.getElem?_modify, h1], by simpa using h2, fun x hx => ?_⟩
  rw [Array.toList_setIfInBounds] at hx
  rcases List.mem_or_eq_of_mem_set hx with hx | rfl
  · exact h3 x hx
  · exact hu
/-- the block of a slice of the call's own -/
theorem block_of {w : World} {base n d : Nat} {q : Option Addr} {xs : List Value} (h : w.ownsRow base 2 1 (.slice q n d) n xs) (ha : AllC w (.slice q n d) isInt) :
    (q = none ∧ d = 0) ∨ ∃ b, q = some ⟨b, 0, none⟩ ∧ base ≤ b ∧ b < w.heap.size ∧ n ≤ d ∧ d ≤ maxLen ∧ BlockI w b d := by
  rcases h.2 with ⟨hv, _⟩ | ⟨g, cap, cur, hv, hb, hg, h1, h2, h3, _⟩
  · injection hv with e1 _ e3
    exact .inl ⟨e1, e3⟩
  · injection hv with e1 _ e3
    subst e1 e3
    obtain ⟨cur', t', fr', h4, h5⟩ := ha g rfl
    rw [hg] at h4
    injection h4 with h4
    injection h4 with h6 _ _
    subst h6
    exact .inr ⟨g, rfl, hb, (Array.getElem?_eq_some_iff.1 hg).1, h1, h2, cur, hg, by omega, h5⟩
set_option maxHeartbeats 8000000 in
set_option maxRecDepth 100000 in
theorem buildOwn_walk (v u : Value) (g : GD) (x : SD) (a : B) (now : Int) (w : World) (h : GrAt w v g) (hx : SnAt w u x) (hT : Tab w) :
    Calls Tryd.prog 10 #[v, u, .int .u64 (un a : Int), .int .i64 now] w fun e w' => e = .returned (.bool true) ∧ Below w.heap.size w w' := by
  have hGr := h
  have hSn := hx
  obtain ⟨p, n, c, q, m, d, rfl, hN, hE⟩ := h.at_
  obtain ⟨p2, n2, c2, rfl, hx1, hx2, hx3⟩ := hx.at_
  have hln := hN.at_.len
  have hlm := hE.len
  subst hln hlm hx1
  obtain ⟨W, hW, hBW, hS, hC⟩ := args2 w (.slice p g.names.length c) (.slice q g.edges.length d) (.int .u64 (un g.phony : Int)) (.int .u64 (un g.made : Int)) (.slice p2 x.at_.length c2) (.int .u64 (un x.dirty : Int))
  have HC := Lib.hid hC
  have HGr := Lib.hid (hGr.below hBW)
  have HSn := Lib.hid (hSn.below hBW)
  have HT := Lib.hid (hT.below hBW)
  have HXR : Hid (Reads W W.heap.size 1 p2 x.at_.length (iv x.at_)) := by show Reads _ _ _ _ _ _; exact (hx2.below hBW).more hBW.size
  have HFIN : Hid (∀ u, Below W.heap.size W u → Below w.heap.size w u) := by show ∀ u, _; exact fun u hu => hBW.trans (hu.mono (by omega))
  obtain ⟨k0, k1, k2, k3, k4, k5⟩ := HC.out W (Below.refl _ _)
  rw [hW] at k0 k1 k2 k3 k4 k5
  clear h hx hGr hSn hT hBW hS hC hx2 hN hE
  go_enter Tryd.func10, Tryd.ntmps10
  go_wp2_with fail
  rw [← hW]
  clear hW k0 k1 k2 k3 k4 k5
  refine (builds_below W HT.out).mono ?_
  rintro e w1 ⟨rfl, hb1⟩
  have HB1 := Lib.hid hb1
  obtain ⟨k0, k1, k2, k3, k4, k5⟩ := HC.out w1 hb1
  have HX1 : Hid (Reads w1 w1.heap.size 1 p2 x.at_.length (iv x.at_)) := by show Reads _ _ _ _ _ _; exact (HXR.out.below hb1).more hb1.size
  clear hb1
  go_wp2_with (go_at_call 31; refine (CloneI_any p2 x.at_.length c2 _ hx3 x.at_ w1 HX1.out).mono ?_; rintro e w2 ⟨gp, gc, rfl, ho2, ha2, hb2⟩; have HO2 := Lib.hid ho2; have HB12 := Lib.hid hb2; have HB2 := Lib.hid (HB1.out.trans (hb2.mono HB1.out.size)); clear ho2 ha2 hb2 k0 k1 k2 k3 k4 k5; obtain ⟨k0, k1, k2, k3, k4, k5⟩ := HC.out w2 HB2.out)
  refine (Run_ok _ _ g x a now w2 (HGr.out.below HB2.out) (HSn.out.below HB2.out) (HT.out.belowB (Tab.lt HT.out) HB2.out)).mono ?_
  rintro e w3 ⟨hcase, hb3⟩
  have HB23 := Lib.hid hb3
  clear hb3 k0 k1 k2 k3 k4 k5
  obtain ⟨rp, rn, rc, ap, an, ad, E, rfl, hsp⟩ : ∃ (rp : Option Addr) (rn rc : Nat) (ap : Option Addr) (an ad : Nat) (E : Int), e = .returned (.tuple #[.agg #[.slice rp rn rc, .slice ap an ad], .int .i64 E]) ∧ an ≤ ad ∧
      ((ap = none ∧ ad = 0) ∨ ∃ b, ap = some ⟨b, 0, none⟩ ∧ w2.heap.size ≤ b ∧ b < w3.heap.size ∧ ad ≤ maxLen ∧ BlockI w3 b ad) := by
    rcases hcase with ⟨s, o, pr, pa, cr, da, rfl, hR⟩ | ⟨_, E, _, rfl⟩
    · rcases block_of hR.at_ hR.all with ⟨h1, h2⟩ | ⟨b, h1, h2, h3, h4, h5, h6⟩
      · refine ⟨_, _, _, _, _, _, _, rfl, ?_, .inl ⟨h1, h2⟩⟩
        rcases hR.at_.2 with ⟨_, h3⟩ | ⟨g', cap', cur', hv, _, _, h4, _⟩
        · omega
        · injection hv with e1
          rw [h1] at e1
          cases e1
      · exact ⟨_, _, _, _, _, _, _, rfl, h4, .inr ⟨b, h1, h2, h3, h5, h6⟩⟩
    · exact ⟨none, 0, 0, none, 0, 0, E, rfl, Nat.le_refl _, .inl ⟨rfl, rfl⟩⟩
  clear hcase
  obtain ⟨hle, hsp⟩ := hsp
  have HSP := Lib.hid hsp
  clear hsp
  obtain ⟨X, hX, hXH, hXB, hXS⟩ := laid_made w3 (.slice rp rn rc) (.slice ap an ad)
  have HB2X : Hid (Below w2.heap.size w2 X) := by show Below _ _ _; exact HB23.out.trans (hXB.mono HB23.out.size)
  have HBX : Hid (Below W.heap.size W X) := by show Below _ _ _; exact HB2.out.trans (HB2X.out.mono HB2.out.size)
  have HX2 : Hid (∀ y, Below w2.heap.size w2 y → Reads y y.heap.size 1 p2 x.at_.length (iv x.at_) ∧ Reads y y.heap.size 1 gp x.at_.length (iv x.at_)) := by
    show ∀ y, _ → _
    intro y hy
    exact ⟨((HX1.out.below HB12.out).more HB12.out.size |>.below hy).more hy.size, ((Reads.of_own HO2.out).below hy).more hy.size⟩
  have HEQ : Hid (∀ y, Below w2.heap.size w2 y → Calls Tryd.prog 32 #[.slice p2 x.at_.length c2, .slice gp x.at_.length gc] y fun e w' => e = .returned (.bool true) ∧ ∃ k, w' = y.drewN k) := by
    show ∀ y, _ → _
    intro y hy
    obtain ⟨h1, h2⟩ := HX2.out y hy
    exact equalI_same _ _ _ _ _ _ _ x.at_ y h1 h2 hx3
  have HSX : Hid ((ap = none ∧ ad = 0) ∨ ∃ b, ap = some ⟨b, 0, none⟩ ∧ w2.heap.size ≤ b ∧ b < w3.heap.size ∧ ad ≤ maxLen ∧ BlockI X b ad) := by
    show _ ∨ _
    rcases HSP.out with h | ⟨b, h1, h2, h3, h4, cur, h5, h6⟩
    · exact .inl h
    · exact .inr ⟨b, h1, h2, h3, h4, cur, (hXB.block b h3).trans h5, h6⟩
  have HXZ := Lib.hid hXH
  obtain ⟨k0, k1, k2, k3, k4, k5⟩ := HC.out X HBX.out
  obtain ⟨z0, z1, _, _⟩ := bx2 hXH
  clear hXB hXS hXH
  go_upto_region 5 with fail
  rw [← hX]
  clear hX
  rcases HSX.out with ⟨rfl, rfl⟩ | ⟨b, rfl, hb1, hb2, hb3, hbi⟩
  · obtain rfl : an = 0 := by omega
    go_wp2_with (go_at_call 32; refine (HEQ.out X HB2X.out).mono ?_; rintro e w4 ⟨rfl, kd, hw4⟩; have HW4 := Lib.hid hw4; clear hw4; have z0' : w4.cell? ⟨w3.heap.size, 0, none⟩ = some (.slice rp rn rc) := (by rw [HW4.out]; exact z0); have z1' : w4.cell? ⟨w3.heap.size, 1, none⟩ = some (.slice none 0 0) := (by rw [HW4.out]; exact z1))
    have HB4 : Hid (Below w2.heap.size w2 w4) := by show Below _ _ _; rw [HW4.out]; exact below_drawsP HB2X.out _
    have HBW4 : Hid (Below W.heap.size W w4) := by show Below _ _ _; exact HB2.out.trans (HB4.out.mono HB2.out.size)
    clear k0 k1 k2 k3 k4 k5
    obtain ⟨k0, k1, k2, k3, k4, k5⟩ := HC.out w4 HBW4.out
    go_loop [40] (fun i => i = .int .i64 0) (fun _ => 0)
    case atStart => exact rfl
    case round =>
      obtain rfl := hrel
      go_wp2_with (go_at_call 32; refine (HEQ.out w4 HB4.out).mono ?_; rintro e w5 ⟨rfl, kd5, hw5⟩; have HW5 := Lib.hid hw5; clear hw5)
      go_ret
      exact ⟨by simp, HFIN.out _ (by rw [HW5.out]; exact below_drawsP HBW4.out _)⟩
  · have HBI0 := Lib.hid hbi
    unfold maxLen at hb3
    clear hbi
    go_wp2_with (go_at_call 32; refine (HEQ.out X HB2X.out).mono ?_; rintro e w4 ⟨rfl, kd, hw4⟩; have HW4 := Lib.hid hw4; clear hw4; have z0' : w4.cell? ⟨w3.heap.size, 0, none⟩ = some (.slice rp rn rc) := (by rw [HW4.out]; exact z0); have z1' : w4.cell? ⟨w3.heap.size, 1, none⟩ = some (.slice (some ⟨b, 0, none⟩) an ad) := (by rw [HW4.out]; exact z1))
    have HB4 : Hid (Below w2.heap.size w2 w4) := by show Below _ _ _; rw [HW4.out]; exact below_drawsP HB2X.out _
    have HBI4 : Hid (BlockI w4 b ad) := by show BlockI _ _ _; rw [HW4.out]; exact HBI0.out
    clear k0 k1 k2 k3 k4 k5 z0 z1 z0' z1' HBI0
    go_loopg [40] ad (fun k i wr => ∃ j : Nat, k + j = ad ∧ i = .int .i64 j ∧ Hid (BlockI wr b ad) ∧ Hid (Below w2.heap.size w2 wr))
    case atStart => exact ⟨0, by omega, rfl, HBI4, HB4⟩
    case round =>
      obtain ⟨j, hj, rfl, HBI, HBr⟩ := hrel
      by_cases hlt : j < ad
      · obtain ⟨⟨z, hz⟩, hf⟩ := HBI.out.at_ hlt
        have hji : (j : Int) < (ad : Int) := by omega
        go_wp2
        go_roundg (ad - (j + 1))
        case measure => omega
        case rel => exact ⟨j + 1, by omega, by go_num, HBI.out.set ⟨_, rfl⟩, HBr.out.setCell hb1 _⟩
      · have HJE : Hid (j = ad) := by show j = ad; omega
        have HBWr : Hid (Below W.heap.size W wr) := by show Below _ _ _; exact HB2.out.trans (HBr.out.mono HB2.out.size)
        obtain ⟨k0, k1, k2, k3, k4, k5⟩ := HC.out wr HBWr.out
        go_wp2_with (go_at_call 32; refine (HEQ.out wr HBr.out).mono ?_; rintro e w5 ⟨rfl, kd5, hw5⟩; have HW5 := Lib.hid hw5; clear hw5)
        go_ret
        exact ⟨by simp, HFIN.out _ (by rw [HW5.out]; exact below_drawsP HBWr.out _)⟩
end Go.Proofs.YteldeiihjeddoaaDoor
namespace Go.Proofs.YteldeiihjeddoaaDoor
open Go.RowKit
theorem buildOwn_law (v u : Value) (a now : Int) (ha : (Lit.int .u64 a).wf = true) (w : World) (hT : Tab w) (h : ∃ g, GrAt w v g) (hx : ∃ x, SnAt w u x) :
    Calls Tryd.prog 10 #[v, u, .int .u64 a, .int .i64 now] w fun e w' => e = .returned (.bool true) ∧ Below w.heap.size w w' := by
  obtain ⟨g, hg⟩ := h
  obtain ⟨x, hx⟩ := hx
  obtain ⟨s, rfl⟩ := un_of ha
  exact buildOwn_walk v u g x s now w hg hx hT
end Go.Proofs.YteldeiihjeddoaaDoor
