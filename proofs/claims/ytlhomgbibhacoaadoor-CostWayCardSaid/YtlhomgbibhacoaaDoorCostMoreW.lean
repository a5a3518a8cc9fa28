/- The law CostMore walked. Conditions: the arguments read as listed. -/
import Derived.Test.YtlhomgbibhacoaaDoorCostLawW
import Derived.BigQuiet
import Derived.Deep.QuietTactic
namespace Go.Proofs.YtlhomgbibhacoaaDoor
open Go.RowKit
def maxB (x y : B) : B := if un x ≤ un y then y else x
theorem un_maxB (x y : B) : un (maxB x y) = max (un x) (un y) := by unfold maxB; split <;> omega
theorem flts_set (l : List B) (k : Nat) (x : B) : (flts l).set k (.float .f64 (un x)) = flts (l.set k x) := by unfold flts; rw [List.map_set]
theorem uns_getD (l : List B) (k : Nat) : (uns l).getD k 0 = un (l.getD k 0#64) := by
  unfold uns
  rw [List.getD_eq_getElem?_getD, List.getD_eq_getElem?_getD, List.getElem?_map]
  cases l[k]? <;> rfl
/-- longer times are right, too -/
theorem good_longer {r : List B} {l : List B} {k : Nat} {x : B} (h : GoodC r (uns l)) (hk : k < l.length) (hx : un x ≤ INF) : GoodC r (uns (l.set k (maxB (l.getD k 0#64) x))) ∧ ∀ n, (uns l).getD n 0 ≤ (uns (l.set k (maxB (l.getD k 0#64) x))).getD n 0 := by
  have hm : un (maxB (l.getD k 0#64) x) ≤ INF := by
    rw [un_maxB]
    have := good_getD h.2.2.1 k
    rw [uns_getD] at this
    omega
  refine ⟨⟨h.1, by rw [uns_len, List.length_set, ← h.2.1, uns_len], uns_le fun y hy => ?_, h.2.2.2⟩, fun n => ?_⟩
  · rcases List.mem_or_eq_of_mem_set hy with h1 | h1
    · exact h.2.2.1 _ (List.mem_map_of_mem h1)
    · rw [h1]; exact hm
  · rw [uns_getD, uns_getD, List.getD_eq_getElem?_getD, List.getD_eq_getElem?_getD, List.getElem?_set]
    by_cases hn : k = n
    · subst hn
      rw [if_pos rfl, if_pos hk]
      show _ ≤ un (maxB _ x)
      rw [un_maxB, List.getD_eq_getElem?_getD]
      omega
    · rw [if_neg hn]; exact Nat.le_refl _
theorem good_zeros {r : List B} {D : List Nat} (h : GoodC r D) (n : Nat) (hn : n = r.length) : GoodC r (uns (List.replicate n 0#64)) :=
  ⟨h.1, by rw [uns_len, List.length_replicate, hn], uns_le fun y hy => by
    rw [List.eq_of_mem_replicate hy]; exact Nat.zero_le _, h.2.2.2⟩
theorem zeros_getD (n k : Nat) : (uns (List.replicate n 0#64)).getD k 0 = 0 := by
  rw [uns_getD, List.getD_eq_getElem?_getD, List.getElem?_replicate]
  split <;> rfl
theorem made_zero_fl (n : Nat) : (madeCells (Value.float .f64 0).cells (n * 1)).toList = flts (List.replicate n 0#64) := by
  rw [made_zero_f, flts_fv]
  unfold fv; rw [List.map_replicate, List.map_replicate, List.map_replicate]; rfl
/-- what the law asks of the greatest ones -/
theorem most_le {r : List B} {T T' : List Nat} {y y' : B} (hT : ∀ n, T'.getD n 0 ≤ INF) (hle : ∀ n, n < r.length → T.getD n 0 ≤ T'.getD n 0)
    (h : (r.length = 0 ∧ y = 0#64) ∨ ((∀ n, T.getD n 0 ≤ un y) ∧ ∃ n, n < r.length ∧ un y = T.getD n 0))
    (h' : (r.length = 0 ∧ y' = 0#64) ∨ ((∀ n, T'.getD n 0 ≤ un y') ∧ ∃ n, n < r.length ∧ un y' = T'.getD n 0)) : un y' ≤ INF ∧ ordN (un y) (un y') ≤ 0 := by
  have hy' : un y' ≤ INF := by
    rcases h' with ⟨_, rfl⟩ | ⟨_, n, _, h2⟩
    · exact Nat.zero_le _
    · rw [h2]; exact hT n
  refine ⟨hy', ord_le_of hy' ?_⟩
  rcases h with ⟨_, rfl⟩ | ⟨_, n, hn, h2⟩
  · exact Nat.zero_le _
  · rcases h' with ⟨h3, _⟩ | ⟨h3, _⟩
    · omega
    · rw [h2]; exact Nat.le_trans (hle n hn) (h3 n)
theorem most_zero {r : List B} {T : List Nat} {y : B} (hz : ∀ n, n < r.length → T.getD n 0 = 0)
    (h : (r.length = 0 ∧ y = 0#64) ∨ ((∀ n, T.getD n 0 ≤ un y) ∧ ∃ n, n < r.length ∧ un y = T.getD n 0)) : (ordN (un y) 0 == 0) = true := by
  have hy : un y = 0 := by
    rcases h with ⟨_, rfl⟩ | ⟨_, n, hn, h2⟩
    · rfl
    · rw [h2]; exact hz n hn
  rw [hy]
  have : ordN 0 0 = 0 := (ord_zero (by omega) (by omega)).2 rfl
  rw [this]; rfl
theorem allOk_00 : allOk [0, 0] = true := by decide
theorem spord_quiet {a b : Nat} {w : World} {k : Nat} (ha : W64 a) (hb : W64 b) : Calls Tryd.prog 15 #[.float .f64 a, .float .f64 b] (w.drewN k) fun e w' => e = .returned (.int .i64 (ordN a b)) ∧ ∃ m, w' = w.drewN m :=
  (spord_any ha hb _).mono fun _ _ ⟨h1, h2⟩ => ⟨h1, k, h2.symm⟩
set_option maxRecDepth 100000 in
set_option maxHeartbeats 4000000 in
theorem costMore_walk (p : Option Addr) (n c : Nat) (r : List B) (q : Option Addr) (m cq : Nat) (l : List B) (a : Int) (more : B) (w : World) (hR : RowsAt w p n r) (hD : FltsAt w q m l) (hT : Tab w) :
    Calls Tryd.prog 4 #[.slice p n c, .slice q m cq, .int .i64 a, .float .f64 (un more)] w fun e w' => e = .returned (.bool true) ∧ Below w.heap.size w w' := by
  have hl := hR.len
  subst hl
  have hm := hD.len
  subst hm
  have hbig := hD.big
  go_enter Tryd.func4, Tryd.ntmps4
  go_wp2_with fail
  refine (costs_below _ hT).mono ?_
  rintro e w1 ⟨rfl, hb1⟩
  have hR1 := hR.below hb1
  have hD1 := hD.below hb1
  have hT1 := hT.below hb1
  clear hR hD hT
  go_wp2_with fail
  refine (Times_ok p _ c r q _ cq l w1 hR1 hD1 hT1).mono ?_
  rintro e w2 (⟨T, g, cg, o, y, rfl, hG, hO, hS, hown, hy, hb2⟩ | ⟨k, rfl, hk, hN, hb2⟩)
  · have HG := Lib.hid hG
    have HO := Lib.hid hO
    have HS := Lib.hid hS
    have HY := Lib.hid hy
    have hR2 := hR1.below hb2
    have hD2 := hD1.below hb2
    have hT2 := hT1.below hb2
    have hb12 := below_next hb1 hb2
    have hlen : l.length = r.length := by have := hG.2.1; rw [uns_len] at this; exact this
    have HLEN := Lib.hid hlen
    clear hG hO hS hy hR1 hD1 hT1 hb1 hb2 hlen
    by_cases hcs : 0 ≤ a ∧ a < l.length ∧ rightN (un more) = true
    · obtain ⟨ha0, hal, hrt⟩ := hcs
      obtain ⟨a, rfl⟩ := Int.eq_ofNat_of_zero_le ha0
      have hal' : a < l.length := by omega
      have HRT := Lib.hid hrt
      have HMI := Lib.hid ((rightN_iff _).1 hrt)
      clear hrt
      go_wp2_with (go_at_call 13; refine (right_ok _ _).mono ?_; rintro e w' ⟨rfl, rfl⟩; rw [HRT.out])
      refine (clone_ok l q _ cq w2 hD2).mono ?_
      rintro e w3 ⟨⟨g3, cg3, rfl, hown3⟩, hb3⟩
      obtain ⟨b3, cap3, hv3, _, hlt3⟩ := hown3.form (by omega)
      injection hv3 with hv3 _ hc3
      subst hv3 hc3
      have hc := hown3.cellAt a (by omega)
      have hgd := good_longer HG.out hal' HMI.out
      have hI0 := good_getD HG.out.2.2.1 a
      rw [uns_getD] at hI0
      have hc' : w3.cell? ⟨b3, a, none⟩ = some (.float .f64 (un (l.getD a 0#64))) := by
        rw [hc]
        unfold flts
        rw [List.getElem?_map, List.getD_eq_getElem?_getD, List.getElem?_eq_getElem hal']
        rfl
      have hst := hown3.stored a (.float .f64 (un (maxB (l.getD a 0#64) more)))
      rw [flts_set] at hst
      have hfr := hown3.frozenAt a
      have hmx := run_maxf #[22, 22] 22 (un (l.getD a 0#64)) (un more) hI0 HMI.out w3
      rw [← un_maxB] at hmx
      have hl2 : (l.set a (maxB (l.getD a 0#64) more)).length = l.length := List.length_set ..
      have HST := Lib.hid hst
      have HGD := Lib.hid hgd
      have HL2 := Lib.hid hl2
      have hs3 := hown3.lt b3 rfl
      have HB4 := Lib.hid (hb3.setCell (p := ⟨b3, a, none⟩) hs3.1 (.float .f64 (un (maxB (l.getD a 0#64) more))))
      have HR2 := Lib.hid hR2
      have HD2 := Lib.hid hD2
      have HT2 := Lib.hid hT2
      have HW2 := Lib.hid hown
      have HB12 := Lib.hid hb12
      clear hc hst hgd hI0 hown3 hl2 hR2 hD2 hT2 hown hb12 hb3
      generalize l.set a (maxB (l.getD a 0#64) more) = l2 at *
      generalize maxB (l.getD a 0#64) more = mb at *
      generalize l.getD a 0#64 = old at *
      have hF4 : Hid (FltsAt (w3.setCell ⟨b3, a, none⟩ (.float .f64 (un mb))) (some ⟨b3, 0, none⟩) l.length l2) := Lib.hid ⟨(Reads.of_own HST.out.1), HL2.out, hbig⟩
      go_wp2_with fail
      refine (Times_ok p _ c r _ _ cg3 l2 _ (HR2.out.below HB4.out) hF4.out (HT2.out.below HB4.out)).mono ?_
      clear hc' hfr hmx
      generalize w3.setCell ⟨b3, a, none⟩ (.float .f64 (un mb)) = w4 at *
      rintro e w5 (⟨T2, g5, cg5, o5, y2, rfl, _, _, hS2, hown5, hy2, hb5⟩ | ⟨k, rfl, hk, hN, hb5⟩)
      · have HS2 := Lib.hid hS2
        have HY2 := Lib.hid hy2
        have HW5 := Lib.hid hown5
        have HB25 := Lib.hid (below_next HB4.out hb5)
        have HB45 := Lib.hid hb5
        clear hS2 hy2 hown5 hb5
        obtain ⟨i0, hi, hz0, hz1, hz2⟩ := info_parts info_f64
        go_wp2_with (at_make; refine wpList_make_full _ rfl _ _ 32 rfl w5.heap.size 22 i0 (.float .f64 0) 1 Tryd.underlying32 hi hz0 hz1 .i64 .i64 (l.length : Int) (l.length : Int) l.length rfl rfl rfl rfl ?b2 ?b3 (Nat.le_refl _) ?_; rotate_right; intro w6 hown6 hgrow6; have HW6 := Lib.hid hown6; have HB56 := Lib.hid ((Below.refl w5.heap.size w5).grown hgrow6 (Nat.le_refl _) (fun k hk => by cases hk)); clear hown6 hgrow6)
        case b2 => rw [hz2]; omega
        case b3 => unfold maxLen; omega
        rw [made_zero_fl] at HW6
        have hF6 : Hid (FltsAt w6 (some ⟨w5.heap.size, 0, none⟩) l.length (List.replicate l.length 0#64)) := Lib.hid ⟨(Reads.of_own HW6.out), List.length_replicate, hbig⟩
        have HB26 := Lib.hid (below_next HB25.out HB56.out)
        refine (Times_ok p _ c r _ _ _ (List.replicate l.length 0#64) _ (HR2.out.below HB26.out) hF6.out (HT2.out.below HB26.out)).mono ?_
        rintro e w7 (⟨T3, g7, cg7, o7, y3, rfl, _, _, hS3, _, hy3, hb7⟩ | ⟨k, rfl, hk, hN, hb7⟩)
        · have HZ := Lib.hid (most_zero (sol_zero HO.out hS3 (fun n => zeros_getD _ n)) hy3)
          have hTT := sol_mono HO.out HS.out HS2.out HGD.out.2 (good_getD HGD.out.1.2.2.1)
          have HTT := Lib.hid hTT
          have HML := Lib.hid (most_le HS2.out.le hTT HY.out HY2.out)
          have HB27 := Lib.hid (below_next HB26.out hb7)
          have HB57 := Lib.hid (below_next HB56.out hb7)
          have hown2 := own_below HW2.out HB27.out
          have hown5 := own_below HW5.out HB57.out
          have h64 := (chkR_zero.1 HG.out.1).1
          clear hS3 hy3 hTT hb7
          go_wp2
          go_loopw [82] (fun i wr => ∃ k : Nat, k ≤ r.length ∧ i = .int .i64 k ∧ Hid (∃ m, wr = w7.drewN m)) (fun i _ => r.length - (intOf i).toNat)
          case atStart => exact ⟨0, Nat.zero_le _, rfl, show ∃ m, w7 = w7.drewN m from ⟨0, rfl⟩⟩
          case round =>
            obtain ⟨k, hk, rfl, HW⟩ := hrel
            obtain ⟨wo, rfl⟩ : ∃ wo : World, wo = wr := ⟨_, rfl⟩
            by_cases hlt : k < r.length
            · obtain ⟨ad1, rfl, _, hc1⟩ := f_at (Reads.of_own hown2) hlt
              obtain ⟨ad2, rfl, _, hc2⟩ := f_at (Reads.of_own hown5) hlt
              have hc1' : wo.cell? (ad1.add k) = some (.float .f64 (T.getD k 0)) := by obtain ⟨m, hm⟩ := HW.out; rw [hm]; exact hc1
              have hc2' : wo.cell? (ad2.add k) = some (.float .f64 (T2.getD k 0)) := by obtain ⟨m, hm⟩ := HW.out; rw [hm]; exact hc2
              have hle := ord_le_of (HS2.out.le k) (HTT.out k hlt)
              have hle2 : decide (0 < ordN (T.getD k 0) (T2.getD k 0)) = false := decide_eq_false (by omega)
              have W1 := Lib.hid (W64.of (HS.out.le k))
              have W2 := Lib.hid (W64.of (HS2.out.le k))
              have hd2 : decide ((r.length : Int) ≤ (k : Int)) = false := decide_eq_false (by omega)
              have hd3 : decide (r.length ≤ k) = false := decide_eq_false (by omega)
              clear hc1 hc2 hown2 hown5
              generalize T.getD k 0 = x1 at *
              generalize T2.getD k 0 = x2 at *
              go_wp2
              go_quiet ((go_at_call 15; exact spord_quiet W1.out W2.out))
              go_wp2
              go_roundw
              case rel => exact ⟨k + 1, by omega, by go_num, by
                obtain ⟨m, hm⟩ := HW.out
                exact ⟨_, by rw [hm, World.drewN_drewN]⟩⟩
              case measure => simp [intOf]; omega
            · obtain rfl : k = r.length := by omega
              clear hown2 hown5
              have hm0 := HML.out.2
              have hz0 := HZ.out
              go_wp2_with (first | (go_at_call 16; refine (goodB2 _ _ _).mono ?_; rintro e w8 ⟨rfl, hb8⟩; rw [allOk_00]) | (go_at_call 15; refine (spord_any (by first | exact W64.un _ | exact W64.zero) (by first | exact W64.un _ | exact W64.zero) _).mono ?_; rintro e w' ⟨rfl, rfl⟩))
              go_ret
              have hbw : Below w.heap.size w wo := by obtain ⟨m, hm⟩ := HW.out; rw [hm]; exact below_draws (below_next HB12.out HB27.out) m
              exact ⟨rfl, below_next hbw hb8⟩
        · exact absurd (good_zeros HG.out l.length HLEN.out) hN
      · exact absurd HGD.out.1 hN
    · have hc2 : a < 0 ∨ (0 ≤ a ∧ (l.length : Int) ≤ a) ∨ (0 ≤ a ∧ a < l.length ∧ rightN (un more) = false) := by
        by_cases g1 : a < 0
        · exact .inl g1
        · by_cases g2 : (l.length : Int) ≤ a
          · exact .inr (.inl ⟨by omega, g2⟩)
          · refine .inr (.inr ⟨by omega, by omega, ?_⟩)
            rw [Bool.eq_false_iff]
            intro g3
            exact hcs ⟨by omega, by omega, g3⟩
      clear hcs hR2 hD2 hT2 hown
      rcases hc2 with h1 | ⟨h1, h2⟩ | ⟨h1, h2, h3⟩
      · go_wp2
        go_ret
        exact ⟨rfl, hb12⟩
      · go_wp2
        go_ret
        exact ⟨rfl, hb12⟩
      · have H3 := Lib.hid h3
        clear h3
        go_wp2_with (go_at_call 13; refine (right_ok _ _).mono ?_; rintro e w' ⟨rfl, rfl⟩; rw [H3.out])
        go_ret
        exact ⟨rfl, hb12⟩
  · obtain ⟨h1, h2⟩ := int_ne hk.1
    have hb12 := below_next hb1 hb2
    clear hk hN hR1 hD1 hT1
    go_wp2
    go_ret
    exact ⟨rfl, hb12⟩
end Go.Proofs.YtlhomgbibhacoaaDoor
