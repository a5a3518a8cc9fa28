/- The law CostWay walked. Conditions: the arguments read as listed. -/
import Derived.Test.YtlhomgbibhacoaaDoorCostWay2W
namespace Go.Proofs.YtlhomgbibhacoaaDoor
open Go.RowKit
/-- the sum so far is the time of the number that the way has come to -/
def SumW (T W : List Nat) (k : Nat) (ls : List B) : Prop := ls.length = k ∧ (∀ x ∈ ls, un x ≤ INF) ∧ (k = 0 ∨ sumN ls = T.getD (W.getD (k - 1) 0) 0) ∧ (k = 0 → ls = [])
theorem sumW_next {r : List B} {D T W : List Nat} {k : Nat} {ls : List B} {x : B} (hD : ∀ n, D.getD n 0 ≤ INF) (hC : CWay r D T W) (hk : k < W.length) (h : SumW T W k ls) (hx : un x = D.getD (W.getD k 0) 0) : SumW T W (k + 1) (ls ++ [x]) := by
  obtain ⟨h1, h2, h3, h4⟩ := h
  refine ⟨by simp [h1], fun y hy => ?_, .inr ?_, fun h => by omega⟩
  · rcases List.mem_append.1 hy with hy | hy
    · exact h2 y hy
    · rw [List.mem_singleton.1 hy, hx]; exact hD _
  · rw [sumN_snoc, hx, Nat.add_sub_cancel]
    rcases Nat.eq_zero_or_pos k with h0 | h0
    · subst h0
      rw [h4 rfl, sumN_nil, zero_plus (hD _), hC.sum0 hk]
    · rcases h3 with h3 | h3
      · omega
      · rw [h3, hC.sum k h0 hk]
theorem sumW_most {r : List B} {D T W : List Nat} {ls : List B} {y : B} (hC : CWay r D T W) (h : SumW T W W.length ls) (hy : (r.length = 0 ∧ y = 0#64) ∨ ((∀ n, T.getD n 0 ≤ un y) ∧ ∃ n, n < r.length ∧ un y = T.getD n 0)) :
    (ordN (sumN ls) (un y) == 0) = true := by
  have he : sumN ls = un y := by
    rcases hy with ⟨h1, rfl⟩ | ⟨h1, n, hn, h2⟩
    · have h0 := hC.empty.2 h1
      rw [h.2.2.2 h0, sumN_nil]; rfl
    · have h0 : 0 < W.length := by
        rcases Nat.eq_zero_or_pos W.length with h3 | h3
        · have := hC.empty.1 h3; omega
        · exact h3
      rcases h.2.2.1 with h3 | h3
      · omega
      · rw [h3]
        have h5 := hC.top h0 n hn
        rw [← h2] at h5
        exact Nat.le_antisymm (h1 _) h5
  rw [he]
  have : ordN (un y) (un y) = 0 := (ord_zero (un_lt y) (un_lt y)).2 rfl
  rw [this]; rfl
theorem sol_uniq {r : List B} {o D T T' : List Nat} (hO : KOrd r o 0#64) (h : Sol r D T) (h' : Sol r D T') : ∀ n, T.getD n 0 = T'.getD n 0 := by
  intro n
  rcases Nat.lt_or_ge n r.length with hn | hn
  · refine order_ind hO (P := fun n => T.getD n 0 = T'.getD n 0) (fun n hn ih => ?_) n hn
    rw [h.eq n hn, h'.eq n hn, mxk_congr fun k hk => ih k (mem_lst.1 hk)]
  · rw [List.getD_eq_getElem?_getD, List.getD_eq_getElem?_getD, List.getElem?_eq_none (by rw [h.len]; exact hn), List.getElem?_eq_none (by rw [h'.len]; exact hn)]
theorem cway_T {r : List B} {D T T' W : List Nat} (he : ∀ n, T.getD n 0 = T'.getD n 0) (h : CWay r D T W) : CWay r D T' W :=
  ⟨h.lt, h.edge, fun h0 => by rw [← he]; exact h.sum0 h0, fun i h0 hi => by rw [← he, ← he]; exact h.sum i h0 hi, fun h0 k hk => by rw [← he, ← he]; exact h.top h0 k hk, h.empty⟩
set_option maxRecDepth 100000 in
set_option maxHeartbeats 4000000 in
theorem costWay_walk (p : Option Addr) (n c : Nat) (r : List B) (q : Option Addr) (m cq : Nat) (l : List B) (w : World) (hR : RowsAt w p n r) (hD : FltsAt w q m l) (hT : Tab w) :
    Calls Tryd.prog 6 #[.slice p n c, .slice q m cq] w fun e w' => e = .returned (.bool true) ∧ Below w.heap.size w w' := by
  have hl := hR.len
  subst hl
  have hm := hD.len
  subst hm
  have hbig := hD.big
  go_enter Tryd.func6, Tryd.ntmps6
  go_wp2_with fail
  refine (costs_below _ hT).mono ?_
  rintro e w1 ⟨rfl, hb1⟩
  have hR1 := hR.below hb1
  have hD1 := hD.below hb1
  have hT1 := hT.below hb1
  clear hR hD hT
  go_wp2_with fail
  refine (Times_ok p _ c r q _ cq l w1 hR1 hD1 hT1).mono ?_
  rintro e w2 (⟨T, g, cg, o, y, rfl, hG, hO, hS, hown, hy, hb2⟩ | ⟨k, rfl, hk, hN, hb2⟩)
  · have HG := Lib.hid hG
    have HO := Lib.hid hO
    have HS := Lib.hid hS
    have HY := Lib.hid hy
    have HR := Lib.hid (hR1.below hb2)
    have HD := Lib.hid (hD1.below hb2)
    have HTb := Lib.hid (hT1.below hb2)
    have HB12 := Lib.hid (below_next hb1 hb2)
    have HLEN : Hid (l.length = r.length) := Lib.hid (by have := hG.2.1; rw [uns_len] at this; exact this)
    have h64 := (chkR_zero.1 hG.1).1
    have HDI := Lib.hid (good_getD hG.2.2.1)
    clear hG hO hS hy hR1 hD1 hT1 hb1 hb2 hown
    go_wp2_with fail
    refine (Way_ok p _ c r q _ cq l w2 HR.out HD.out HTb.out).mono ?_
    rintro e w3 (⟨W, g3, cg3, T3, rfl, hG3, hS3, hC3, hW64, hown3, hb3⟩ | ⟨k, rfl, hk, hN, hb3⟩)
    · have HC := Lib.hid (cway_T (sol_uniq HO.out hS3 HS.out) hC3)
      have HOW := Lib.hid hown3
      have HB23 := Lib.hid hb3
      have HB13 := Lib.hid (below_next HB12.out hb3)
      clear hG3 hS3 hC3 hown3 hb3
      go_wp2
      go_loopw [10, 48] (fun v i wr => ∃ (k : Nat) (ls : List B), k ≤ W.length ∧ i = .int .i64 k ∧ Hid (SumW T W k ls) ∧ wr.ownsRow w3.heap.size 22 1 v k (flts ls) ∧ Below w3.heap.size w3 wr) (fun _ i _ => W.length - (intOf i).toNat)
      case atStart => exact ⟨0, [], Nat.zero_le _, rfl, ⟨rfl, (fun x hx => by cases hx), .inl rfl, fun _ => rfl⟩, World.ownsRow_nil _ _ _ _, Below.refl _ _⟩
      case round =>
        obtain ⟨k, ls, hk2, rfl, HSW, hownv, hbr⟩ := hrel
        obtain ⟨wp, rfl⟩ : ∃ wp : World, wp = wr := ⟨_, rfl⟩
        obtain ⟨gv, cv, rfl⟩ := f64_own hownv
        have HOV := Lib.hid hownv
        have HBP := Lib.hid hbr
        have HB2 := Lib.hid (below_next HB23.out hbr)
        clear hownv hbr
        by_cases hlt : k < W.length
        · obtain ⟨adz, rfl, _, hc⟩ := (Reads.of_own (own_below HOW.out HBP.out)).int_at hlt
          have hzl := HC.out.lt k hlt
          have hzl2 : W.getD k 0 < l.length := by rw [HLEN.out]; exact hzl
          obtain ⟨add, rfl, _, hcd⟩ := (HD.out.below HB2.out).cell hzl2
          have HN : Hid (SumW T W (k + 1) (ls ++ [l.getD (W.getD k 0) 0#64])) := Lib.hid (sumW_next HDI.out HC.out hlt HSW.out (uns_getD l _).symm)
          have HE : Hid (0 < k → has (row r (W.getD k 0)) (W.getD (k - 1) 0) = true) := Lib.hid (fun h0 => HC.out.edge k h0 hlt)
          have HC1 : Hid (0 < k → wp.cell? (adz.add (k - 1)) = some (.int .i64 (W.getD (k - 1) 0 : Int))) := Lib.hid (fun h0 => by
            obtain ⟨ad', had, _, hd0⟩ := (Reads.of_own (own_below HOW.out HBP.out)).int_at (k := k - 1) (by omega)
            injection had with had
            subst had
            exact hd0)
          obtain ⟨adr, rfl, _, hcr⟩ := (HR.out.below HB2.out).cell hzl
          generalize l.getD (W.getD k 0) 0#64 = dz at *
          generalize W.getD k 0 = z at *
          generalize W.getD (k - 1) 0 = v at *
          have hd1 : decide ((z : Int) < 0) = false := by simp
          have hd2 : decide ((r.length : Int) ≤ (z : Int)) = false := decide_eq_false (by omega)
          have hd3 : decide (r.length ≤ z) = false := decide_eq_false (by omega)
          by_cases hk0 : k = 0
          · subst hk0
            have hcz : wp.cell? adz = some (.int .i64 (z : Int)) := by simpa [Addr.add] using hc
            clear hcr
            go_wp2
            go_quiet (fail)
            have hown9 := (own_drewN HOV.out nq).alloc (.cells #[.float .f64 (un dz)] 22)
            have H9 := Lib.hid (app_ready (w := wp.drewN nq) dz (show w3.heap.size ≤ (wp.drewN nq).heap.size from HBP.out.size) (below_draws HBP.out nq))
            go_wp2_with (at_builtin; refine app_f64 ((wp.drewN nq).alloc (.cells #[.float .f64 (un dz)] 22)) rfl (.tmp 78) (.tmp 83) rfl w3.heap.size (.slice gv 0 cv) 0 ls rfl hown9 ⟨wp.heap.size, 0, none⟩ 1 1 [dz] rfl rfl H9.out.1 (by omega) H9.out.2.1 ?_; intro v' w5 h1 h2; have HG5 := Lib.hid h2; have HV := Lib.hid h1; clear h1 h2)
            have HB5 := H9.out.2.2.grown HG5.out H9.out.2.1 (fun k hk => (HOV.out.lt k hk).1)
            refine ⟨⟨0 + 1, ls ++ [dz], by omega, by first | rfl | go_num, HN.out, HV.out, HB5⟩, ?_⟩
            simp [intOf]; omega
          · have hc1 := HC1.out (by omega)
            have hI : hasI (row r z) (v : Int) = true := by unfold hasI; rw [Int.toNat_natCast, HE.out (by omega)]; simp
            have HI := Lib.hid hI
            have hd4 : decide (0 < (k : Int)) = true := decide_eq_true (by omega)
            have hd5 : decide (0 < k) = true := decide_eq_true (by omega)
            have s1 : IntKind.i64.wrap ((k : Int) - 1) = (k : Int) - 1 := IntWalk.i64_in _ (by omega)
            have s2 : ((k : Int) - 1).toNat = k - 1 := by omega
            have s3 : 0 ≤ (k : Int) - 1 := by omega
            clear hI HE HC1
            generalize row r z = x at *
            go_wp2
            go_quiet ((go_at_call 18; exact has_quiet HI.out))
            have hown9 := (own_drewN HOV.out nq).alloc (.cells #[.float .f64 (un dz)] 22)
            have H9 := Lib.hid (app_ready (w := wp.drewN nq) dz (show w3.heap.size ≤ (wp.drewN nq).heap.size from HBP.out.size) (below_draws HBP.out nq))
            go_wp2_with (at_builtin; refine app_f64 ((wp.drewN nq).alloc (.cells #[.float .f64 (un dz)] 22)) rfl (.tmp 78) (.tmp 83) rfl w3.heap.size (.slice gv k cv) k ls rfl hown9 ⟨wp.heap.size, 0, none⟩ 1 1 [dz] rfl rfl H9.out.1 (by omega) H9.out.2.1 ?_; intro v' w5 h1 h2; have HG5 := Lib.hid h2; have HV := Lib.hid h1; clear h1 h2)
            have HB5 := H9.out.2.2.grown HG5.out H9.out.2.1 (fun k hk => (HOV.out.lt k hk).1)
            refine ⟨⟨k + 1, ls ++ [dz], by omega, by first | rfl | go_num, HN.out, HV.out, HB5⟩, ?_⟩
            simp [intOf]; omega
        · obtain rfl : k = W.length := by omega
          have hO := sumW_most HC.out HSW.out HY.out
          have HSI := Lib.hid (sumN_le ls)
          clear hlt
          by_cases h0 : r.length = 0
          · have h1 := HC.out.empty.2 h0
            have hr0 : ((r.length : Int) == 0) = true := by rw [h0]; rfl
            have hw0 : ((W.length : Int) == 0) = true := by rw [h1]; rfl
            clear h0 h1
            go_wp2_with (first
              | (go_at_call 19; refine (sum_ok ls HSW.out.2.1 _ _ _ _ _ (Reads.of_own HOV.out) ?_).mono ?_; (unfold maxLen; omega); (rintro e w' ⟨rfl, rfl⟩))
              | (go_at_call 15; refine (spord_any (by first | exact W64.un _ | exact W64.of HSI.out) (by first | exact W64.un _ | exact W64.of HSI.out) _).mono ?_; rintro e w' ⟨rfl, rfl⟩))
            go_ret
            exact ⟨rfl, below_next HB12.out HB2.out⟩
          · have h1 : W.length ≠ 0 := fun h => h0 (HC.out.empty.1 h)
            have hr0 : ((r.length : Int) == 0) = false := beq_eq_false_iff_ne.2 (by omega)
            have hw0 : ((W.length : Int) == 0) = false := beq_eq_false_iff_ne.2 (by omega)
            clear h0 h1
            go_wp2_with (first
              | (go_at_call 19; refine (sum_ok ls HSW.out.2.1 _ _ _ _ _ (Reads.of_own HOV.out) ?_).mono ?_; (unfold maxLen; omega); (rintro e w' ⟨rfl, rfl⟩))
              | (go_at_call 15; refine (spord_any (by first | exact W64.un _ | exact W64.of HSI.out) (by first | exact W64.un _ | exact W64.of HSI.out) _).mono ?_; rintro e w' ⟨rfl, rfl⟩))
            go_ret
            exact ⟨rfl, below_next HB12.out HB2.out⟩
    · exact absurd HG.out hN
  · have HN := Lib.hid hN
    have HK := Lib.hid hk.2
    obtain ⟨h1, h2⟩ := int_ne hk.1
    have HR := Lib.hid (hR1.below hb2)
    have HD := Lib.hid (hD1.below hb2)
    have HTb := Lib.hid (hT1.below hb2)
    have HB12 := Lib.hid (below_next hb1 hb2)
    clear hk hN hR1 hD1 hT1 hb1 hb2
    go_wp2_with fail
    refine (Way_ok p _ c r q _ cq l w2 HR.out HD.out HTb.out).mono ?_
    rintro e w3 (⟨W, g3, cg3, T3, rfl, hG3, hS3, hC3, hW64, hown3, hb3⟩ | ⟨k2, rfl, hk2, hN2, hb3⟩)
    · exact absurd hG3 HN.out
    · obtain rfl : k2 = k := by rw [hk2.2, HK.out]
      have HB13 := Lib.hid (below_next HB12.out hb3)
      have hz0 : (ordN 0 0 == 0) = true := by
        have : ordN 0 0 = 0 := (ord_zero (by omega) (by omega)).2 rfl
        rw [this]; rfl
      clear hk2 hN2 hb3
      go_wp2_with (go_at_call 15; refine (spord_any W64.zero W64.zero _).mono ?_; rintro e w' ⟨rfl, rfl⟩)
      go_ret
      exact ⟨rfl, HB13.out⟩
end Go.Proofs.YtlhomgbibhacoaaDoor
