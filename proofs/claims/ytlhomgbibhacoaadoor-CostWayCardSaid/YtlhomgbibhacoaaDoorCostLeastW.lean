/- The law CostLeast walked. Conditions: the arguments read as listed. -/
import Derived.Test.YtlhomgbibhacoaaDoorCostMoreW
import Derived.Test.YtlhomgbibhacoaaDoorIntArg
namespace Go.Proofs.YtlhomgbibhacoaaDoor
open Go.RowKit
/-- the walk so far: its times, and their sum -/
def WalkS (r : List B) (T : List Nat) (zs : List Int) (k : Nat) (ls : List B) : Prop :=
  ls.length = k ∧ (∀ x ∈ ls, un x ≤ INF) ∧ (k = 0 ∨ ∃ z : Nat, zs.getD (k - 1) 0 = (z : Int) ∧ z < r.length ∧ sumN ls ≤ T.getD z 0)
theorem walkS_zero (r : List B) (T : List Nat) (zs : List Int) : WalkS r T zs 0 [] := ⟨rfl, (fun x hx => by cases hx), .inl rfl⟩
theorem walkS_first {r : List B} {D T : List Nat} {zs : List Int} {ls : List B} {z : Nat} {x : B} (hS : Sol r D T) (hD : ∀ n, D.getD n 0 ≤ INF) (h : WalkS r T zs 0 ls) (hz : zs.getD 0 0 = (z : Int)) (hzr : z < r.length) (hx : un x = D.getD z 0) :
    WalkS r T zs 1 (ls ++ [x]) := by
  have h0 : ls = [] := List.length_eq_zero_iff.1 h.1
  subst h0
  refine ⟨rfl, (fun y hy => by rw [List.mem_singleton.1 hy, hx]; exact hD z), .inr ⟨z, hz, hzr, ?_⟩⟩
  rw [sumN_snoc, sumN_nil, hx, zero_plus (hD z)]
  exact sol_own hS hzr (hD z)
theorem walkS_next {r : List B} {D T : List Nat} {zs : List Int} {ls : List B} {k z y : Nat} {x : B} (hS : Sol r D T) (hD : ∀ n, D.getD n 0 ≤ INF) (hk : 0 < k) (h : WalkS r T zs k ls) (hz : zs.getD k 0 = (z : Int)) (hzr : z < r.length)
    (hy : zs.getD (k - 1) 0 = (y : Int)) (hh : has (row r z) y = true) (hx : un x = D.getD z 0) : WalkS r T zs (k + 1) (ls ++ [x]) := by
  obtain ⟨h1, h2, h3⟩ := h
  rcases h3 with h3 | ⟨q, hq, _, hs⟩
  · omega
  · have hqy : q = y := by omega
    subst hqy
    refine ⟨by simp [h1], fun v hv => ?_, .inr ⟨z, by simpa using hz, hzr, ?_⟩⟩
    · rcases List.mem_append.1 hv with hv | hv
      · exact h2 v hv
      · rw [List.mem_singleton.1 hv, hx]; exact hD z
    · rw [sumN_snoc, hx]
      exact sol_walk hS hh (hD z) hs
theorem walkS_most {r : List B} {T : List Nat} {zs : List Int} {ls : List B} {k : Nat} {y : B} (hI : ∀ n, T.getD n 0 ≤ INF) (h : WalkS r T zs k ls) (hy : (r.length = 0 ∧ y = 0#64) ∨ ((∀ n, T.getD n 0 ≤ un y) ∧ ∃ n, n < r.length ∧ un y = T.getD n 0)) :
    ordN (sumN ls) (un y) ≤ 0 := by
  have hyI : un y ≤ INF := by
    rcases hy with ⟨_, rfl⟩ | ⟨_, n, _, h2⟩
    · exact Nat.zero_le _
    · rw [h2]; exact hI n
  refine ord_le_of hyI ?_
  rcases h.2.2 with h0 | ⟨z, _, hz, hs⟩
  · have : ls = [] := List.length_eq_zero_iff.1 (by rw [h.1, h0])
    rw [this, sumN_nil]; exact Nat.zero_le _
  · rcases hy with ⟨h3, _⟩ | ⟨h3, _⟩
    · omega
    · exact Nat.le_trans hs (h3 z)
theorem most_inf {r : List B} {T : List Nat} {y : B} (hI : ∀ n, T.getD n 0 ≤ INF) (hy : (r.length = 0 ∧ y = 0#64) ∨ ((∀ n, T.getD n 0 ≤ un y) ∧ ∃ n, n < r.length ∧ un y = T.getD n 0)) : un y ≤ INF := by
  rcases hy with ⟨_, rfl⟩ | ⟨_, n, _, h2⟩
  · exact Nat.zero_le _
  · rw [h2]; exact hI n
theorem has_quiet {s : B} {n : Int} {v : Bool} {w : World} {k : Nat} (h : hasI s n = v) : Calls Tryd.prog 18 #[.int .u64 (un s), .int .i64 n] (w.drewN k) fun e w' => e = .returned (.bool v) ∧ ∃ m, w' = w.drewN m :=
  (has_ok s n _).mono fun _ _ ⟨h1, h2⟩ => ⟨by rw [h1, h], k, h2.symm⟩
theorem own_f_at' {w : World} {base n c : Nat} {ad : Addr} {T : List Nat} (h : w.ownsRow base 22 1 (.slice (some ad) n c) n (fv T)) {k : Nat} (hk : k < n) : w.cell? (ad.add k) = some (.float .f64 (T.getD k 0)) := by
  obtain ⟨ad', had, _, hc⟩ := f_at (Reads.of_own h) hk
  injection had with had
  subst had
  exact hc
theorem app_ready {w wo : World} (x : B) (hs : wo.heap.size ≤ w.heap.size) (hb : Below wo.heap.size wo w) :
    (∀ j u, (flts [x])[j]? = some u → (w.alloc (.cells #[.float .f64 (un x)] 22)).cell? ((⟨w.heap.size, 0, none⟩ : Addr).add j) = some u) ∧ wo.heap.size ≤ (w.alloc (.cells #[.float .f64 (un x)] 22)).heap.size ∧ Below wo.heap.size wo (w.alloc (.cells #[.float .f64 (un x)] 22)) := by
  refine ⟨fun j u hj => ?_, by simp; omega, hb.alloc hs _⟩
  match j, hj with
  | 0, hj => simp [flts] at hj; subst hj; simp [Addr.add]
theorem own_drewN {w : World} {base e n : Nat} {v : Value} {xs : List Value} (h : w.ownsRow base e 1 v n xs) (k : Nat) : (w.drewN k).ownsRow base e 1 v n xs := h
set_option maxRecDepth 100000 in
set_option maxHeartbeats 4000000 in
theorem costLeast_walk (p : Option Addr) (n c : Nat) (r : List B) (q : Option Addr) (m cq : Nat) (l : List B) (p3 : Option Addr) (n3 c3 : Nat) (zs : List Int) (w : World) (hR : RowsAt w p n r) (hD : FltsAt w q m l) (hZ : IntAt w p3 n3 zs) (hT : Tab w) :
    Calls Tryd.prog 5 #[.slice p n c, .slice q m cq, .slice p3 n3 c3] w fun e w' => e = .returned (.bool true) ∧ Below w.heap.size w w' := by
  have hl := hR.len
  subst hl
  have hm := hD.len
  subst hm
  have hz := hZ.len
  subst hz
  have hbig := hD.big
  have hbigz := hZ.big
  go_enter Tryd.func5, Tryd.ntmps5
  go_wp2_with fail
  refine (costs_below _ hT).mono ?_
  rintro e w1 ⟨rfl, hb1⟩
  have hR1 := hR.below hb1
  have hD1 := hD.below hb1
  have hZ1 := hZ.below hb1
  have hT1 := hT.below hb1
  clear hR hD hT hZ
  go_wp2_with fail
  refine (Times_ok p _ c r q _ cq l w1 hR1 hD1 hT1).mono ?_
  rintro e w2 (⟨T, g, cg, o, y, rfl, hG, hO, hS, hown, hy, hb2⟩ | ⟨k, rfl, hk, hN, hb2⟩)
  · have HG := Lib.hid hG
    have HO := Lib.hid hO
    have HS := Lib.hid hS
    have HY := Lib.hid hy
    have HR := Lib.hid (hR1.below hb2)
    have HD := Lib.hid (hD1.below hb2)
    have HZ := Lib.hid (hZ1.below hb2)
    have HTb := Lib.hid (hT1.below hb2)
    have HOW := Lib.hid hown
    have HB12 := Lib.hid (below_next hb1 hb2)
    have HLEN : Hid (l.length = r.length) := Lib.hid (by have := hG.2.1; rw [uns_len] at this; exact this)
    have h64 := (chkR_zero.1 hG.1).1
    have HDI := Lib.hid (good_getD hG.2.2.1)
    have HYI := Lib.hid (most_inf hS.le hy)
    clear hG hO hS hy hR1 hD1 hT1 hZ1 hb1 hb2 hown
    go_wp2
    go_loopw [44] (fun i wr => ∃ k : Nat, k ≤ r.length ∧ i = .int .i64 k ∧ Below w2.heap.size w2 wr) (fun i _ => r.length - (intOf i).toNat)
    case atStart => exact ⟨0, Nat.zero_le _, rfl, Below.refl _ _⟩
    case round =>
      obtain ⟨k, hk, rfl, hbr⟩ := hrel
      obtain ⟨wo, rfl⟩ : ∃ wo : World, wo = wr := ⟨_, rfl⟩
      have HBR := Lib.hid hbr
      clear hbr
      by_cases hlt : k < r.length
      · obtain ⟨adr, rfl, _, hcr⟩ := (HR.out.below HBR.out).cell hlt
        obtain ⟨adt, rfl, _, hct⟩ := f_at (Reads.of_own (own_below HOW.out HBR.out)) hlt
        obtain ⟨add, rfl, _, hcd⟩ := (HD.out.below HBR.out).cell (show k < l.length by rw [HLEN.out]; exact hlt)
        have hkl : k < l.length := by rw [HLEN.out]; exact hlt
        have hd1 : decide (ordN (T.getD k 0) (un (l.getD k 0#64)) < 0) = false := by
          have h1 := sol_own HS.out hlt (HDI.out k)
          rw [uns_getD] at h1
          have h2 := ord_le_of (HS.out.le k) h1
          have h3 := ord_swap (un (l.getD k 0#64)) (T.getD k 0)
          exact decide_eq_false (by omega)
        have hd2 : decide (0 < ordN (T.getD k 0) (un y)) = false := by
          have h2 : ordN (T.getD k 0) (un y) ≤ 0 := by
            rcases HY.out with ⟨h3, _⟩ | ⟨h3, _⟩
            · omega
            · exact ord_le_of HYI.out (h3 k)
          exact decide_eq_false (by omega)
        have HW1 := Lib.hid (W64.of (HS.out.le k))
        have HKD : Hid (∀ j, has (row r k) j = true → j < r.length ∧ ordN (T.getD j 0) (T.getD k 0) ≤ 0) := Lib.hid (fun j hj => ⟨(chkR_zero.1 HG.out.1).2 k j hj, ord_le_of (HS.out.le k) (sol_need HS.out hj)⟩)
        generalize l.getD k 0#64 = dk at *
        obtain ⟨tk, htk⟩ : ∃ tk, tk = T.getD k 0 := ⟨_, rfl⟩
        rw [← htk] at hct hd1 hd2 HW1 HKD
        have HTK := Lib.hid htk
        clear htk
        generalize row r k = x at *
        go_wp2
        go_quiet ((go_at_call 15; exact spord_quiet (by first | exact W64.un _ | exact HW1.out) (by first | exact W64.un _ | exact HW1.out)))
        go_wp2_with fail
        refine (List_ok x _ ((HTb.out.below HBR.out).drewN nq)).mono ?_
        rintro e w4 ⟨gl, cl, rfl, hownl, hb4⟩
        have HB4 := Lib.hid (below_next (below_draws HBR.out nq) hb4)
        have HL := Lib.hid hownl
        have hlx := Lib.hid (cnt_lst x)
        have hcx := cnt_le x
        have HTW := Lib.hid (own_below HOW.out HB4.out)
        clear hownl hb4 hct hcd hcr hd1 hd2
        go_wp2
        go_loopw [71] (fun i wi => ∃ j : Nat, j ≤ cnt x ∧ i = .int .i64 j ∧ Hid (∃ m, wi = w4.drewN m)) (fun i _ => cnt x - (intOf i).toNat)
        case atStart => exact ⟨0, Nat.zero_le _, rfl, show ∃ m, w4 = w4.drewN m from ⟨0, rfl⟩⟩
        case round =>
          obtain ⟨j, hj, rfl, HW⟩ := hrel
          obtain ⟨wi, rfl⟩ : ∃ wi : World, wi = wr := ⟨_, rfl⟩
          by_cases hjl : j < cnt x
          · obtain ⟨al, rfl, hal, hcl⟩ := (Reads.of_own HL.out).int_at hjl
            have hjl' : j < (lst x).length := by rw [← hlx.out]; exact hjl
            have hmem : has x ((lst x).getD j 0) = true := by
              rw [List.getD_eq_getElem?_getD, List.getElem?_eq_getElem hjl']
              exact mem_lst.1 (List.getElem_mem hjl')
            obtain ⟨hqr, hqle⟩ := HKD.out _ hmem
            have hcq := own_f_at' HTW.out hqr
            have hck := own_f_at' HTW.out hlt
            rw [← HTK.out] at hck
            have hc1 : wi.cell? (al.add j) = some (.int .i64 ((lst x).getD j 0 : Int)) := by obtain ⟨m, hm⟩ := HW.out; rw [hm]; exact hcl
            have hc2 : wi.cell? (adt.add ((lst x).getD j 0)) = some (.float .f64 (T.getD ((lst x).getD j 0) 0)) := by obtain ⟨m, hm⟩ := HW.out; rw [hm]; exact hcq
            have hc3 : wi.cell? (adt.add k) = some (.float .f64 tk) := by obtain ⟨m, hm⟩ := HW.out; rw [hm]; exact hck
            have hdq : decide (0 < ordN (T.getD ((lst x).getD j 0) 0) tk) = false := decide_eq_false (by omega)
            have HW2 := Lib.hid (W64.of (HS.out.le ((lst x).getD j 0)))
            clear hcl hcq hck hmem hqle
            generalize T.getD ((lst x).getD j 0) 0 = tq at *
            generalize (lst x).getD j 0 = qq at *
            go_wp2
            go_quiet ((go_at_call 15; exact spord_quiet (by first | exact HW2.out | exact HW1.out) (by first | exact HW2.out | exact HW1.out)))
            go_wp2
            go_roundw
            case rel => exact ⟨j + 1, by omega, by go_num, by
              obtain ⟨m, hm⟩ := HW.out
              exact ⟨_, by rw [hm, World.drewN_drewN]⟩⟩
            case measure => simp [intOf]; omega
          · obtain rfl : j = cnt x := by omega
            have hbw : Below w2.heap.size w2 wi := by obtain ⟨m, hm⟩ := HW.out; rw [hm]; exact below_draws HB4.out m
            have HBW := Lib.hid hbw
            clear hbw
            go_wp2
            go_roundw
            case rel => exact ⟨k + 1, by omega, by go_num, HBW.out⟩
            case measure => simp [intOf]; omega
      · obtain rfl : k = r.length := by omega
        clear hlt
        go_wp2
        go_loopw [14, 89] (fun v i wr => ∃ (k : Nat) (ls : List B), k ≤ zs.length ∧ i = .int .i64 k ∧ Hid (WalkS r T zs k ls) ∧ wr.ownsRow wo.heap.size 22 1 v k (flts ls) ∧ Below wo.heap.size wo wr) (fun _ i _ => zs.length - (intOf i).toNat)
        case atStart => exact ⟨0, [], Nat.zero_le _, rfl, walkS_zero r T zs, World.ownsRow_nil _ _ _ _, Below.refl _ _⟩
        case round =>
          obtain ⟨k, ls, hk2, rfl, HWS, hownv, hbr⟩ := hrel
          obtain ⟨wp, rfl⟩ : ∃ wp : World, wp = wr := ⟨_, rfl⟩
          obtain ⟨gv, cv, rfl⟩ := f64_own hownv
          have HOV := Lib.hid hownv
          have HBP := Lib.hid hbr
          have HB2 := Lib.hid (below_next HBR.out hbr)
          clear hownv hbr
          by_cases hlt : k < zs.length
          · obtain ⟨adz, rfl, _, hc⟩ := (HZ.out.below HB2.out).cell hlt
            by_cases hz0 : zs.getD k 0 < 0
            · generalize zs.getD k 0 = z at *
              go_wp2
              go_quiet (fail)
              go_wp2
              go_ret
              exact ⟨rfl, below_draws (below_next HB12.out HB2.out) _⟩
            · obtain ⟨z, hz⟩ := Int.eq_ofNat_of_zero_le (show 0 ≤ zs.getD k 0 by omega)
              have HZK := Lib.hid hz
              rw [hz] at hc
              clear hz hz0
              have hd1 : decide ((z : Int) < 0) = false := by simp
              by_cases hzr : r.length ≤ z
              · have hd2 : decide ((r.length : Int) ≤ (z : Int)) = true := by simp; omega
                have hd3 : decide (r.length ≤ z) = true := by simp; omega
                clear hzr
                go_wp2
                go_quiet (fail)
                go_wp2
                go_ret
                exact ⟨rfl, below_draws (below_next HB12.out HB2.out) _⟩
              · have hzl : z < r.length := by omega
                have hzl2 : z < l.length := by rw [HLEN.out]; exact hzl
                have hd2 : decide ((r.length : Int) ≤ (z : Int)) = false := decide_eq_false (by omega)
                have hd3 : decide (r.length ≤ z) = false := decide_eq_false (by omega)
                obtain ⟨add, rfl, _, hcd⟩ := (HD.out.below HB2.out).cell hzl2
                have HUX : Hid (un (l.getD z 0#64) = (uns l).getD z 0) := Lib.hid (uns_getD l z).symm
                generalize l.getD z 0#64 = dz at *
                clear hzr
                by_cases hk0 : k = 0
                · subst hk0
                  have HN := Lib.hid (walkS_first HS.out HDI.out HWS.out HZK.out hzl HUX.out)
                  have hcz : wp.cell? adz = some (.int .i64 (z : Int)) := by simpa [Addr.add] using hc
                  go_wp2
                  go_quiet (fail)
                  have hown9 := (own_drewN HOV.out nq).alloc (.cells #[.float .f64 (un dz)] 22)
                  have H9 := Lib.hid (app_ready (w := wp.drewN nq) dz (show wo.heap.size ≤ (wp.drewN nq).heap.size from HBP.out.size) (below_draws HBP.out nq))
                  go_wp2_with (at_builtin; refine app_f64 ((wp.drewN nq).alloc (.cells #[.float .f64 (un dz)] 22)) rfl (.tmp 119) (.tmp 124) rfl wo.heap.size (.slice gv 0 cv) 0 ls rfl hown9 ⟨wp.heap.size, 0, none⟩ 1 1 [dz] rfl rfl H9.out.1 (by omega) H9.out.2.1 ?_; intro v' w5 h1 h2; have HG := Lib.hid h2; have HV := Lib.hid h1; clear h1 h2)
                  have HB5 := H9.out.2.2.grown HG.out H9.out.2.1 (fun k hk => (HOV.out.lt k hk).1)
                  refine ⟨⟨0 + 1, ls ++ [dz], by omega, by first | rfl | go_num, HN.out, HV.out, HB5⟩, ?_⟩
                  simp [intOf]; omega
                · obtain ⟨v, hv, hvr, hsv⟩ : ∃ v : Nat, zs.getD (k - 1) 0 = (v : Int) ∧ v < r.length ∧ sumN ls ≤ T.getD v 0 := by
                    rcases HWS.out.2.2 with h | h
                    · exact absurd h hk0
                    · exact h
                  have hc1 : wp.cell? (adz.add (k - 1)) = some (.int .i64 (v : Int)) := by
                    obtain ⟨ad', had, _, hd0⟩ := (HZ.out.below HB2.out).cell (k := k - 1) (by omega)
                    injection had with had
                    subst had
                    rw [← hv]; exact hd0
                  obtain ⟨adr, rfl, _, hcr⟩ := (HR.out.below HB2.out).cell hzl
                  have hI : hasI (row r z) (v : Int) = has (row r z) v := by unfold hasI; simp
                  have hd4 : decide (0 < (k : Int)) = true := decide_eq_true (by omega)
                  have hd5 : decide (0 < k) = true := decide_eq_true (by omega)
                  have s1 : IntKind.i64.wrap ((k : Int) - 1) = (k : Int) - 1 := IntWalk.i64_in _ (by omega)
                  have s2 : ((k : Int) - 1).toNat = k - 1 := by omega
                  have s3 : 0 ≤ (k : Int) - 1 := by omega
                  cases hx : has (row r z) v
                  · rw [hx] at hI
                    have HI := Lib.hid hI
                    clear hI hx hsv hv
                    generalize row r z = x at *
                    go_wp2
                    go_quiet ((go_at_call 18; exact has_quiet HI.out))
                    go_wp2
                    go_ret
                    exact ⟨rfl, below_draws (below_next HB12.out HB2.out) _⟩
                  · rw [hx] at hI
                    have HI := Lib.hid hI
                    have HN := Lib.hid (walkS_next HS.out HDI.out (by omega) HWS.out HZK.out hzl hv hx HUX.out)
                    clear hI hx hsv hv
                    generalize row r z = x at *
                    go_wp2
                    go_quiet ((go_at_call 18; exact has_quiet HI.out))
                    have hown9 := (own_drewN HOV.out nq).alloc (.cells #[.float .f64 (un dz)] 22)
                    have H9 := Lib.hid (app_ready (w := wp.drewN nq) dz (show wo.heap.size ≤ (wp.drewN nq).heap.size from HBP.out.size) (below_draws HBP.out nq))
                    go_wp2_with (at_builtin; refine app_f64 ((wp.drewN nq).alloc (.cells #[.float .f64 (un dz)] 22)) rfl (.tmp 119) (.tmp 124) rfl wo.heap.size (.slice gv k cv) k ls rfl hown9 ⟨wp.heap.size, 0, none⟩ 1 1 [dz] rfl rfl H9.out.1 (by omega) H9.out.2.1 ?_; intro v' w5 h1 h2; have HG := Lib.hid h2; have HV := Lib.hid h1; clear h1 h2)
                    have HB5 := H9.out.2.2.grown HG.out H9.out.2.1 (fun k hk => (HOV.out.lt k hk).1)
                    refine ⟨⟨k + 1, ls ++ [dz], by omega, by first | rfl | go_num, HN.out, HV.out, HB5⟩, ?_⟩
                    simp [intOf]; omega
          · obtain rfl : k = zs.length := by omega
            have hO := walkS_most HS.out.le HWS.out HY.out
            have HSI := Lib.hid (sumN_le ls)
            clear hlt
            go_wp2_with (first
              | (go_at_call 19; refine (sum_ok ls HWS.out.2.1 _ _ _ _ _ (Reads.of_own HOV.out) ?_).mono ?_; (unfold maxLen; omega); (rintro e w' ⟨rfl, rfl⟩))
              | (go_at_call 15; refine (spord_any (by first | exact W64.un _ | exact W64.of HSI.out) (by first | exact W64.un _ | exact W64.of HSI.out) _).mono ?_; rintro e w' ⟨rfl, rfl⟩))
            go_ret
            exact ⟨rfl, below_next HB12.out HB2.out⟩
  · obtain ⟨h1, h2⟩ := int_ne hk.1
    have hb12 := below_next hb1 hb2
    clear hk hN hR1 hD1 hT1 hZ1
    go_wp2
    go_ret
    exact ⟨rfl, hb12⟩
end Go.Proofs.YtlhomgbibhacoaaDoor
