/- The walk of cost.Way. Conditions: the rows and the durations read as listed. -/
import Derived.Test.YtlhomgbibhacoaaDoorCostWayW
import Derived.Test.YtlhomgbibhacoaaDoorRevW
namespace Go.Proofs.YtlhomgbibhacoaaDoor
open Go.RowKit
def lenV : Value → Nat
  | .slice _ n _ => n
  | _ => 0
theorem i64s_ints (xs : List Nat) : i64s (xs.map fun x : Nat => (x : Int)) = ints xs := by unfold i64s ints; rw [List.map_map]; rfl
theorem cw_in {r : List B} {T o L : List Nat} {s : B} (hv : Valid r) (h : CW r T o L s) {k : Nat} (hk : has s k = true) : k < r.length := by
  have hk64 := has_lt hk
  rcases h.now with ⟨_, hs⟩ | ⟨_, hs⟩
  · rw [hs, has_below _ _ hk64] at hk; simpa using hk
  · rw [hs] at hk; exact hv.2 _ _ hk
theorem snoc_last (L : List Nat) (k : Nat) : (L ++ [k]).getD L.length 0 = k := by rw [snoc_getD, if_neg (by omega), if_pos rfl]
theorem app_ready_int {w wo : World} (k : Nat) (hs : wo.heap.size ≤ w.heap.size) (hb : Below wo.heap.size wo w) :
    (w.alloc (.cells #[.int .i64 (k : Int)] 3)).cell? ⟨w.heap.size, 0, none⟩ = some (.int .i64 (k : Int)) ∧ wo.heap.size ≤ (w.alloc (.cells #[.int .i64 (k : Int)] 3)).heap.size ∧ Below wo.heap.size wo (w.alloc (.cells #[.int .i64 (k : Int)] 3)) :=
  ⟨by rw [World.cell?_alloc_at _ _ _ _ rfl]; rfl, by simp; omega, hb.alloc hs _⟩
def WayPost (r : List B) (D : List Nat) (w : World) (e : Ending) (w' : World) : Prop :=
  (∃ (W : List Nat) (g : Option Addr) (cg : Nat) (T : List Nat), e = .returned (.tuple #[.slice g W.length cg, .int .i64 0]) ∧ GoodC r D ∧ Sol r D T ∧ CWay r D T W ∧ W.length ≤ 64 ∧ w'.ownsRow w.heap.size 3 1 (.slice g W.length cg) W.length (ints W) ∧ Below w.heap.size w w') ∨
  (∃ k : Int, e = .returned (.tuple #[.slice none 0 0, .int .i64 k]) ∧ (k ≠ 0 ∧ k = errC r D) ∧ ¬GoodC r D ∧ Below w.heap.size w w')
set_option maxRecDepth 100000 in
set_option maxHeartbeats 4000000 in
theorem Way_ok (p : Option Addr) (n c : Nat) (r : List B) (q : Option Addr) (m cq : Nat) (l : List B) (w : World) (hR : RowsAt w p n r) (hD : FltsAt w q m l) (hT : Tab w) :
    Calls Tryd.prog 20 #[.slice p n c, .slice q m cq] w (WayPost r (uns l) w) := by
  have hl := hR.len
  subst hl
  have hm := hD.len
  subst hm
  have hmf : ∀ (fn : Fn) (first cap : Array Value) (w : World), (Instr.makeFunc fn first cap).run Tryd.prog w = .ok (.func fn first cap) w := fun _ _ _ _ => rfl
  go_enter Tryd.func20, Tryd.ntmps20
  go_wp2_with fail
  refine (costCheck_ok p _ c r q _ cq l w hR hD hT).mono ?_
  rintro e w1 (⟨o, g, cg, rfl, hG, hO, hown, hb⟩ | ⟨k, rfl, hk, hN, hb⟩)
  · have hlen : l.length = r.length := by have := hG.2.1; rw [uns_len] at this; exact this
    have hv := chkR_zero.1 hG.1
    have HG := Lib.hid hG
    have HO := Lib.hid hO
    have HR1 := Lib.hid (hR.below hb)
    have hT1 := hT.below hb
    have HTB := Lib.hid hT1
    have hD1 := (hD.below hb).reads
    rw [flts_fv, hlen] at hD1
    have hQ := Reads.of_own hown
    have HI := Lib.hid (good_getD hG.2.2.1)
    have h64 := hv.1
    have HV := Lib.hid hv
    have HLEN := Lib.hid hlen
    have HB1 := Lib.hid hb
    clear hG hO hR hD hT hown hv hb
    rw [HLEN.out]
    go_wp2_with (go_at_call 26; refine (times_ok p _ c r HV.out q cq (uns l) HI.out g cg o 0#64 HO.out _ HR1.out hD1 hQ hT1).mono ?_; rintro e w2 ⟨T, rfl, hS, hown2, hb2⟩; have HS := Lib.hid (stage_sol HO.out hS); have HW2 := Lib.hid hown2; have HB2 := Lib.hid hb2; clear hS hown2 hb2)
    have hbx : (w2.alloc (.cells #[.slice (some ⟨w1.heap.size, 0, none⟩) r.length r.length] 32)).cell? ⟨w2.heap.size, 0, none⟩ = some (.slice (some ⟨w1.heap.size, 0, none⟩) r.length r.length) := by
      rw [World.cell?_alloc_at _ _ _ _ rfl]; rfl
    have HB3 := Lib.hid (HB2.out.alloc HB2.out.size (.cells #[.slice (some ⟨w1.heap.size, 0, none⟩) r.length r.length] 32))
    have hT3 := (Reads.of_own HW2.out).alloc (Nat.le_refl _) (.cells #[.slice (some ⟨w1.heap.size, 0, none⟩) r.length r.length] 32)
    have hlt2 : w2.heap.size < (w2.alloc (.cells #[.slice (some ⟨w1.heap.size, 0, none⟩) r.length r.length] 32)).heap.size := by simp
    have hsz1 : w1.heap.size < w2.heap.size ∨ r.length = 0 := by
      by_cases h0 : r.length = 0
      · exact .inr h0
      · obtain ⟨b, cap, hv, _, hlt⟩ := HW2.out.form (by omega)
        injection hv with hv
        injection hv with hv
        injection hv with hv
        subst hv
        exact .inl hlt
    generalize w2.alloc (.cells #[.slice (some ⟨w1.heap.size, 0, none⟩) r.length r.length] 32) = w3 at *
    have HT3 := Lib.hid hT3
    have HBX := Lib.hid hbx
    clear hT3 hbx hT1 hD1 hQ
    generalize w2.heap.size = bx at *
    go_wp2_with (go_at_call 38; refine (Below_ok _ h64 _).mono ?_; rintro e w' ⟨rfl, rfl⟩)
    go_loopw [10, 13] (fun v sv wr => ∃ (L : List Nat) (s : B), sv = .int .u64 (un s) ∧ Hid (CW r T o L s) ∧ wr.ownsRow w3.heap.size 3 1 v L.length (ints L) ∧ Below w3.heap.size w3 wr ∧ lenV v = L.length) (fun v _ _ => 65 - lenV v)
    case atStart => exact ⟨[], _, rfl, cw_nil r T o, World.ownsRow_nil _ _ _ _, Below.refl _ _, rfl⟩
    case round =>
      obtain ⟨L, s, rfl, HC, hownv, hbr, hlv⟩ := hrel
      obtain ⟨wo, rfl⟩ : ∃ wo : World, wo = wr := ⟨_, rfl⟩
      obtain ⟨gv, cv, rfl, _⟩ := own_form hownv
      have HLV := Lib.hid hlv
      have HOV := Lib.hid hownv
      have HBR := Lib.hid hbr
      have HB13 := Lib.hid (below_next HB3.out hbr)
      have hL64 := cw_len HV.out HO.out HC.out
      clear hownv hbr hlv
      by_cases hs0 : s = 0#64
      · have e0 : (un s : Int) = 0 := un_zero_int hs0
        have HS0 := Lib.hid hs0
        clear hs0
        go_wp2_with fail
        refine (rev_own (ls := L.map fun x : Nat => (x : Int)) (by rw [i64s_ints]; exact HOV.out)).mono ?_
        rintro e w5 ⟨rfl, hown5, hg5⟩
        rw [← List.map_reverse, i64s_ints] at hown5
        have HW5 := Lib.hid hown5
        have hs13 := HB1.out.size
        have hs3 := HB3.out.size
        have hs1w := HB13.out.size
        have HBF := Lib.hid ((below_next HB1.out HB13.out).grown hg5 (by omega) (fun k hk => by have := (HOV.out.lt k hk).1; omega))
        clear hown5 hg5
        go_wp2
        go_ret2
        have hC := HC.out
        rw [HS0.out] at hC
        refine .inl ⟨L.reverse, gv, cv, T, by rw [List.length_reverse]; rfl, HG.out, HS.out, cw_done HS.out HI.out hC, by rw [List.length_reverse]; exact hL64, ?_, HBF.out⟩
        rw [List.length_reverse]
        exact own_mono HW5.out (by omega)
      · have e0 := un_ne0 hs0
        have e1 := un_ne1 hs0
        have hcs : 0 < (lst s).length := by
          rcases Nat.eq_zero_or_pos (lst s).length with h | h
          · exact absurd (by
              obtain ⟨k, hk⟩ := exists_of_ne hs0
              have := mem_lst.2 hk
              rw [List.length_eq_zero_iff.1 h] at this; cases this) id
          · exact h
        have hlx := cnt_lst s
        have hcx := cnt_le s
        have HLX := Lib.hid hlx
        clear hs0 hlx
        go_wp2_with fail
        refine (List_ok s _ (HTB.out.below HB13.out)).mono ?_
        rintro e w4 ⟨gl, cl, rfl, hownl, hb4⟩
        have HL4 := Lib.hid hownl
        have HB34 := Lib.hid (below_next HBR.out hb4)
        have HOV4 := Lib.hid (own_below HOV.out hb4)
        have HB4 := Lib.hid hb4
        clear hownl hb4
        go_wp2_with fail
        refine (last_ok T (lst s) (fun x hx => by rw [HS.out.len]; exact cw_in HV.out HC.out (mem_lst.1 hx)) hcs HS.out.le gl (cnt s) cl w4.heap.size bx r.length bx ⟨w1.heap.size, 0, none⟩ w4 (Reads.of_own HL4.out) (by unfold maxLen; omega)
          (by rw [HS.out.len]; exact (HB34.out.cell (p := ⟨bx, 0, none⟩) hlt2).trans HBX.out) (by rw [HS.out.len]; exact HT3.out.keep fun q hq => HB34.out.cell (Nat.lt_trans hq hlt2))).mono ?_
        rintro e w5 ⟨⟨k, rfl, hk⟩, m, rfl⟩
        have HN := Lib.hid (cw_next HV.out HO.out HC.out (mem_lst.1 hk.1) (fun j hj => hk.2 j (by rw [List.take_length]; exact mem_lst.2 hj)))
        have hkr := cw_in HV.out HC.out (mem_lst.1 hk.1)
        have hown9 := (own_drewN HOV4.out m).alloc (.cells #[.int .i64 (k : Int)] 3)
        have H9 := Lib.hid (app_ready_int (w := w4.drewN m) k (show w3.heap.size ≤ (w4.drewN m).heap.size from HB34.out.size) (below_draws HB34.out m))
        clear hk
        go_wp2_with (at_builtin; refine app_int ((w4.drewN m).alloc (.cells #[.int .i64 (k : Int)] 3)) rfl _ _ rfl w3.heap.size (.slice gv L.length cv) L.length (ints L) rfl hown9 w4.heap.size (.int .i64 (k : Int)) rfl rfl H9.out.1 (by omega) H9.out.2.1 ?_; intro v' w6 h1 h2; rw [← ints_snoc] at h1; have HB36 := Lib.hid (H9.out.2.2.grown h2 H9.out.2.1 (fun j hj => (HOV4.out.lt j hj).1)); obtain ⟨gv6, cv6, rfl, _⟩ := own_form h1; obtain ⟨ad6, rfl, _, hc6⟩ := (Reads.of_own h1).int_at (k := L.length) (by omega); rw [snoc_last] at hc6; obtain ⟨adr, rfl, _, hcr⟩ := (HR1.out.below (below_next HB3.out HB36.out)).cell hkr; have HW6 := Lib.hid h1; clear h1 h2)
        refine ⟨⟨L ++ [k], row r k, rfl, HN.out, by rw [List.length_append]; exact HW6.out, HB36.out, by rw [List.length_append]; rfl⟩, ?_⟩
        show 65 - (L.length + 1) < 65 - L.length
        omega
  · obtain ⟨h1, h2⟩ := int_ne hk.1
    have HK := Lib.hid hk
    have HN := Lib.hid hN
    clear hk hN
    go_wp2
    go_ret2
    exact .inr ⟨k, rfl, HK.out, HN.out, hb⟩
end Go.Proofs.YtlhomgbibhacoaaDoor
