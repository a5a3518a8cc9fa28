/- The walks of cost.check, cost.Times and the fact costs. Conditions: the rows and the durations read as listed. -/
import Derived.Test.YtlhomgbibhacoaaDoorCostW
namespace Go.Proofs.YtlhomgbibhacoaaDoor
open Go.RowKit
theorem own_mono {w : World} {base base' e n : Nat} {v : Value} {xs : List Value} (h : w.ownsRow base e 1 v n xs) (hb : base' ≤ base) : w.ownsRow base' e 1 v n xs := by
  refine ⟨h.1, ?_⟩
  rcases h.2 with h | ⟨g, cap, cur, h1, h2, h3⟩
  · exact .inl h
  · exact .inr ⟨g, cap, cur, h1, Nat.le_trans hb h2, h3⟩
def uns (l : List B) : List Nat := l.map un
open Classical in
/-- the error of rows and durations that are not right -/
noncomputable def errC (r : List B) (D : List Nat) : Int := if chkR r ≠ 0 then chkR r else if D.length = r.length ∧ ∀ x ∈ D, x ≤ INF then 8 else 1
theorem errC_rows {r : List B} {D : List Nat} (h : chkR r ≠ 0) : errC r D = chkR r := by unfold errC; rw [if_pos h]
theorem errC_args {r : List B} {D : List Nat} (h : chkR r = 0) (h2 : ¬(D.length = r.length ∧ ∀ x ∈ D, x ≤ INF)) : errC r D = 1 := by unfold errC; rw [if_neg (by simp [h]), if_neg h2]
theorem errC_ring {r : List B} {D : List Nat} (h : chkR r = 0) (h2 : D.length = r.length ∧ ∀ x ∈ D, x ≤ INF) : errC r D = 8 := by unfold errC; rw [if_neg (by simp [h]), if_pos h2]
def ChkPost (r : List B) (D : List Nat) (w : World) (e : Ending) (w' : World) : Prop :=
  (∃ (o : List Nat) (g : Option Addr) (cg : Nat), e = .returned (.tuple #[.slice g o.length cg, .int .i64 0]) ∧ GoodC r D ∧ KOrd r o 0#64 ∧ w'.ownsRow w.heap.size 3 1 (.slice g o.length cg) o.length (ints o) ∧ Below w.heap.size w w') ∨
  (∃ k : Int, e = .returned (.tuple #[.slice none 0 0, .int .i64 k]) ∧ (k ≠ 0 ∧ k = errC r D) ∧ ¬GoodC r D ∧ Below w.heap.size w w')
theorem uns_le {l : List B} (h : ∀ x ∈ l, un x ≤ INF) : ∀ x ∈ uns l, x ≤ INF := by
  intro x hx
  obtain ⟨y, hy, rfl⟩ := List.mem_map.1 hx
  exact h y hy
theorem uns_len (l : List B) : (uns l).length = l.length := List.length_map ..
set_option maxHeartbeats 1000000 in
theorem costCheck_ok (p : Option Addr) (n c : Nat) (r : List B) (q : Option Addr) (m cq : Nat) (l : List B) (w : World) (hR : RowsAt w p n r) (hD : FltsAt w q m l) (hT : Tab w) :
    Calls Tryd.prog 25 #[.slice p n c, .slice q m cq] w (ChkPost r (uns l) w) := by
  have hl := hR.len
  subst hl
  have hm := hD.len
  subst hm
  by_cases h : chkR r = 0
  · have H := Lib.hid h
    clear h
    by_cases hlen : l.length = r.length
    · have hne : ((l.length : Int) != (r.length : Int)) = false := by simp; omega
      have HL := Lib.hid hlen
      clear hlen
      go_enter Tryd.func25, Tryd.ntmps25
      go_wp2_with (first
        | (go_at_call 49; refine (Check_ok _ _ _ r _ hR).mono ?_; rw [H.out]; rintro e w' ⟨rfl, rfl⟩)
        | (go_at_call 50; refine (containsBadC_ok l _ _ _ _ hD).mono ?_; rintro e w' ⟨⟨b, rfl, hb⟩, rfl⟩; have HB := Lib.hid hb; clear hb; cases b))
      · refine (Order_yes _ _ _ r H.out _ hR hT).mono ?_
        rintro e w1 (⟨o, g, cg, rfl, hO, hS, hown, hb⟩ | ⟨o, left, rfl, hne0, hO, hS, hb⟩)
        · have HO := Lib.hid hO
          have HOW := Lib.hid hown
          clear hO hS hown hR hD
          go_wp2
          go_ret2
          refine .inl ⟨o, g, cg, rfl, ⟨H.out, by rw [uns_len]; exact HL.out, uns_le ?_, o, HO.out⟩, HO.out, HOW.out, hb⟩
          rcases HB.out with ⟨_, h2⟩ | ⟨h1, _⟩
          · exact h2
          · cases h1
        · have HO := Lib.hid hO
          have HS := Lib.hid hS
          have HN := Lib.hid hne0
          clear hO hS hne0 hR hD
          go_wp2
          go_ret2
          have hbad : ∀ x ∈ l, un x ≤ INF := by
            rcases HB.out with ⟨_, h2⟩ | ⟨h1, _⟩
            · exact h2
            · cases h1
          refine .inr ⟨_, rfl, ⟨by decide, (errC_ring H.out ⟨by rw [uns_len]; exact HL.out, uns_le hbad⟩).symm⟩, fun hg => ?_, hb⟩
          obtain ⟨_, _, _, o2, h2⟩ := hg
          exact HN.out (not_stuck h2 HO.out HS.out)
      · go_ret2
        have hex : ∃ x ∈ l, ¬ un x ≤ INF := by
          rcases HB.out with ⟨h1, _⟩ | ⟨_, h⟩
          · cases h1
          · exact h
        obtain ⟨x, hx, hn⟩ := hex
        exact .inr ⟨_, rfl, ⟨by decide, (errC_args H.out fun h => hn (h.2 _ (List.mem_map_of_mem hx))).symm⟩, fun hg => hn (hg.2.2.1 _ (List.mem_map_of_mem hx)), Below.refl _ _⟩
    · have hne : ((l.length : Int) != (r.length : Int)) = true := by simp; omega
      have HL := Lib.hid hlen
      clear hlen
      go_enter Tryd.func25, Tryd.ntmps25
      go_wp2_with (go_at_call 49; refine (Check_ok _ _ _ r _ hR).mono ?_; rw [H.out]; rintro e w' ⟨rfl, rfl⟩)
      go_ret2
      exact .inr ⟨_, rfl, ⟨by decide, (errC_args H.out fun h => HL.out (by have := h.1; rw [uns_len] at this; exact this)).symm⟩, fun hg => HL.out (by have := hg.2.1; rw [uns_len] at this; exact this), Below.refl _ _⟩
  · obtain ⟨h1, h2⟩ := int_ne h
    have H := Lib.hid h
    clear h
    go_enter Tryd.func25, Tryd.ntmps25
    go_wp2_with (go_at_call 49; refine (Check_ok _ _ _ r _ hR).mono ?_; rintro e w' ⟨rfl, rfl⟩)
    go_ret2
    exact .inr ⟨_, rfl, ⟨H.out, (errC_rows H.out).symm⟩, fun hg => H.out hg.1, Below.refl _ _⟩
/-- what Times answers -/
def TimesPost (r : List B) (D : List Nat) (w : World) (e : Ending) (w' : World) : Prop :=
  (∃ (T : List Nat) (g : Option Addr) (cg : Nat) (o : List Nat) (y : B), e = .returned (.tuple #[.slice g r.length cg, .float .f64 (un y), .int .i64 0]) ∧ GoodC r D ∧ KOrd r o 0#64 ∧ Sol r D T ∧
    w'.ownsRow w.heap.size 22 1 (.slice g r.length cg) r.length (fv T) ∧ ((r.length = 0 ∧ y = 0#64) ∨ ((∀ n, T.getD n 0 ≤ un y) ∧ ∃ n, n < r.length ∧ un y = T.getD n 0)) ∧ Below w.heap.size w w') ∨
  (∃ k : Int, e = .returned (.tuple #[.slice none 0 0, .float .f64 0, .int .i64 k]) ∧ (k ≠ 0 ∧ k = errC r D) ∧ ¬GoodC r D ∧ Below w.heap.size w w')
theorem fv_flts {T : List Nat} (h : ∀ x ∈ T, x ≤ INF) : ∃ L : List B, T = uns L := by
  induction T with
  | nil => exact ⟨[], rfl⟩
  | cons x T ih =>
    obtain ⟨L, hL⟩ := ih (fun y hy => h y (List.mem_cons_of_mem _ hy))
    obtain ⟨b, hb⟩ := (W64.of (h x List.mem_cons_self)).ex
    exact ⟨b :: L, by rw [hL, hb]; rfl⟩
theorem mem_getD {T : List Nat} {x : Nat} (h : x ∈ T) : ∃ n, n < T.length ∧ x = T.getD n 0 := by
  obtain ⟨n, hn, rfl⟩ := List.mem_iff_getElem.1 h
  exact ⟨n, hn, by simp [hn]⟩
theorem most_times {L : List B} {y : B} (hI : ∀ x ∈ uns L, x ≤ INF) (h : Mx L L.length y) : (∀ n, (uns L).getD n 0 ≤ un y) ∧ ∃ n, n < L.length ∧ un y = (uns L).getD n 0 := by
  unfold Mx at h
  rw [List.take_length] at h
  have hy : un y ∈ uns L := List.mem_map_of_mem h.1
  refine ⟨fun n => ?_, ?_⟩
  · rcases Nat.lt_or_ge n (uns L).length with h1 | h1
    · have hm : (uns L).getD n 0 ∈ uns L := by rw [List.getD_eq_getElem?_getD, List.getElem?_eq_getElem h1]; exact List.getElem_mem h1
      obtain ⟨x, hx, hxe⟩ := List.mem_map.1 hm
      have h2 := h.2 x hx
      rw [hxe, ord_le, key_right (hI _ hm) (hI _ hy)] at h2
      exact h2
    · rw [List.getD_eq_getElem?_getD, List.getElem?_eq_none h1]; exact Nat.zero_le _
  · obtain ⟨n, hn, he⟩ := mem_getD hy
    exact ⟨n, by rw [uns_len] at hn; exact hn, he⟩
theorem sol_all {r : List B} {D T : List Nat} (h : Sol r D T) : ∀ x ∈ T, x ≤ INF := fun x hx => by
  obtain ⟨n, _, rfl⟩ := mem_getD hx
  exact h.le n
set_option maxHeartbeats 1000000 in
theorem Times_ok (p : Option Addr) (n c : Nat) (r : List B) (q : Option Addr) (m cq : Nat) (l : List B) (w : World) (hR : RowsAt w p n r) (hD : FltsAt w q m l) (hT : Tab w) :
    Calls Tryd.prog 12 #[.slice p n c, .slice q m cq] w (TimesPost r (uns l) w) := by
  have hl := hR.len
  subst hl
  have hm := hD.len
  subst hm
  go_enter Tryd.func12, Tryd.ntmps12
  go_wp2_with fail
  refine (costCheck_ok p _ c r q _ cq l w hR hD hT).mono ?_
  rintro e w1 (⟨o, g, cg, rfl, hG, hO, hown, hb⟩ | ⟨k, rfl, hk, hN, hb⟩)
  · have hlen : l.length = r.length := by have := hG.2.1; rw [uns_len] at this; exact this
    have hv := chkR_zero.1 hG.1
    have HG := Lib.hid hG
    have HO := Lib.hid hO
    have hR1 := hR.below hb
    have hT1 := hT.below hb
    have hD1 := (hD.below hb).reads
    rw [flts_fv, hlen] at hD1
    have hQ := Reads.of_own hown
    have HI := Lib.hid (good_getD hG.2.2.1)
    have h64 := hv.1
    have HV := Lib.hid hv
    have HLEN := Lib.hid hlen
    clear hG hO hR hD hT hown hv
    rw [HLEN.out]
    go_wp2_with (go_at_call 26; refine (times_ok p _ c r HV.out q cq (uns l) HI.out g cg o 0#64 HO.out _ hR1 hD1 hQ hT1).mono ?_; rintro e w2 ⟨T, rfl, hS, hown2, hb2⟩)
    have hS' := stage_sol HO.out hS
    obtain ⟨L, rfl⟩ := fv_flts (sol_all hS')
    have HS := Lib.hid hS'
    have HOW := Lib.hid hown2
    have hL : L.length = r.length := by rw [← uns_len]; exact hS'.len
    have hF : FltsAt w2 (some ⟨w1.heap.size, 0, none⟩) r.length L := ⟨by rw [flts_fv]; exact Reads.of_own hown2, hL, by omega⟩
    have HL := Lib.hid hL
    clear hS hS' hown2 hL
    go_wp2_with (go_at_call 27; refine (most_any L _ _ _ _ hF).mono ?_; rintro e w' ⟨⟨y, rfl, hy⟩, rfl⟩)
    have HY := Lib.hid hy
    clear hy
    have HB2 := Lib.hid hb2
    have hsz1 := hb.size
    clear hb2
    go_ret3
    refine .inl ⟨uns L, _, _, o, y, rfl, HG.out, HO.out, HS.out, own_mono HOW.out hsz1, ?_, below_next hb HB2.out⟩
    rcases HY.out with h1 | h1
    · exact .inl h1
    · rw [← HL.out] at h1
      have := most_times (sol_all HS.out) h1
      rw [HL.out] at this
      exact .inr this
  · obtain ⟨h1, h2⟩ := int_ne hk.1
    have HK := Lib.hid hk
    have HN := Lib.hid hN
    clear hk hN
    go_wp2
    go_ret3
    exact .inr ⟨k, rfl, HK.out, HN.out, hb⟩
theorem costs_rows : chkR [2#64, 0#64] = 0 := by decide +kernel
theorem costs_sol {D T : List Nat} (hD : D = [4607182418800017408, 4611686018427387904]) (h : Sol [2#64, 0#64] D T) : T.getD 0 0 = 4613937818241073152 ∧ T.getD 1 0 = 4611686018427387904 := by
  have h0 := h.eq 0 (by decide)
  have h1 := h.eq 1 (by decide)
  unfold TM at h0 h1
  have e0 : lst (row [2#64, 0#64] 0) = [1] := by decide +kernel
  have e1 : lst (row [2#64, 0#64] 1) = [] := by decide +kernel
  rw [e1, mxk_nil, hD] at h1
  have f1 : plus 0 (([4607182418800017408, 4611686018427387904] : List Nat).getD 1 0) = 4611686018427387904 := by decide +kernel
  rw [f1] at h1
  have e2 : mxk T [1] = T.getD 1 0 := by
    have := mxk_snoc T [] 1
    rw [mxk_nil, List.nil_append] at this
    rw [this]; omega
  rw [e0, e2, h1, hD] at h0
  have f0 : plus 4611686018427387904 (([4607182418800017408, 4611686018427387904] : List Nat).getD 0 0) = 4613937818241073152 := by decide +kernel
  rw [f0] at h0
  exact ⟨h0, h1⟩
end Go.Proofs.YtlhomgbibhacoaaDoor
