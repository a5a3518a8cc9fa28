/- The walks of the laws ChainChains and ChainDilworth. Conditions: the table reads as listed. -/
import Derived.Test.YtklikjjipoghlaaDoorChainsW
import Derived.Test.YtklikjjipoghlaaDoorMirskyW
namespace Go.Proofs.YtklikjjipoghlaaDoor
open Go.RowKit
/-- the numbers of the first lists, and the first of the next one -/
def accL (LL : List (List Nat)) (t i : Nat) : B := ofL ((LL.take t).flatten ++ (nthL LL t).take i)
theorem nthL_at {LL : List (List Nat)} {t : Nat} (h : t < LL.length) : nthL LL t = LL[t] := by unfold nthL; simp [h]
theorem accL_next (LL : List (List Nat)) {t : Nat} (h : t < LL.length) : accL LL (t + 1) 0 = accL LL t (nthL LL t).length := by
  unfold accL
  rw [List.take_zero, List.append_nil, List.take_length, List.take_succ_eq_append_getElem h, List.flatten_append, nthL_at h]
  simp
theorem accL_step (LL : List (List Nat)) {t i : Nat} (hi : i < (nthL LL t).length) : accL LL t (i + 1) = accL LL t i ||| 1#64 <<< (nthL LL t).getD i 0 := by
  unfold accL
  rw [List.take_succ_eq_append_getElem hi, ← List.append_assoc, ofL_snoc, getD_at hi]
theorem accL_fresh {LL : List (List Nat)} (hn : LL.flatten.Nodup) {t i : Nat} (ht : t < LL.length) (hi : i < (nthL LL t).length) (h64 : (nthL LL t).getD i 0 < 64) : has (accL LL t i) ((nthL LL t).getD i 0) = false := by
  unfold accL
  rw [has_ofL _ _ h64]
  refine decide_eq_false fun hm => ?_
  have e : LL = LL.take t ++ LL[t] :: LL.drop (t + 1) := by rw [← List.drop_eq_getElem_cons ht, List.take_append_drop]
  have e2 : LL.flatten = ((LL.take t).flatten ++ (nthL LL t).take i) ++ ((nthL LL t).drop i ++ (LL.drop (t + 1)).flatten) := by
    conv => lhs; rw [e]
    rw [List.flatten_append, List.flatten_cons, ← nthL_at ht]
    conv => lhs; rw [← List.take_append_drop i (nthL LL t)]
    simp only [List.append_assoc]
  rw [e2, List.nodup_append] at hn
  refine hn.2.2 _ hm _ (List.mem_append_left _ ?_) rfl
  rw [List.drop_eq_getElem_cons hi, getD_at hi]
  exact List.mem_cons_self
theorem accL_all {LL : List (List Nat)} {n : Nat} (h : ∀ k, k ∈ LL.flatten ↔ k < n) : accL LL LL.length 0 = belowB n := by
  unfold accL
  rw [List.take_zero, List.append_nil, List.take_length]
  refine set_ext fun k hk => ?_
  rw [has_ofL _ _ hk, has_below _ _ hk]
  exact decide_eq_decide.2 (h k)
section
variable {R : List B} {nx ah : List Int}
theorem pth_end (h : Pr R nx ah (-1)) (hs : Str R) (i : Nat) : ∃ m, m ≤ 65 ∧ (∀ t, t < m → 0 ≤ pth nx i t) ∧ pth nx i m < 0 := by
  have : ∀ b, (∀ t, t < b → 0 ≤ pth nx i t) ∨ ∃ m, m < b ∧ (∀ t, t < m → 0 ≤ pth nx i t) ∧ pth nx i m < 0 := by
    intro b
    induction b with
    | zero => exact .inl fun t ht => by omega
    | succ b ih =>
      rcases ih with h1 | ⟨m, h1, h2⟩
      · rcases Int.lt_or_le (pth nx i b) 0 with h3 | h3
        · exact .inr ⟨b, by omega, h1, h3⟩
        · refine .inl fun t ht => ?_
          rcases Nat.lt_or_ge t b with h4 | h4
          · exact h1 t h4
          · have : t = b := by omega
            subst this; exact h3
      · exact .inr ⟨m, by omega, h2⟩
  rcases this 66 with h1 | ⟨m, h1, h2⟩
  · have h2 := h1 65 (by omega)
    have := pth_cnt h hs (i := i) (t := 65) (k := (pth nx i 65).toNat) (by omega)
    omega
  · exact ⟨m, by omega, h2⟩
theorem chn_adj (h : Pr R nx ah (-1)) (hs : Str R) {a i : Nat} (hi : i + 1 < (chn nx a).length) : has (row R ((chn nx a).getD i 0)) ((chn nx a).getD (i + 1) 0) = true := by
  obtain ⟨m, hm, h1, h2⟩ := pth_end h hs a
  rw [chn_end h1 h2 hm] at hi ⊢
  rw [pthL_len] at hi
  have e : ∀ j, j < m → (pthL nx a m).getD j 0 = (pth nx a j).toNat := by
    intro j hj
    rw [getD_at (by rw [pthL_len]; exact hj)]
    unfold pthL
    simp
  rw [e i (by omega), e (i + 1) hi]
  have p1 := h1 i (by omega)
  have p2 := h1 (i + 1) hi
  exact pth_row h hs (Nat.lt_succ_self i) (Int.toNat_of_nonneg p1).symm (Int.toNat_of_nonneg p2).symm
theorem chns_adj (h : Pr R nx ah (-1)) (hs : Str R) {n t i : Nat} (ht : t < (chns nx ah n).length) (hi : i + 1 < (nthL (chns nx ah n) t).length) :
    has (row R ((nthL (chns nx ah n) t).getD i 0)) ((nthL (chns nx ah n) t).getD (i + 1) 0) = true := by
  have : ∃ a, nthL (chns nx ah n) t = chn nx a := by
    rw [nthL_at ht]
    obtain ⟨a, _, ha⟩ := List.mem_map.1 (List.getElem_mem ht)
    exact ⟨a, ha.symm⟩
  obtain ⟨a, ha⟩ := this
  rw [ha] at hi ⊢
  exact chn_adj h hs hi
theorem chns_in (h : Pr R nx ah (-1)) (hs : Str R) {t i : Nat} (ht : t < (chns nx ah R.length).length) (hi : i < (nthL (chns nx ah R.length) t).length) : (nthL (chns nx ah R.length) t).getD i 0 < R.length := by
  refine (mem_chns h hs).1 (List.mem_flatten.2 ⟨_, ?_, getD_mem hi⟩)
  rw [nthL_at ht]; exact List.getElem_mem ht
theorem chns_small (h : Pr R nx ah (-1)) (hs : Str R) (hn : R.length ≤ 64) {t : Nat} (ht : t < (chns nx ah R.length).length) : (nthL (chns nx ah R.length) t).length ≤ 64 := by
  have hnd := chns_nodup h hs
  have h1 : (nthL (chns nx ah R.length) t).length ≤ (chns nx ah R.length).flatten.length := by
    rw [nthL_at ht]
    exact (List.sublist_flatten_of_mem (List.getElem_mem ht)).length_le
  have h2 := hnd.length_le_of_subset (l₂ := List.range R.length) fun k hk => List.mem_range.2 ((mem_chns h hs).1 hk)
  rw [List.length_range] at h2
  omega
end
set_option maxHeartbeats 8000000 in
set_option maxRecDepth 100000 in
theorem chainChains_yes (p : Option Addr) (n c : Nat) (r : List B) (h : chkR r = 0) (w : World) (hR : RowsAt w p n r) (hT : Tab w) :
    Calls Tryd.prog 4 #[.slice p n c] w fun e w' => e = .returned (.bool true) ∧ Below w.heap.size w w' := by
  have hl := hR.len
  subst hl
  have H := Lib.hid h
  have HV := Lib.hid (chkR_zero.1 h)
  have h64 := (chkR_zero.1 h).1
  have HBG := Lib.hid hR.big
  clear h
  go_enter Tryd.func4, Tryd.ntmps4
  go_wp2_with fail
  refine (chains_below w hT).mono ?_
  rintro e w1 ⟨rfl, hb1⟩
  have hR1 := hR.below hb1
  have hT1 := hT.below hb1
  clear hR hT
  go_wp2_with fail
  refine (Chains_yes p _ c r H.out w1 hR1 hT1).mono ?_
  rintro e w2 ⟨⟨nx, ah, o, g, cg, rfl, hO, hPD, hN⟩ | ⟨o, left, rfl, hne, hO, hS⟩, hb2⟩
  · have hR2 := hR1.below hb2
    have hT2 := hT1.below hb2
    have HN := Lib.hid hN
    have HST : Hid (Str (clr r)) := by show Str _; exact str_clr HV.out hO
    have HPR : Hid (Pr (clr r) nx ah (-1)) := hPD.1
    have HRL : Hid ((clr r).length = r.length) := clr_len r
    have hb12 := below_next hb1 hb2
    clear hO hPD hN hb1 hb2 hR1 hT1
    have HND : Hid ((chns nx ah r.length).flatten.Nodup) := by
      show List.Nodup _
      have := chns_nodup HPR.out HST.out
      rwa [HRL.out] at this
    have HIN : Hid (∀ t i, t < (chns nx ah r.length).length → i < (nthL (chns nx ah r.length) t).length → (nthL (chns nx ah r.length) t).getD i 0 < r.length) := by
      show ∀ t i, _
      intro t i ht hi
      rw [← HRL.out] at ht hi ⊢
      exact chns_in HPR.out HST.out ht hi
    have HADJ : Hid (∀ t i, t < (chns nx ah r.length).length → i + 1 < (nthL (chns nx ah r.length) t).length → has (row (clr r) ((nthL (chns nx ah r.length) t).getD i 0)) ((nthL (chns nx ah r.length) t).getD (i + 1) 0) = true) := by
      show ∀ t i, _
      intro t i ht hi
      exact chns_adj HPR.out HST.out ht hi
    have HSM : Hid (∀ t, t < (chns nx ah r.length).length → (nthL (chns nx ah r.length) t).length ≤ 64) := by
      show ∀ t, _
      intro t ht
      rw [← HRL.out] at ht ⊢
      exact chns_small HPR.out HST.out (by rw [HRL.out]; exact h64) ht
    have HALL : Hid (accL (chns nx ah r.length) (chns nx ah r.length).length 0 = belowB r.length) := by
      show _ = _
      refine accL_all fun k => ?_
      rw [← HRL.out]
      exact mem_chns HPR.out HST.out
    have hll : (chns nx ah r.length).length ≤ 64 := by rw [chns_len]; have := tops_le ah r.length; omega
    generalize chns nx ah r.length = LL at *
    go_wp2_with fail
    refine (Close_yes p _ c r H.out w2 hR2 hT2).mono ?_
    rintro e w3 ⟨g2, c2, rfl, hown2, hb3⟩
    have HCL : Hid (RowsAt w3 g2 r.length (clr r)) := by show RowsAt _ _ _ _; exact rows_own hown2 HRL.out HBG.out
    have HN3 := Lib.hid (HN.out.below hb3)
    have HB3 := Lib.hid (below_next hb12 hb3)
    clear hown2 hb3 hb12 hR2 hT2 HN
    go_wp2
    go_loopg [33, 7] LL.length (fun gk v a wi => ∃ t : Nat, gk + t = LL.length ∧ v = .int .i64 t ∧ a = .int .u64 (un (accL LL t 0) : Int) ∧ wi = w3)
    case atStart => exact ⟨0, by omega, rfl, by simp [accL, ofL]; rfl, rfl⟩
    case round =>
      obtain ⟨t, hgt, rfl, rfl, hw3⟩ := hrel
      subst hw3
      by_cases htl : t < LL.length
      · obtain ⟨ad, pt, dt, rfl, hct, hot⟩ := HN3.out.at_ htl
        have HL := Lib.hid (Reads.of_own hot)
        have HNX := Lib.hid (accL_next LL htl)
        have hsm := HSM.out t htl
        have HIT : Hid (∀ i, i < (nthL LL t).length → (nthL LL t).getD i 0 < r.length ∧ has (accL LL t i) ((nthL LL t).getD i 0) = false ∧ accL LL t (i + 1) = accL LL t i ||| 1#64 <<< (nthL LL t).getD i 0) := by
          show ∀ i, _
          intro i hi
          have h1 := HIN.out t i htl hi
          exact ⟨h1, accL_fresh HND.out htl hi (by omega), accL_step LL hi⟩
        have HAT : Hid (∀ i, i + 1 < (nthL LL t).length → has (row (clr r) ((nthL LL t).getD i 0)) ((nthL LL t).getD (i + 1) 0) = true) := fun i hi => HADJ.out t i htl hi
        clear hot
        generalize nthL LL t = l at *
        go_wp2
        go_loopg [39, 7] l.length (fun gk v a wi => ∃ i : Nat, gk + i = l.length ∧ v = .int .i64 i ∧ a = .int .u64 (un (accL LL t i) : Int) ∧ wi = wr)
        case atStart => exact ⟨0, by omega, rfl, rfl, rfl⟩
        case round =>
          obtain ⟨i, hgi, rfl, rfl, hdk⟩ := hrel
          subst hdk
          by_cases hil : i < l.length
          · obtain ⟨al, rfl, _, hcl⟩ := HL.out.int_at hil
            obtain ⟨hq, hfr, hst⟩ := HIT.out i hil
            have HST2 := Lib.hid hst
            have HADJ2 : Hid (∀ i', i = i' + 1 → has (row (clr r) (l.getD i' 0)) (l.getD i 0) = true) := by
              show ∀ i', _
              intro i' e
              subst e
              exact HAT.out i' hil
            have hA0 := shr_bit (accL LL t i) (l.getD i 0)
            rw [hfr] at hA0
            simp only [Bool.false_eq_true, if_false] at hA0
            have hq64 : l.getD i 0 < 64 := by omega
            clear hst hfr
            rcases Nat.eq_zero_or_pos i with h0 | h0
            · subst h0
              have hcl0 : wr.cell? al = some (.int .i64 (l.getD 0 0 : Int)) := by simpa [Addr.add] using hcl
              clear hcl
              generalize l.getD 0 0 = y at *
              generalize accL LL t 0 = A at *
              go_wp2
              go_roundg (l.length - 1)
              case measure => omega
              case rel => exact ⟨1, by omega, by go_num, by rw [HST2.out], rfl⟩
            · have hi'l : i - 1 < l.length := by omega
              have s1 : IntKind.i64.wrap ((i : Int) - 1) = (i : Int) - 1 := IntWalk.i64_in _ (by omega)
              have s2 : ((i : Int) - 1).toNat = i - 1 := by omega
              have s3 : 0 ≤ (i : Int) - 1 := by omega
              have s4 : (i : Int) - 1 < (l.length : Int) := by omega
              have hd4 : decide (0 < (i : Int)) = true := decide_eq_true (by omega)
              have hd5 : decide (0 < i) = true := decide_eq_true h0
              obtain ⟨al2, hal2, _, hcl2⟩ := HL.out.int_at hi'l
              injection hal2 with hal2
              subst hal2
              have hq2 := (HIT.out (i - 1) hi'l).1
              obtain ⟨adc, rfl, _, hcc⟩ := HCL.out.cell hq2
              have hx1 := shr_bit (row (clr r) (l.getD (i - 1) 0)) (l.getD i 0)
              rw [HADJ2.out (i - 1) (by omega), if_pos rfl] at hx1
              clear HADJ2
              generalize l.getD i 0 = y at *
              generalize row (clr r) (l.getD (i - 1) 0) = x at *
              generalize l.getD (i - 1) 0 = y' at *
              generalize accL LL t i = A at *
              go_wp2
              go_roundg (l.length - (i + 1))
              case measure => omega
              case rel => exact ⟨i + 1, by omega, by go_num, by rw [HST2.out], rfl⟩
          · obtain rfl : i = l.length := by omega
            go_wp2
            go_roundg (LL.length - (t + 1))
            case measure => omega
            case rel => exact ⟨t + 1, by omega, by go_num, by rw [HNX.out], rfl⟩
      · obtain rfl : t = LL.length := by omega
        rw [HALL.out]
        have HOK : Hid (allOk [(0 : Int), 0] = true) := by show _ = _; decide
        clear HN3 HCL
        go_wp2_with (first | (go_at_call 20; refine (Below_ok _ h64 _).mono ?_; rintro e w' ⟨rfl, rfl⟩) | (go_at_call 21; refine (good2 _ _ _).mono ?_; rw [HOK.out]; rintro e w' ⟨rfl, rfl⟩))
        go_ret
        exact ⟨rfl, HB3.out.alloc HB3.out.size _⟩
  · have hb := below_next hb1 hb2
    clear hb1 hb2 hR1 hT1 hne hO hS
    go_wp2
    go_ret
    exact ⟨rfl, hb⟩
end Go.Proofs.YtklikjjipoghlaaDoor
